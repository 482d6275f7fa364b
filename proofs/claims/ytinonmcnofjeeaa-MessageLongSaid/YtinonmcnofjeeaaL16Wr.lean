/- The program's writer of boxes and rows of features. -/
import Derived.Test.YtinonmcnofjeeaaL16Put
import Derived.Test.YtinonmcnofjeeaaL11Put
namespace Go.Proofs.Ytinonmcnofjeeaa.VM
set_option linter.unusedSimpArgs false
set_option linter.unusedVariables false
set_option linter.defProp false
set_option maxHeartbeats 1000000
attribute [local irreducible] Af Nx EvO Ev Un Gd Cd EvR EvQ EvC Nc Gc Lp EvM NxM AfM GdM EvMR EvMQ EvMD EvMC Nm Gm
def boxB (b : Bx) : List Nat := numB b.x0 4 ++ (numB b.y0 4 ++ (numB b.x1 4 ++ numB b.y1 4))
def fsB (l : List Feat) : List Nat := numB l.length 2 ++ (l.map featB).flatten
theorem boxB_len (b : Bx) : (boxB b).length = 16 := by simp only [boxB, List.length_append, numB_len]
theorem By.box (b : Bx) : By (boxB b) := (By.num _ _).app ((By.num _ _).app ((By.num _ _).app (By.num _ _)))
theorem By.fs (l : List Feat) : By (fsB l) := (By.num _ _).app (By.flat By.feat)
theorem getD_feat {l : List Feat} {i : Nat} (hi : i < l.length) : l.getD i feat0 = l[i] := by simp [List.getD_eq_getElem?_getD, List.getElem?_eq_getElem hi]
section
variable {P : Program}
theorem wbox (g : Pg P tab) (b4 : Bx) {K : List (Nat × Blk)} {h : Heap} {b : Nat} {s : List Nat} (w : WR K h b s)
    (hl : s.length ≤ 1000000) {Q : AV → Heap → Prop} (q : ∀ v h', WR K h' b (s ++ boxB b4) → Q v h') : Cl P 72 [.ptr b 0, .agg (boxV b4)] h Q := by
  refine g.cl (vf := v72) rfl rfl ?_
  obtain ⟨x0, y0, x1, y1⟩ := b4
  have w0 := w.add (.cells [.int .i64 x0, .int .i64 y0, .int .i64 x1, .int .i64 y1] 60 0)
  simp only [v72, boxV, R0, R1, R2, R3, R4, R5, R6, R7, R8, R9, VOp.fresh, bxC, bsC, AV.cells, un, most, callsOf, List.contains_nil, List.contains_cons, beq_iff_eq, List.getElem?_cons_zero, List.getElem?_cons_succ, seval, Option.map_none, Int.reducePow, ↓reduceIte, Nat.reduceEqDiff, reduceCtorEq, and_self]
  refine g.lpe b72_0.eq_1 ?_
  simp only [R0, R1, R2, R3, R4, R5, R6, R7, R8, R9, VOp.fresh, bxC, bsC, AV.cells, un, most, callsOf, List.contains_nil, List.contains_cons, beq_iff_eq, List.getElem?_cons_zero, List.getElem?_cons_succ, seval, Option.map_none, Int.reducePow, ↓reduceIte, Nat.reduceEqDiff, reduceCtorEq, and_self]
  refine wnum (n := 4) g (num4_pu g _) (by decide) w0 (by omega) fun _ h1 w1 => ?_
  simp only [R0, R1, R2, R3, R4, R5, R6, R7, R8, R9, VOp.fresh, bxC, bsC, AV.cells, un, most, callsOf, List.contains_nil, List.contains_cons, beq_iff_eq, List.getElem?_cons_zero, List.getElem?_cons_succ, seval, Option.map_none, Int.reducePow, ↓reduceIte, Nat.reduceEqDiff, reduceCtorEq, and_self]
  refine g.lpe b72_0.eq_1 ?_
  simp only [R0, R1, R2, R3, R4, R5, R6, R7, R8, R9, VOp.fresh, bxC, bsC, AV.cells, un, most, callsOf, List.contains_nil, List.contains_cons, beq_iff_eq, List.getElem?_cons_zero, List.getElem?_cons_succ, seval, Option.map_none, Int.reducePow, ↓reduceIte, Nat.reduceEqDiff, reduceCtorEq, and_self]
  refine wnum (n := 4) g (num4_pu g _) (by decide) w1 (by simp only [List.length_append, numB_len]; omega) fun _ h2 w2 => ?_
  simp only [R0, R1, R2, R3, R4, R5, R6, R7, R8, R9, VOp.fresh, bxC, bsC, AV.cells, un, most, callsOf, List.contains_nil, List.contains_cons, beq_iff_eq, List.getElem?_cons_zero, List.getElem?_cons_succ, seval, Option.map_none, Int.reducePow, ↓reduceIte, Nat.reduceEqDiff, reduceCtorEq, and_self]
  refine g.lpe b72_0.eq_1 ?_
  simp only [R0, R1, R2, R3, R4, R5, R6, R7, R8, R9, VOp.fresh, bxC, bsC, AV.cells, un, most, callsOf, List.contains_nil, List.contains_cons, beq_iff_eq, List.getElem?_cons_zero, List.getElem?_cons_succ, seval, Option.map_none, Int.reducePow, ↓reduceIte, Nat.reduceEqDiff, reduceCtorEq, and_self]
  refine wnum (n := 4) g (num4_pu g _) (by decide) w2 (by simp only [List.length_append, numB_len]; omega) fun _ h3 w3 => ?_
  simp only [R0, R1, R2, R3, R4, R5, R6, R7, R8, R9, VOp.fresh, bxC, bsC, AV.cells, un, most, callsOf, List.contains_nil, List.contains_cons, beq_iff_eq, List.getElem?_cons_zero, List.getElem?_cons_succ, seval, Option.map_none, Int.reducePow, ↓reduceIte, Nat.reduceEqDiff, reduceCtorEq, and_self]
  refine g.lpe b72_0.eq_1 ?_
  simp only [R0, R1, R2, R3, R4, R5, R6, R7, R8, R9, VOp.fresh, bxC, bsC, AV.cells, un, most, callsOf, List.contains_nil, List.contains_cons, beq_iff_eq, List.getElem?_cons_zero, List.getElem?_cons_succ, seval, Option.map_none, Int.reducePow, ↓reduceIte, Nat.reduceEqDiff, reduceCtorEq, and_self]
  refine wnum (n := 4) g (num4_pu g _) (by decide) w3 (by simp only [List.length_append, numB_len]; omega) fun _ h4 w4 => ?_
  simp only [R0, R1, R2, R3, R4, R5, R6, R7, R8, R9, VOp.fresh, bxC, bsC, AV.cells, un, most, callsOf, List.contains_nil, List.contains_cons, beq_iff_eq, List.getElem?_cons_zero, List.getElem?_cons_succ, seval, Option.map_none, Int.reducePow, ↓reduceIte, Nat.reduceEqDiff, reduceCtorEq, and_self]
  refine g.lpe b72_0.eq_1 ?_
  simp only [R0, R1, R2, R3, R4, R5, R6, R7, R8, R9, VOp.fresh, bxC, bsC, AV.cells, un, most, callsOf, List.contains_nil, List.contains_cons, beq_iff_eq, List.getElem?_cons_zero, List.getElem?_cons_succ, seval, Option.map_none, Int.reducePow, ↓reduceIte, Nat.reduceEqDiff, reduceCtorEq, and_self]
  refine q _ _ ?_
  have := w4.less
  simpa only [boxB, List.append_assoc] using this
theorem wfs (g : Pg P tab) {m : Ms} {a u : AV} (hu : IsL 40 RFeat u m.fs) (hs : ∀ f ∈ m.fs, featSmall f) (hl : m.fs.length ≤ 1000) {K : List (Nat × Blk)} {e : TypeId} {ver : Nat} (hm : ((0, .cells (msC m a u) e ver) : Nat × Blk) ∈ K) {b : Nat} (acc : List Nat) (hacc : acc.length ≤ 10000) (n : Nat) :
    ∀ (i : Nat) (s : T AV) (h : Heap) (k : List Fr) (Q : Ex → T AV → Heap → Prop), i + n = m.fs.length → WR K h b (acc ++ ((m.fs.take i).map featB).flatten) → sg s 1 = .ptr 0 0 → sg s 6 = .ptr b 0 → sg s 81 = .int .i64 m.fs.length → sg s 82 = .int .i64 i →
      (∀ s' h', WR K h' b (acc ++ (m.fs.map featB).flatten) → sg s' 6 = .ptr b 0 → Un P k Q (.exit 2) s' h') → Lp P b25_1 s h (Un P k Q) := by
  induction n with
  | zero =>
    intro i s h k Q hi w h1 h6 h81 h82 hK
    refine g.lpe b25_1.eq_1 ?_
    have c1 : ¬ ((i : Int) < (m.fs.length : Int)) := by omega
    simp only [h81, h82, c1, R0, R1, R2, R3, R4, R5, R6, R7, R8, R9, VOp.fresh, bxC, bsC, AV.cells, un, most, callsOf, List.contains_nil, List.contains_cons, beq_iff_eq, List.getElem?_cons_zero, List.getElem?_cons_succ, seval, Option.map_none, Int.reducePow, ↓reduceIte, Nat.reduceEqDiff, reduceCtorEq, and_self]
    rw [List.take_of_length_le (by omega)] at w
    refine hK _ _ w ?_
    · simp only [h6, sg_set, Nat.reduceEqDiff, ↓reduceIte]
  | succ n ih =>
    intro i s h k Q hi w h1 h6 h81 h82 hK
    refine g.lpe b25_1.eq_1 ?_
    have c1 : (i : Int) < (m.fs.length : Int) := by omega
    obtain ⟨rv, r1, hrv, _, _, _, g1⟩ := getFeat hu i (by omega)
    have w1 : IntKind.i64.wrap ((i : Int) + 1) = ((i + 1 : Nat) : Int) := by rw [w64 (by omega) (by omega)]; push_cast; rfl
    have hlt : (acc ++ ((m.fs.take i).map featB).flatten).length ≤ 100000000000 := by
      have := flat_lenT (F := featB) (B := 9000000) (l := m.fs) (fun x hx => featB_len (hs x hx)) i
      rw [List.length_append]
      have : m.fs.length * 9000000 ≤ 1000 * 9000000 := Nat.mul_le_mul_right _ hl
      omega
    have hk := (w.keep _ hm).2.2
    simp only [msC] at hk
    simp only [h1, h6, h81, h82, c1, hk, g1, R0, R1, R2, R3, R4, R5, R6, R7, R8, R9, VOp.fresh, bxC, bsC, AV.cells, un, most, callsOf, List.contains_nil, List.contains_cons, beq_iff_eq, List.getElem?_cons_zero, List.getElem?_cons_succ, seval, Option.map_none, Int.reducePow, ↓reduceIte, Nat.reduceEqDiff, reduceCtorEq, and_self]
    refine wfeat g hrv (by rw [getD_feat (by omega)]; exact hs _ (List.getElem_mem _)) w hlt fun v h' w' => ?_
    simp only [h82, w1, R0, R1, R2, R3, R4, R5, R6, R7, R8, R9, VOp.fresh, bxC, bsC, AV.cells, un, most, callsOf, List.contains_nil, List.contains_cons, beq_iff_eq, List.getElem?_cons_zero, List.getElem?_cons_succ, seval, Option.map_none, Int.reducePow, ↓reduceIte, Nat.reduceEqDiff, reduceCtorEq, and_self]
    rw [List.append_assoc, getD_feat (by omega), flat_take featB m.fs i (by omega)] at w'
    refine ih (i + 1) _ h' k Q (by omega) w' ?_ ?_ ?_ ?_ hK
    · simp only [h1, sg_set, Nat.reduceEqDiff, ↓reduceIte]
    · simp only [h6, sg_set, Nat.reduceEqDiff, ↓reduceIte]
    · simp only [h81, sg_set, Nat.reduceEqDiff, ↓reduceIte]
    · simp only [sg_set, Nat.reduceEqDiff, ↓reduceIte]
end
end Go.Proofs.Ytinonmcnofjeeaa.VM
