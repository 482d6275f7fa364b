/- The program's writer of features and operations. -/
import Derived.Test.YtinonmcnofjeeaaL11Put
namespace Go.Proofs.Ytinonmcnofjeeaa.VM
set_option linter.unusedSimpArgs false
set_option linter.unusedVariables false
set_option linter.defProp false
set_option maxHeartbeats 1000000
attribute [local irreducible] Af Nx EvO Ev Un Gd Cd EvR EvQ EvC Nc Gc Lp
section
variable {P : Program}
theorem wpts (g : Pg P tab) {l : List Pt} {a : AV} (ha : IsL 16 RPt a l) {K : List (Nat × Blk)} {b : Nat} {x30 x31 x32 : AV} (acc : List Nat) (hacc : acc.length + l.length * 8 ≤ 140737488000000) (n : Nat) :
    ∀ (i : Nat) (s : T AV) (h : Heap) (k : List Fr) (Q : Ex → T AV → Heap → Prop), i + n = l.length → WR K h b (acc ++ ((l.take i).map ptB).flatten) → sg s 0 = .ptr b 0 → sg s 30 = x30 → sg s 31 = x31 → sg s 32 = x32 → sg s 40 = a → sg s 41 = .int .i64 l.length → sg s 42 = .int .i64 i →
      (∀ s' h', WR K h' b (acc ++ (l.map ptB).flatten) → sg s' 0 = .ptr b 0 → sg s' 30 = x30 → sg s' 31 = x31 → sg s' 32 = x32 → Un P k Q (.exit 2) s' h') → Lp P b73_0 s h (Un P k Q) := by
  have hb := ha.bound (by decide)
  induction n with
  | zero =>
    intro i s h k Q hi w h0 h30 h31 h32 h40 h41 h42 hK
    refine g.lpe b73_0.eq_1 ?_
    have c1 : ¬ ((i : Int) < (l.length : Int)) := by omega
    simp only [h0, h30, h31, h32, h40, h41, h42, c1, R0, R1, R2, R3, R4, R5, R6, R7, bxC, bsC, AV.cells, un, most, callsOf, List.contains_nil, List.contains_cons, beq_iff_eq, List.getElem?_cons_zero, List.getElem?_cons_succ, seval, Int.reducePow, ↓reduceIte, Nat.reduceEqDiff, reduceCtorEq, and_self]
    have : l.take i = l := List.take_of_length_le (by omega)
    rw [this] at w
    refine hK _ _ w ?_ ?_ ?_ ?_
    · simp only [h0, sg_set, Nat.reduceEqDiff, ↓reduceIte]
    · simp only [h30, sg_set, Nat.reduceEqDiff, ↓reduceIte]
    · simp only [h31, sg_set, Nat.reduceEqDiff, ↓reduceIte]
    · simp only [h32, sg_set, Nat.reduceEqDiff, ↓reduceIte]
  | succ n ih =>
    intro i s h k Q hi w h0 h30 h31 h32 h40 h41 h42 hK
    refine g.lpe b73_0.eq_1 ?_
    have c1 : (i : Int) < (l.length : Int) := by omega
    obtain ⟨r1, _, g1⟩ := getPt ha i (by omega)
    have w1 : IntKind.i64.wrap ((i : Int) + 1) = ((i + 1 : Nat) : Int) := by rw [w64 (by omega) (by omega)]; push_cast; rfl
    have hA0 : (acc ++ ((l.take i).map ptB).flatten).length + 8 ≤ 140737488355328 := by
      have := flat_lenT (F := ptB) (B := 8) (l := l) (fun x _ => by rw [ptB_len]; omega) i
      rw [List.length_append]; omega
    have hA1 : acc ++ ((l.take i).map ptB).flatten ++ ptB (l.getD i ⟨0, 0⟩) = acc ++ ((l.take (i + 1)).map ptB).flatten := by
      rw [getD_pt (by omega), List.append_assoc, flat_take ptB l i (by omega)]
    generalize acc ++ ((l.take i).map ptB).flatten = A at *
    generalize l.getD i ⟨0, 0⟩ = pt at *
    simp only [RW, h0, h30, h31, h32, h40, h41, h42, c1, g1, R0, R1, R2, R3, R4, R5, R6, R7, bxC, bsC, AV.cells, un, most, callsOf, List.contains_nil, List.contains_cons, beq_iff_eq, List.getElem?_cons_zero, List.getElem?_cons_succ, seval, Int.reducePow, ↓reduceIte, Nat.reduceEqDiff, reduceCtorEq, and_self]
    refine wnum (n := 4) g (num4_pu g _) (by decide) ((w.add _).upd w.fresh _) (by omega) fun v h1 w2 => ?_
    have hk := (w2.keep _ List.mem_cons_self).2.2
    simp only at hk
    simp only [h0, h30, h31, h32, h40, h41, h42, hk, R0, R1, R2, R3, R4, R5, R6, R7, bxC, bsC, AV.cells, un, most, callsOf, List.contains_nil, List.contains_cons, beq_iff_eq, List.getElem?_cons_zero, List.getElem?_cons_succ, seval, Int.reducePow, ↓reduceIte, Nat.reduceEqDiff, reduceCtorEq, and_self]
    refine wnum (n := 4) g (num4_pu g _) (by decide) w2 (by rw [List.length_append, numB_len]; omega) fun v h1 w3 => ?_
    simp only [h0, h30, h31, h32, h40, h41, h42, w1, R0, R1, R2, R3, R4, R5, R6, R7, bxC, bsC, AV.cells, un, most, callsOf, List.contains_nil, List.contains_cons, beq_iff_eq, List.getElem?_cons_zero, List.getElem?_cons_succ, seval, Int.reducePow, ↓reduceIte, Nat.reduceEqDiff, reduceCtorEq, and_self]
    have w4 := w3.less
    rw [List.append_assoc, ← ptB, hA1] at w4
    refine ih (i + 1) _ _ k Q (by omega) w4 ?_ ?_ ?_ ?_ ?_ ?_ ?_ hK
    · simp only [h0, sg_set, Nat.reduceEqDiff, ↓reduceIte]
    · simp only [h30, sg_set, Nat.reduceEqDiff, ↓reduceIte]
    · simp only [h31, sg_set, Nat.reduceEqDiff, ↓reduceIte]
    · simp only [h32, sg_set, Nat.reduceEqDiff, ↓reduceIte]
    · simp only [h40, sg_set, Nat.reduceEqDiff, ↓reduceIte]
    · simp only [h41, sg_set, Nat.reduceEqDiff, ↓reduceIte]
    · simp only [sg_set, Nat.reduceEqDiff, ↓reduceIte]
theorem wrings (g : Pg P tab) {l : List (List Pt)} {a : AV} (ha : IsL 24 RRing a l) (hl2 : ∀ r ∈ l, r.length ≤ 1000) {K : List (Nat × Blk)} {b : Nat} (acc : List Nat) (hacc : acc.length + l.length * 8001 ≤ 140737400000000) (n : Nat) :
    ∀ (i : Nat) (s : T AV) (h : Heap) (k : List Fr) (Q : Ex → T AV → Heap → Prop), i + n = l.length → WR K h b (acc ++ ((l.take i).map ringB).flatten) → sg s 0 = .ptr b 0 → sg s 30 = a → sg s 31 = .int .i64 l.length → sg s 32 = .int .i64 i →
      (∀ s' h', WR K h' b (acc ++ (l.map ringB).flatten) → Un P k Q (.exit 0) s' h') → Lp P b73_1 s h (Un P k Q) := by
  have hb := ha.bound (by decide)
  induction n with
  | zero =>
    intro i s h k Q hi w h0 h30 h31 h32 hK
    refine g.lpe b73_1.eq_1 ?_
    have c1 : ¬ ((i : Int) < (l.length : Int)) := by omega
    simp only [h0, h30, h31, h32, c1, R0, R1, R2, R3, R4, R5, R6, R7, bxC, bsC, AV.cells, un, most, callsOf, List.contains_nil, List.contains_cons, beq_iff_eq, List.getElem?_cons_zero, List.getElem?_cons_succ, seval, Int.reducePow, ↓reduceIte, Nat.reduceEqDiff, reduceCtorEq, and_self]
    have : l.take i = l := List.take_of_length_le (by omega)
    rw [this] at w
    exact hK _ _ w
  | succ n ih =>
    intro i s h k Q hi w h0 h30 h31 h32 hK
    refine g.lpe b73_1.eq_1 ?_
    have c1 : (i : Int) < (l.length : Int) := by omega
    obtain ⟨rv, r1, hrv, _, g1⟩ := getRing ha i (by omega)
    have hrl : (l.getD i []).length ≤ 1000 := by rw [getD_ring (by omega)]; exact hl2 _ (List.getElem_mem _)
    have w1 : IntKind.i64.wrap ((i : Int) + 1) = ((i + 1 : Nat) : Int) := by rw [w64 (by omega) (by omega)]; push_cast; rfl
    have hA0 : (acc ++ ((l.take i).map ringB).flatten).length ≤ 140737400000000 := by
      have := flat_lenT (F := ringB) (B := 8001) (l := l) (fun x hx => ringB_len (hl2 x hx)) i
      rw [List.length_append]; omega
    have hA1 : acc ++ ((l.take i).map ringB).flatten ++ ringB (l.getD i []) = acc ++ ((l.take (i + 1)).map ringB).flatten := by
      rw [getD_ring (by omega), List.append_assoc, flat_take ringB l i (by omega)]
    generalize acc ++ ((l.take i).map ringB).flatten = A at *
    generalize l.getD i [] = ring at *
    simp only [h0, h30, h31, h32, c1, g1, hrv.len, R0, R1, R2, R3, R4, R5, R6, R7, bxC, bsC, AV.cells, un, most, callsOf, List.contains_nil, List.contains_cons, beq_iff_eq, List.getElem?_cons_zero, List.getElem?_cons_succ, seval, Int.reducePow, ↓reduceIte, Nat.reduceEqDiff, reduceCtorEq, and_self]
    refine wnum (n := 1) g (num1_pu g _) (by decide) w (by omega) fun v h1 w2 => ?_
    simp only [h0, h30, h31, h32, hrv.len, R0, R1, R2, R3, R4, R5, R6, R7, bxC, bsC, AV.cells, un, most, callsOf, List.contains_nil, List.contains_cons, beq_iff_eq, List.getElem?_cons_zero, List.getElem?_cons_succ, seval, Int.reducePow, ↓reduceIte, Nat.reduceEqDiff, reduceCtorEq, and_self]
    refine wpts g hrv (x30 := a) (x31 := .int .i64 l.length) (x32 := .int .i64 i) (A ++ numB ring.length 1) (by rw [List.length_append, numB_len]; omega) ring.length 0 _ _ _ _ (by omega) (by simpa using w2) ?_ ?_ ?_ ?_ ?_ ?_ ?_ ?_
    · simp only [h0, sg_set, Nat.reduceEqDiff, ↓reduceIte]
    · simp only [h30, sg_set, Nat.reduceEqDiff, ↓reduceIte]
    · simp only [h31, sg_set, Nat.reduceEqDiff, ↓reduceIte]
    · simp only [h32, sg_set, Nat.reduceEqDiff, ↓reduceIte]
    · simp only [sg_set, Nat.reduceEqDiff, ↓reduceIte]
    · simp only [sg_set, Nat.reduceEqDiff, ↓reduceIte]
    · simp only [sg_set, Nat.reduceEqDiff, ↓reduceIte]
      rfl
    · intro s' h' w3 a0 a30 a31 a32
      simp only [a0, a30, a31, a32, w1, R0, R1, R2, R3, R4, R5, R6, R7, bxC, bsC, AV.cells, un, most, callsOf, List.contains_nil, List.contains_cons, beq_iff_eq, List.getElem?_cons_zero, List.getElem?_cons_succ, seval, Int.reducePow, ↓reduceIte, Nat.reduceEqDiff, reduceCtorEq, and_self]
      rw [List.append_assoc, ← ringB, hA1] at w3
      refine ih (i + 1) _ _ k Q (by omega) w3 ?_ ?_ ?_ ?_ hK
      · simp only [a0, sg_set, Nat.reduceEqDiff, ↓reduceIte]
      · simp only [a30, sg_set, Nat.reduceEqDiff, ↓reduceIte]
      · simp only [a31, sg_set, Nat.reduceEqDiff, ↓reduceIte]
      · simp only [sg_set, Nat.reduceEqDiff, ↓reduceIte]
theorem wfeat (g : Pg P tab) {f : Feat} {v : AV} (hv : IsL 24 RRing v f.rings) (hs : featSmall f) {r : List AV} {K : List (Nat × Blk)} {h : Heap} {b : Nat} {s : List Nat} (w : WR K h b s)
    (hl : s.length ≤ 100000000000) {Q : AV → Heap → Prop} (q : ∀ v h', WR K h' b (s ++ featB f) → Q v h') : Cl P 73 [.ptr b 0, .rp (.int .i64 f.id :: .int .i64 f.shape :: v :: r)] h Q := by
  refine g.cl (vf := v73) rfl rfl ?_
  simp only [v73, R0, R1, R2, R3, R4, R5, R6, R7, bxC, bsC, AV.cells, un, most, callsOf, List.contains_nil, List.contains_cons, beq_iff_eq, List.getElem?_cons_zero, List.getElem?_cons_succ, seval, Int.reducePow, ↓reduceIte, Nat.reduceEqDiff, reduceCtorEq, and_self]
  refine wnum (n := 2) g (num2_pu g _) (by decide) w (by omega) fun _ h1 w1 => ?_
  simp only [R0, R1, R2, R3, R4, R5, R6, R7, bxC, bsC, AV.cells, un, most, callsOf, List.contains_nil, List.contains_cons, beq_iff_eq, List.getElem?_cons_zero, List.getElem?_cons_succ, seval, Int.reducePow, ↓reduceIte, Nat.reduceEqDiff, reduceCtorEq, and_self]
  refine wnum (n := 1) g (num1_pu g _) (by decide) w1 (by rw [List.length_append, numB_len]; omega) fun _ h2 w2 => ?_
  simp only [hv.len, R0, R1, R2, R3, R4, R5, R6, R7, bxC, bsC, AV.cells, un, most, callsOf, List.contains_nil, List.contains_cons, beq_iff_eq, List.getElem?_cons_zero, List.getElem?_cons_succ, seval, Int.reducePow, ↓reduceIte, Nat.reduceEqDiff, reduceCtorEq, and_self]
  refine wnum (n := 1) g (num1_pu g _) (by decide) w2 (by rw [List.length_append, List.length_append, numB_len, numB_len]; omega) fun _ h3 w3 => ?_
  simp only [hv.len, R0, R1, R2, R3, R4, R5, R6, R7, bxC, bsC, AV.cells, un, most, callsOf, List.contains_nil, List.contains_cons, beq_iff_eq, List.getElem?_cons_zero, List.getElem?_cons_succ, seval, Int.reducePow, ↓reduceIte, Nat.reduceEqDiff, reduceCtorEq, and_self]
  refine wrings g hv hs.2 (s ++ numB f.id 2 ++ numB f.shape 1 ++ numB f.rings.length 1) ?_ f.rings.length 0 _ _ _ _ (by omega) (by simpa using w3) ?_ ?_ ?_ ?_ ?_
  · have := hs.1
    simp only [List.length_append, numB_len]; omega
  · simp only [sg_set, Nat.reduceEqDiff, ↓reduceIte]
  · simp only [sg_set, Nat.reduceEqDiff, ↓reduceIte]
  · simp only [sg_set, Nat.reduceEqDiff, ↓reduceIte]
  · simp only [sg_set, Nat.reduceEqDiff, ↓reduceIte]
    rfl
  · intro s' h4 w4
    simp only [R0, R1, R2, R3, R4, R5, R6, R7, bxC, bsC, AV.cells, un, most, callsOf, List.contains_nil, List.contains_cons, beq_iff_eq, List.getElem?_cons_zero, List.getElem?_cons_succ, seval, Int.reducePow, ↓reduceIte, Nat.reduceEqDiff, reduceCtorEq, and_self]
    refine q _ _ ?_
    simpa only [featB, List.append_assoc] using w4
end
end Go.Proofs.Ytinonmcnofjeeaa.VM
