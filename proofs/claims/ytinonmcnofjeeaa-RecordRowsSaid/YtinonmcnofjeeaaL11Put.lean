/- The program's writer of maps, features, operations; what it makes of a record. -/
import Derived.Test.YtinonmcnofjeeaaL11W
import Derived.Test.YtinonmcnofjeeaaL11RefC
namespace Go.Proofs.Ytinonmcnofjeeaa.VM
set_option linter.unusedSimpArgs false
set_option linter.unusedVariables false
set_option linter.defProp false
set_option maxHeartbeats 1000000
attribute [local irreducible] Af Nx EvO Ev Un Gd Cd EvR EvQ EvC Nc Gc Lp
section
variable {P : Program}
theorem wname (g : Pg P tab) {x y : Int} {k : List (Nat × Blk)} {h : Heap} {b : Nat} {s : List Nat} (w : WR k h b s)
    (hl : s.length + 3 ≤ 140737488355328) {Q : AV → Heap → Prop} (q : ∀ v h', WR k h' b (s ++ txB x y) → Q v h') : Cl P 48 [.ptr b 0, .agg [.int .i64 x, .int .i64 y]] h Q := by
  refine g.cl (vf := v48) rfl rfl ?_
  simp only [v48, R0, R1, R2, R3, R4, R5, R6, R7, bxC, bsC, AV.cells, un, most, callsOf, List.contains_nil, List.contains_cons, beq_iff_eq, List.getElem?_cons_zero, List.getElem?_cons_succ, seval, Int.reducePow, ↓reduceIte, Nat.reduceEqDiff, reduceCtorEq, and_self]
  refine wnum (n := 1) g (num1_pu g x) (by decide) (w.add _) (by omega) fun v h1 w1 => ?_
  have hk := (w1.keep _ List.mem_cons_self).2.2
  simp only at hk
  simp only [hk, R0, R1, R2, R3, R4, R5, R6, R7, bxC, bsC, AV.cells, un, most, callsOf, List.contains_nil, List.contains_cons, beq_iff_eq, List.getElem?_cons_zero, List.getElem?_cons_succ, seval, Int.reducePow, ↓reduceIte, Nat.reduceEqDiff, reduceCtorEq, and_self]
  refine wnum (n := 2) g (num2_pu g y) (by decide) w1 (by rw [List.length_append, numB_len]; omega) fun v h2 w2 => ?_
  simp only [R0, R1, R2, R3, R4, R5, R6, R7, bxC, bsC, AV.cells, un, most, callsOf, List.contains_nil, List.contains_cons, beq_iff_eq, List.getElem?_cons_zero, List.getElem?_cons_succ, seval, Int.reducePow, ↓reduceIte, Nat.reduceEqDiff, reduceCtorEq, and_self]
  exact q _ _ (by rw [txB, ← List.append_assoc]; exact w2.less)
theorem wbool (g : Pg P tab) {t : Bool} {k : List (Nat × Blk)} {h : Heap} {b : Nat} {s : List Nat} (w : WR k h b s)
    (hl : s.length + 1 ≤ 140737488355328) {Q : AV → Heap → Prop} (q : ∀ v h', WR k h' b (s ++ bitB t) → Q v h') : Cl P 50 [.ptr b 0, .bool t] h Q := by
  refine g.cl (vf := v50) rfl rfl ?_
  cases t
  · simp only [v50, R0, R1, R2, R3, R4, R5, R6, R7, bxC, bsC, AV.cells, un, most, callsOf, List.contains_nil, List.contains_cons, beq_iff_eq, List.getElem?_cons_zero, List.getElem?_cons_succ, seval, Int.reducePow, ↓reduceIte, Nat.reduceEqDiff, reduceCtorEq, and_self]
    refine wnum (n := 1) g (num1_pu g 0) (by decide) w (by omega) fun v h1 w1 => ?_
    simp only [R0, R1, R2, R3, R4, R5, R6, R7, bxC, bsC, AV.cells, un, most, callsOf, List.contains_nil, List.contains_cons, beq_iff_eq, List.getElem?_cons_zero, List.getElem?_cons_succ, seval, Int.reducePow, ↓reduceIte, Nat.reduceEqDiff, reduceCtorEq, and_self]
    exact q _ _ w1
  · simp only [v50, R0, R1, R2, R3, R4, R5, R6, R7, bxC, bsC, AV.cells, un, most, callsOf, List.contains_nil, List.contains_cons, beq_iff_eq, List.getElem?_cons_zero, List.getElem?_cons_succ, seval, Int.reducePow, ↓reduceIte, Nat.reduceEqDiff, reduceCtorEq, and_self]
    refine wnum (n := 1) g (num1_pu g 1) (by decide) w (by omega) fun v h1 w1 => ?_
    simp only [R0, R1, R2, R3, R4, R5, R6, R7, bxC, bsC, AV.cells, un, most, callsOf, List.contains_nil, List.contains_cons, beq_iff_eq, List.getElem?_cons_zero, List.getElem?_cons_succ, seval, Int.reducePow, ↓reduceIte, Nat.reduceEqDiff, reduceCtorEq, and_self]
    exact q _ _ w1
theorem wstarts (g : Pg P tab) {l : List Int} {a : AV} (ha : IsL 8 RInt a l) {K : List (Nat × Blk)} {b : Nat} {p : AV} (acc : List Nat) (hacc : acc.length + l.length * 4 ≤ 140737488000000) (n : Nat) :
    ∀ (i : Nat) (s : T AV) (h : Heap) (k : List Fr) (Q : Ex → T AV → Heap → Prop), i + n = l.length → WR K h b (acc ++ ((l.take i).map (numB · 4)).flatten) → sg s 0 = .ptr b 0 → sg s 1 = p → sg s 24 = a → sg s 25 = .int .i64 l.length → sg s 26 = .int .i64 i →
      (∀ s' h', WR K h' b (acc ++ (l.map (numB · 4)).flatten) → sg s' 0 = .ptr b 0 → sg s' 1 = p → Un P k Q (.exit 0) s' h') → Lp P b47_0 s h (Un P k Q) := by
  have hb := ha.bound (by decide)
  induction n with
  | zero =>
    intro i s h k Q hi w h0 h1 h24 h25 h26 hK
    refine g.lpe b47_0.eq_1 ?_
    have c1 : ¬ ((i : Int) < (l.length : Int)) := by omega
    simp only [h0, h1, h24, h25, h26, c1, R0, R1, R2, R3, R4, R5, R6, R7, bxC, bsC, AV.cells, un, most, callsOf, List.contains_nil, List.contains_cons, beq_iff_eq, List.getElem?_cons_zero, List.getElem?_cons_succ, seval, Int.reducePow, ↓reduceIte, Nat.reduceEqDiff, reduceCtorEq, and_self]
    have : l.take i = l := List.take_of_length_le (by omega)
    rw [this] at w
    refine hK _ _ w ?_ ?_
    · simp only [h0, sg_set, Nat.reduceEqDiff, ↓reduceIte]
    · simp only [h1, sg_set, Nat.reduceEqDiff, ↓reduceIte]
  | succ n ih =>
    intro i s h k Q hi w h0 h1 h24 h25 h26 hK
    refine g.lpe b47_0.eq_1 ?_
    have c1 : (i : Int) < (l.length : Int) := by omega
    obtain ⟨r1, _, g1⟩ := getInt ha i (by omega)
    have w1 : IntKind.i64.wrap ((i : Int) + 1) = ((i + 1 : Nat) : Int) := by rw [w64 (by omega) (by omega)]; push_cast; rfl
    have hlt : (acc ++ ((l.take i).map (numB · 4)).flatten).length + 4 ≤ 140737488355328 := by
      have := flat_lenT (F := (numB · 4)) (B := 4) (l := l) (fun x _ => by simp only [numB_len]; omega) i
      rw [List.length_append]; omega
    simp only [h0, h1, h24, h25, h26, c1, g1, R0, R1, R2, R3, R4, R5, R6, R7, bxC, bsC, AV.cells, un, most, callsOf, List.contains_nil, List.contains_cons, beq_iff_eq, List.getElem?_cons_zero, List.getElem?_cons_succ, seval, Int.reducePow, ↓reduceIte, Nat.reduceEqDiff, reduceCtorEq, and_self]
    refine wnum (n := 4) g (num4_pu g _) (by decide) w hlt fun v h' w' => ?_
    simp only [h0, h1, h24, h25, h26, w1, R0, R1, R2, R3, R4, R5, R6, R7, bxC, bsC, AV.cells, un, most, callsOf, List.contains_nil, List.contains_cons, beq_iff_eq, List.getElem?_cons_zero, List.getElem?_cons_succ, seval, Int.reducePow, ↓reduceIte, Nat.reduceEqDiff, reduceCtorEq, and_self]
    rw [List.append_assoc, getD_int (by omega), flat_take (numB · 4) l i (by omega)] at w'
    refine ih (i + 1) _ h' k Q (by omega) w' ?_ ?_ ?_ ?_ ?_ hK
    · simp only [h0, sg_set, Nat.reduceEqDiff, ↓reduceIte]
    · simp only [h1, sg_set, Nat.reduceEqDiff, ↓reduceIte]
    · simp only [h24, sg_set, Nat.reduceEqDiff, ↓reduceIte]
    · simp only [h25, sg_set, Nat.reduceEqDiff, ↓reduceIte]
    · simp only [sg_set, Nat.reduceEqDiff, ↓reduceIte]
theorem wowners (g : Pg P tab) {l : List Int} {a : AV} (ha : IsL 8 RInt a l) {K : List (Nat × Blk)} {b : Nat} (acc : List Nat) (hacc : acc.length + l.length * 1 ≤ 140737488000000) (n : Nat) :
    ∀ (i : Nat) (s : T AV) (h : Heap) (k : List Fr) (Q : Ex → T AV → Heap → Prop), i + n = l.length → WR K h b (acc ++ ((l.take i).map (numB · 1)).flatten) → sg s 0 = .ptr b 0 → sg s 37 = a → sg s 38 = .int .i64 l.length → sg s 39 = .int .i64 i →
      (∀ s' h', WR K h' b (acc ++ (l.map (numB · 1)).flatten) → sg s' 0 = .ptr b 0 → Un P k Q (.exit 2) s' h') → Lp P b47_1 s h (Un P k Q) := by
  have hb := ha.bound (by decide)
  induction n with
  | zero =>
    intro i s h k Q hi w h0 h24 h25 h26 hK
    refine g.lpe b47_1.eq_1 ?_
    have c1 : ¬ ((i : Int) < (l.length : Int)) := by omega
    simp only [h0, h24, h25, h26, c1, R0, R1, R2, R3, R4, R5, R6, R7, bxC, bsC, AV.cells, un, most, callsOf, List.contains_nil, List.contains_cons, beq_iff_eq, List.getElem?_cons_zero, List.getElem?_cons_succ, seval, Int.reducePow, ↓reduceIte, Nat.reduceEqDiff, reduceCtorEq, and_self]
    have : l.take i = l := List.take_of_length_le (by omega)
    rw [this] at w
    refine hK _ _ w ?_
    · simp only [h0, sg_set, Nat.reduceEqDiff, ↓reduceIte]
  | succ n ih =>
    intro i s h k Q hi w h0 h24 h25 h26 hK
    refine g.lpe b47_1.eq_1 ?_
    have c1 : (i : Int) < (l.length : Int) := by omega
    obtain ⟨r1, _, g1⟩ := getInt ha i (by omega)
    have w1 : IntKind.i64.wrap ((i : Int) + 1) = ((i + 1 : Nat) : Int) := by rw [w64 (by omega) (by omega)]; push_cast; rfl
    have hlt : (acc ++ ((l.take i).map (numB · 1)).flatten).length + 1 ≤ 140737488355328 := by
      have := flat_lenT (F := (numB · 1)) (B := 1) (l := l) (fun x _ => by simp only [numB_len]; omega) i
      rw [List.length_append]; omega
    simp only [h0, h24, h25, h26, c1, g1, R0, R1, R2, R3, R4, R5, R6, R7, bxC, bsC, AV.cells, un, most, callsOf, List.contains_nil, List.contains_cons, beq_iff_eq, List.getElem?_cons_zero, List.getElem?_cons_succ, seval, Int.reducePow, ↓reduceIte, Nat.reduceEqDiff, reduceCtorEq, and_self]
    refine wnum (n := 1) g (num1_pu g _) (by decide) w hlt fun v h' w' => ?_
    simp only [h0, h24, h25, h26, w1, R0, R1, R2, R3, R4, R5, R6, R7, bxC, bsC, AV.cells, un, most, callsOf, List.contains_nil, List.contains_cons, beq_iff_eq, List.getElem?_cons_zero, List.getElem?_cons_succ, seval, Int.reducePow, ↓reduceIte, Nat.reduceEqDiff, reduceCtorEq, and_self]
    rw [List.append_assoc, getD_int (by omega), flat_take (numB · 1) l i (by omega)] at w'
    refine ih (i + 1) _ h' k Q (by omega) w' ?_ ?_ ?_ ?_ hK
    · simp only [h0, sg_set, Nat.reduceEqDiff, ↓reduceIte]
    · simp only [h24, sg_set, Nat.reduceEqDiff, ↓reduceIte]
    · simp only [h25, sg_set, Nat.reduceEqDiff, ↓reduceIte]
    · simp only [sg_set, Nat.reduceEqDiff, ↓reduceIte]
def mapArg (K : List (Nat × Blk)) (m : Mp) (a u p : AV) : Prop := (∃ r, p = .rp (.int .i64 m.epoch :: a :: u :: r)) ∨ ∃ c0 c1 c2 c3 c4 r e ver, p = .ptr 0 5 ∧ ((0, .cells (c0 :: c1 :: c2 :: c3 :: c4 :: .int .i64 m.epoch :: a :: u :: r) e ver) : Nat × Blk) ∈ K
theorem wmap (g : Pg P tab) {m : Mp} {a u p : AV} (ha : IsL 8 RInt a m.starts) (hu : IsL 8 RInt u m.owners) (hs : m.starts.length ≤ 1000) (ho : m.owners.length ≤ 1000) {K : List (Nat × Blk)} (hp : mapArg K m a u p) {h : Heap} {b : Nat} {s : List Nat} (w : WR K h b s)
    (hl : s.length ≤ 100000000000) {Q : AV → Heap → Prop} (q : ∀ v h', WR K h' b (s ++ mpB m) → Q v h') : Cl P 47 [.ptr b 0, p] h Q := by
  refine g.cl (vf := v47) rfl rfl ?_
  rcases hp with ⟨r, rfl⟩ | ⟨c0, c1, c2, c3, c4, r, e, ver, rfl, hm⟩
  · skip
    simp only [v47, R0, R1, R2, R3, R4, R5, R6, R7, bxC, bsC, AV.cells, un, most, callsOf, List.contains_nil, List.contains_cons, beq_iff_eq, List.getElem?_cons_zero, List.getElem?_cons_succ, seval, Int.reducePow, ↓reduceIte, Nat.reduceEqDiff, reduceCtorEq, and_self]
    refine wnum (n := 2) g (num2_pu g _) (by decide) w (by omega) fun v h1 w1 => ?_
    simp only [ha.len, R0, R1, R2, R3, R4, R5, R6, R7, bxC, bsC, AV.cells, un, most, callsOf, List.contains_nil, List.contains_cons, beq_iff_eq, List.getElem?_cons_zero, List.getElem?_cons_succ, seval, Int.reducePow, ↓reduceIte, Nat.reduceEqDiff, reduceCtorEq, and_self]
    refine wnum (n := 1) g (num1_pu g _) (by decide) w1 (by rw [List.length_append, numB_len]; omega) fun v h2 w2 => ?_
    simp only [ha.len, R0, R1, R2, R3, R4, R5, R6, R7, bxC, bsC, AV.cells, un, most, callsOf, List.contains_nil, List.contains_cons, beq_iff_eq, List.getElem?_cons_zero, List.getElem?_cons_succ, seval, Int.reducePow, ↓reduceIte, Nat.reduceEqDiff, reduceCtorEq, and_self]
    refine wstarts g ha (p := .rp (.int .i64 m.epoch :: a :: u :: r)) (s ++ numB m.epoch 2 ++ numB m.starts.length 1) (by rw [List.length_append, List.length_append, numB_len, numB_len]; omega) m.starts.length 0 _ _ _ _ (by omega) (by simpa using w2) ?_ ?_ ?_ ?_ ?_ ?_
    · simp only [sg_set, Nat.reduceEqDiff, ↓reduceIte]
    · simp only [sg_set, Nat.reduceEqDiff, ↓reduceIte]
    · simp only [sg_set, Nat.reduceEqDiff, ↓reduceIte]
    · simp only [sg_set, Nat.reduceEqDiff, ↓reduceIte]
    · simp only [sg_set, Nat.reduceEqDiff, ↓reduceIte]
      rfl
    · intro s' h3 w3 a0 a1
      simp only [a0, a1, hu.len, R0, R1, R2, R3, R4, R5, R6, R7, bxC, bsC, AV.cells, un, most, callsOf, List.contains_nil, List.contains_cons, beq_iff_eq, List.getElem?_cons_zero, List.getElem?_cons_succ, seval, Int.reducePow, ↓reduceIte, Nat.reduceEqDiff, reduceCtorEq, and_self]
      refine wowners g hu (s ++ numB m.epoch 2 ++ numB m.starts.length 1 ++ (m.starts.map (numB · 4)).flatten) ?_ m.owners.length 0 _ _ _ _ (by omega) (by simpa using w3) ?_ ?_ ?_ ?_ ?_
      · have := flatB_len (F := (numB · 4)) (B := 4) (l := m.starts) (fun x _ => by simp only [numB_len]; omega)
        rw [List.length_append, List.length_append, List.length_append, numB_len, numB_len]; omega
      · simp only [a0, sg_set, Nat.reduceEqDiff, ↓reduceIte]
      · simp only [sg_set, Nat.reduceEqDiff, ↓reduceIte]
      · simp only [sg_set, Nat.reduceEqDiff, ↓reduceIte]
      · simp only [sg_set, Nat.reduceEqDiff, ↓reduceIte]
        rfl
      · intro s' h4 w4 a0
        simp only [R0, R1, R2, R3, R4, R5, R6, R7, bxC, bsC, AV.cells, un, most, callsOf, List.contains_nil, List.contains_cons, beq_iff_eq, List.getElem?_cons_zero, List.getElem?_cons_succ, seval, Int.reducePow, ↓reduceIte, Nat.reduceEqDiff, reduceCtorEq, and_self]
        refine q _ _ ?_
        simpa only [mpB, List.append_assoc] using w4
  · skip
    have k0 := (w.keep _ hm).2.2
    simp only at k0
    simp only [v47, k0, R0, R1, R2, R3, R4, R5, R6, R7, bxC, bsC, AV.cells, un, most, callsOf, List.contains_nil, List.contains_cons, beq_iff_eq, List.getElem?_cons_zero, List.getElem?_cons_succ, seval, Int.reducePow, ↓reduceIte, Nat.reduceEqDiff, reduceCtorEq, and_self]
    refine wnum (n := 2) g (num2_pu g _) (by decide) w (by omega) fun v h1 w1 => ?_
    have k1 := (w1.keep _ hm).2.2
    simp only at k1
    simp only [k1, ha.len, R0, R1, R2, R3, R4, R5, R6, R7, bxC, bsC, AV.cells, un, most, callsOf, List.contains_nil, List.contains_cons, beq_iff_eq, List.getElem?_cons_zero, List.getElem?_cons_succ, seval, Int.reducePow, ↓reduceIte, Nat.reduceEqDiff, reduceCtorEq, and_self]
    refine wnum (n := 1) g (num1_pu g _) (by decide) w1 (by rw [List.length_append, numB_len]; omega) fun v h2 w2 => ?_
    have k2 := (w2.keep _ hm).2.2
    simp only at k2
    simp only [k2, ha.len, R0, R1, R2, R3, R4, R5, R6, R7, bxC, bsC, AV.cells, un, most, callsOf, List.contains_nil, List.contains_cons, beq_iff_eq, List.getElem?_cons_zero, List.getElem?_cons_succ, seval, Int.reducePow, ↓reduceIte, Nat.reduceEqDiff, reduceCtorEq, and_self]
    refine wstarts g ha (p := .ptr 0 5) (s ++ numB m.epoch 2 ++ numB m.starts.length 1) (by rw [List.length_append, List.length_append, numB_len, numB_len]; omega) m.starts.length 0 _ _ _ _ (by omega) (by simpa using w2) ?_ ?_ ?_ ?_ ?_ ?_
    · simp only [sg_set, Nat.reduceEqDiff, ↓reduceIte]
    · simp only [sg_set, Nat.reduceEqDiff, ↓reduceIte]
    · simp only [sg_set, Nat.reduceEqDiff, ↓reduceIte]
    · simp only [sg_set, Nat.reduceEqDiff, ↓reduceIte]
    · simp only [sg_set, Nat.reduceEqDiff, ↓reduceIte]
      rfl
    · intro s' h3 w3 a0 a1
      have k3 := (w3.keep _ hm).2.2
      simp only at k3
      simp only [a0, a1, k3, hu.len, R0, R1, R2, R3, R4, R5, R6, R7, bxC, bsC, AV.cells, un, most, callsOf, List.contains_nil, List.contains_cons, beq_iff_eq, List.getElem?_cons_zero, List.getElem?_cons_succ, seval, Int.reducePow, ↓reduceIte, Nat.reduceEqDiff, reduceCtorEq, and_self]
      refine wowners g hu (s ++ numB m.epoch 2 ++ numB m.starts.length 1 ++ (m.starts.map (numB · 4)).flatten) ?_ m.owners.length 0 _ _ _ _ (by omega) (by simpa using w3) ?_ ?_ ?_ ?_ ?_
      · have := flatB_len (F := (numB · 4)) (B := 4) (l := m.starts) (fun x _ => by simp only [numB_len]; omega)
        rw [List.length_append, List.length_append, List.length_append, numB_len, numB_len]; omega
      · simp only [a0, sg_set, Nat.reduceEqDiff, ↓reduceIte]
      · simp only [sg_set, Nat.reduceEqDiff, ↓reduceIte]
      · simp only [sg_set, Nat.reduceEqDiff, ↓reduceIte]
      · simp only [sg_set, Nat.reduceEqDiff, ↓reduceIte]
        rfl
      · intro s' h4 w4 a0
        simp only [R0, R1, R2, R3, R4, R5, R6, R7, bxC, bsC, AV.cells, un, most, callsOf, List.contains_nil, List.contains_cons, beq_iff_eq, List.getElem?_cons_zero, List.getElem?_cons_succ, seval, Int.reducePow, ↓reduceIte, Nat.reduceEqDiff, reduceCtorEq, and_self]
        refine q _ _ ?_
        simpa only [mpB, List.append_assoc] using w4
end
end Go.Proofs.Ytinonmcnofjeeaa.VM
