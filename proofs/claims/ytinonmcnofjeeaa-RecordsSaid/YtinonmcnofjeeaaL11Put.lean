/- The program's writer of maps, features, operations; what it makes of a record. -/
import Derived.Test.YtinonmcnofjeeaaL11Num
import Derived.Test.YtinonmcnofjeeaaL11Ref
namespace Go.Proofs.Ytinonmcnofjeeaa.VM
set_option linter.unusedSimpArgs false
set_option linter.unusedVariables false
set_option linter.defProp false
set_option maxHeartbeats 1000000
attribute [local irreducible] Af Nx EvO Ev Un Gd Cd EvR EvQ EvC Nc Gc Lp EvM NxM AfM GdM EvMR EvMQ EvMD EvMC Nm Gm
section
variable {P : Program}
theorem wname (g : Pg P tab) {x y : Int} {k : List (Nat × Blk)} {h : Heap} {b : Nat} {s : List Nat} (w : WR k h b s)
    (hl : s.length + 3 ≤ 140737488355328) {Q : AV → Heap → Prop} (q : ∀ v h', WR k h' b (s ++ txB x y) → Q v h') : Cl P 48 [.ptr b 0, .agg [.int .i64 x, .int .i64 y]] h Q := by
  refine g.cl (vf := v48) rfl rfl ?_
  simp only [v48, R0, R1, R2, R3, R4, R5, R6, R7, R8, R9, VOp.fresh, bxC, bsC, R10, un, most, callsOf, List.contains_nil, List.contains_cons, beq_iff_eq, List.getElem?_cons_zero, List.getElem?_cons_succ, seval, Option.map_none, Int.reducePow, ↓reduceIte, Nat.reduceEqDiff, reduceCtorEq, and_self]
  refine wnum (n := 1) g (num1_pu g x) (by decide) (w.add _) (by omega) fun v h1 w1 => ?_
  have hk := (w1.keep _ List.mem_cons_self).2.2
  simp only at hk
  simp only [hk, R0, R1, R2, R3, R4, R5, R6, R7, R8, R9, VOp.fresh, bxC, bsC, R10, un, most, callsOf, List.contains_nil, List.contains_cons, beq_iff_eq, List.getElem?_cons_zero, List.getElem?_cons_succ, seval, Option.map_none, Int.reducePow, ↓reduceIte, Nat.reduceEqDiff, reduceCtorEq, and_self]
  refine wnum (n := 2) g (num2_pu g y) (by decide) w1 (by rw [List.length_append, numB_len]; omega) fun v h2 w2 => ?_
  simp only [R0, R1, R2, R3, R4, R5, R6, R7, R8, R9, VOp.fresh, bxC, bsC, R10, un, most, callsOf, List.contains_nil, List.contains_cons, beq_iff_eq, List.getElem?_cons_zero, List.getElem?_cons_succ, seval, Option.map_none, Int.reducePow, ↓reduceIte, Nat.reduceEqDiff, reduceCtorEq, and_self]
  exact q _ _ (by rw [txB, ← List.append_assoc]; exact w2.less)
theorem wbool (g : Pg P tab) {t : Bool} {k : List (Nat × Blk)} {h : Heap} {b : Nat} {s : List Nat} (w : WR k h b s)
    (hl : s.length + 1 ≤ 140737488355328) {Q : AV → Heap → Prop} (q : ∀ v h', WR k h' b (s ++ bitB t) → Q v h') : Cl P 50 [.ptr b 0, .bool t] h Q := by
  refine g.cl (vf := v50) rfl rfl ?_
  cases t
  · simp only [v50, R0, R1, R2, R3, R4, R5, R6, R7, R8, R9, VOp.fresh, bxC, bsC, R10, un, most, callsOf, List.contains_nil, List.contains_cons, beq_iff_eq, List.getElem?_cons_zero, List.getElem?_cons_succ, seval, Option.map_none, Int.reducePow, ↓reduceIte, Nat.reduceEqDiff, reduceCtorEq, and_self]
    refine wnum (n := 1) g (num1_pu g 0) (by decide) w (by omega) fun v h1 w1 => ?_
    simp only [R0, R1, R2, R3, R4, R5, R6, R7, R8, R9, VOp.fresh, bxC, bsC, R10, un, most, callsOf, List.contains_nil, List.contains_cons, beq_iff_eq, List.getElem?_cons_zero, List.getElem?_cons_succ, seval, Option.map_none, Int.reducePow, ↓reduceIte, Nat.reduceEqDiff, reduceCtorEq, and_self]
    exact q _ _ w1
  · simp only [v50, R0, R1, R2, R3, R4, R5, R6, R7, R8, R9, VOp.fresh, bxC, bsC, R10, un, most, callsOf, List.contains_nil, List.contains_cons, beq_iff_eq, List.getElem?_cons_zero, List.getElem?_cons_succ, seval, Option.map_none, Int.reducePow, ↓reduceIte, Nat.reduceEqDiff, reduceCtorEq, and_self]
    refine wnum (n := 1) g (num1_pu g 1) (by decide) w (by omega) fun v h1 w1 => ?_
    simp only [R0, R1, R2, R3, R4, R5, R6, R7, R8, R9, VOp.fresh, bxC, bsC, R10, un, most, callsOf, List.contains_nil, List.contains_cons, beq_iff_eq, List.getElem?_cons_zero, List.getElem?_cons_succ, seval, Option.map_none, Int.reducePow, ↓reduceIte, Nat.reduceEqDiff, reduceCtorEq, and_self]
    exact q _ _ w1
theorem wstarts (g : Pg P tab) {l : List Int} {a : AV} (ha : IsL 8 RInt a l) {K : List (Nat × Blk)} {b : Nat} {p : AV} (acc : List Nat) (hacc : acc.length + l.length * 4 ≤ 140737488000000) (n : Nat) :
    ∀ (i : Nat) (s : T AV) (h : Heap) (k : List Fr) (Q : Ex → T AV → Heap → Prop), i + n = l.length → WR K h b (acc ++ ((l.take i).map (numB · 4)).flatten) → sg s 0 = .ptr b 0 → sg s 1 = p → sg s 24 = a → sg s 25 = .int .i64 l.length → sg s 26 = .int .i64 i →
      (∀ s' h', WR K h' b (acc ++ (l.map (numB · 4)).flatten) → sg s' 0 = .ptr b 0 → sg s' 1 = p → Un P k Q (.exit 0) s' h') → Lp P b47_0 s h (Un P k Q) := by
  have hb := ha.bound (by decide)
  induction n with
  | zero =>
    intro i s h k Q hi w h0 h1 h24 h25 h26 hK
    refine g.lpe b47_0.eq_1 ?_
    have c1 : ¬ ((i : Int) < (l.length : Int)) := by omega
    simp only [h0, h1, h24, h25, h26, c1, R0, R1, R2, R3, R4, R5, R6, R7, R8, R9, VOp.fresh, bxC, bsC, R10, un, most, callsOf, List.contains_nil, List.contains_cons, beq_iff_eq, List.getElem?_cons_zero, List.getElem?_cons_succ, seval, Option.map_none, Int.reducePow, ↓reduceIte, Nat.reduceEqDiff, reduceCtorEq, and_self]
    have : l.take i = l := List.take_of_length_le (by omega)
    rw [this] at w
    refine hK _ _ w ?_ ?_
    · simp only [h0, sg_set, Nat.reduceEqDiff, ↓reduceIte]
    · simp only [h1, sg_set, Nat.reduceEqDiff, ↓reduceIte]
  | succ n ih =>
    intro i s h k Q hi w h0 h1 h24 h25 h26 hK
    refine g.lpe b47_0.eq_1 ?_
    have c1 : (i : Int) < (l.length : Int) := by omega
    obtain ⟨r1, _, g1⟩ := getInt ha i (by omega)
    have w1 : IntKind.i64.wrap ((i : Int) + 1) = ((i + 1 : Nat) : Int) := by rw [w64 (by omega) (by omega)]; push_cast; rfl
    have hlt : (acc ++ ((l.take i).map (numB · 4)).flatten).length + 4 ≤ 140737488355328 := by
      have := flat_lenT (F := (numB · 4)) (B := 4) (l := l) (fun x _ => by simp only [numB_len]; omega) i
      rw [List.length_append]; omega
    simp only [h0, h1, h24, h25, h26, c1, g1, R0, R1, R2, R3, R4, R5, R6, R7, R8, R9, VOp.fresh, bxC, bsC, R10, un, most, callsOf, List.contains_nil, List.contains_cons, beq_iff_eq, List.getElem?_cons_zero, List.getElem?_cons_succ, seval, Option.map_none, Int.reducePow, ↓reduceIte, Nat.reduceEqDiff, reduceCtorEq, and_self]
    refine wnum (n := 4) g (num4_pu g _) (by decide) w hlt fun v h' w' => ?_
    simp only [h0, h1, h24, h25, h26, w1, R0, R1, R2, R3, R4, R5, R6, R7, R8, R9, VOp.fresh, bxC, bsC, R10, un, most, callsOf, List.contains_nil, List.contains_cons, beq_iff_eq, List.getElem?_cons_zero, List.getElem?_cons_succ, seval, Option.map_none, Int.reducePow, ↓reduceIte, Nat.reduceEqDiff, reduceCtorEq, and_self]
    rw [List.append_assoc, getD_int (by omega), flat_take (numB · 4) l i (by omega)] at w'
    refine ih (i + 1) _ h' k Q (by omega) w' ?_ ?_ ?_ ?_ ?_ hK
    · simp only [h0, sg_set, Nat.reduceEqDiff, ↓reduceIte]
    · simp only [h1, sg_set, Nat.reduceEqDiff, ↓reduceIte]
    · simp only [h24, sg_set, Nat.reduceEqDiff, ↓reduceIte]
    · simp only [h25, sg_set, Nat.reduceEqDiff, ↓reduceIte]
    · simp only [sg_set, Nat.reduceEqDiff, ↓reduceIte]
theorem wowners (g : Pg P tab) {l : List Int} {a : AV} (ha : IsL 8 RInt a l) {K : List (Nat × Blk)} {b : Nat} (acc : List Nat) (hacc : acc.length + l.length * 1 ≤ 140737488000000) (n : Nat) :
    ∀ (i : Nat) (s : T AV) (h : Heap) (k : List Fr) (Q : Ex → T AV → Heap → Prop), i + n = l.length → WR K h b (acc ++ ((l.take i).map (numB · 1)).flatten) → sg s 0 = .ptr b 0 → sg s 37 = a → sg s 38 = .int .i64 l.length → sg s 39 = .int .i64 i →
      (∀ s' h', WR K h' b (acc ++ (l.map (numB · 1)).flatten) → sg s' 0 = .ptr b 0 → Un P k Q (.exit 2) s' h') → Lp P b47_1 s h (Un P k Q) := by
  have hb := ha.bound (by decide)
  induction n with
  | zero =>
    intro i s h k Q hi w h0 h24 h25 h26 hK
    refine g.lpe b47_1.eq_1 ?_
    have c1 : ¬ ((i : Int) < (l.length : Int)) := by omega
    simp only [h0, h24, h25, h26, c1, R0, R1, R2, R3, R4, R5, R6, R7, R8, R9, VOp.fresh, bxC, bsC, R10, un, most, callsOf, List.contains_nil, List.contains_cons, beq_iff_eq, List.getElem?_cons_zero, List.getElem?_cons_succ, seval, Option.map_none, Int.reducePow, ↓reduceIte, Nat.reduceEqDiff, reduceCtorEq, and_self]
    have : l.take i = l := List.take_of_length_le (by omega)
    rw [this] at w
    refine hK _ _ w ?_
    · simp only [h0, sg_set, Nat.reduceEqDiff, ↓reduceIte]
  | succ n ih =>
    intro i s h k Q hi w h0 h24 h25 h26 hK
    refine g.lpe b47_1.eq_1 ?_
    have c1 : (i : Int) < (l.length : Int) := by omega
    obtain ⟨r1, _, g1⟩ := getInt ha i (by omega)
    have w1 : IntKind.i64.wrap ((i : Int) + 1) = ((i + 1 : Nat) : Int) := by rw [w64 (by omega) (by omega)]; push_cast; rfl
    have hlt : (acc ++ ((l.take i).map (numB · 1)).flatten).length + 1 ≤ 140737488355328 := by
      have := flat_lenT (F := (numB · 1)) (B := 1) (l := l) (fun x _ => by simp only [numB_len]; omega) i
      rw [List.length_append]; omega
    simp only [h0, h24, h25, h26, c1, g1, R0, R1, R2, R3, R4, R5, R6, R7, R8, R9, VOp.fresh, bxC, bsC, R10, un, most, callsOf, List.contains_nil, List.contains_cons, beq_iff_eq, List.getElem?_cons_zero, List.getElem?_cons_succ, seval, Option.map_none, Int.reducePow, ↓reduceIte, Nat.reduceEqDiff, reduceCtorEq, and_self]
    refine wnum (n := 1) g (num1_pu g _) (by decide) w hlt fun v h' w' => ?_
    simp only [h0, h24, h25, h26, w1, R0, R1, R2, R3, R4, R5, R6, R7, R8, R9, VOp.fresh, bxC, bsC, R10, un, most, callsOf, List.contains_nil, List.contains_cons, beq_iff_eq, List.getElem?_cons_zero, List.getElem?_cons_succ, seval, Option.map_none, Int.reducePow, ↓reduceIte, Nat.reduceEqDiff, reduceCtorEq, and_self]
    rw [List.append_assoc, getD_int (by omega), flat_take (numB · 1) l i (by omega)] at w'
    refine ih (i + 1) _ h' k Q (by omega) w' ?_ ?_ ?_ ?_ hK
    · simp only [h0, sg_set, Nat.reduceEqDiff, ↓reduceIte]
    · simp only [h24, sg_set, Nat.reduceEqDiff, ↓reduceIte]
    · simp only [h25, sg_set, Nat.reduceEqDiff, ↓reduceIte]
    · simp only [sg_set, Nat.reduceEqDiff, ↓reduceIte]
def mapArg (K : List (Nat × Blk)) (m : Mp) (a u p : AV) : Prop := (∃ r, p = .rp (.int .i64 m.epoch :: a :: u :: r)) ∨ ∃ c0 c1 c2 c3 c4 r e ver, p = .ptr 0 5 ∧ ((0, .cells (c0 :: c1 :: c2 :: c3 :: c4 :: .int .i64 m.epoch :: a :: u :: r) e ver) : Nat × Blk) ∈ K
theorem wmap (g : Pg P tab) {m : Mp} {a u p : AV} (ha : IsL 8 RInt a m.starts) (hu : IsL 8 RInt u m.owners) (hs : m.starts.length ≤ 1000) (ho : m.owners.length ≤ 1000) {K : List (Nat × Blk)} (hp : mapArg K m a u p) {h : Heap} {b : Nat} {s : List Nat} (w : WR K h b s)
    (hl : s.length ≤ 100000000000) {Q : AV → Heap → Prop} (q : ∀ v h', WR K h' b (s ++ mpB m) → Q v h') : Cl P 47 [.ptr b 0, p] h Q := by
  refine g.cl (vf := v47) rfl rfl ?_
  rcases hp with ⟨r, rfl⟩ | ⟨c0, c1, c2, c3, c4, r, e, ver, rfl, hm⟩
  · skip
    simp only [v47, R0, R1, R2, R3, R4, R5, R6, R7, R8, R9, VOp.fresh, bxC, bsC, R10, un, most, callsOf, List.contains_nil, List.contains_cons, beq_iff_eq, List.getElem?_cons_zero, List.getElem?_cons_succ, seval, Option.map_none, Int.reducePow, ↓reduceIte, Nat.reduceEqDiff, reduceCtorEq, and_self]
    refine wnum (n := 2) g (num2_pu g _) (by decide) w (by omega) fun v h1 w1 => ?_
    simp only [ha.len, R0, R1, R2, R3, R4, R5, R6, R7, R8, R9, VOp.fresh, bxC, bsC, R10, un, most, callsOf, List.contains_nil, List.contains_cons, beq_iff_eq, List.getElem?_cons_zero, List.getElem?_cons_succ, seval, Option.map_none, Int.reducePow, ↓reduceIte, Nat.reduceEqDiff, reduceCtorEq, and_self]
    refine wnum (n := 1) g (num1_pu g _) (by decide) w1 (by rw [List.length_append, numB_len]; omega) fun v h2 w2 => ?_
    simp only [ha.len, R0, R1, R2, R3, R4, R5, R6, R7, R8, R9, VOp.fresh, bxC, bsC, R10, un, most, callsOf, List.contains_nil, List.contains_cons, beq_iff_eq, List.getElem?_cons_zero, List.getElem?_cons_succ, seval, Option.map_none, Int.reducePow, ↓reduceIte, Nat.reduceEqDiff, reduceCtorEq, and_self]
    refine wstarts g ha (p := .rp (.int .i64 m.epoch :: a :: u :: r)) (s ++ numB m.epoch 2 ++ numB m.starts.length 1) (by rw [List.length_append, List.length_append, numB_len, numB_len]; omega) m.starts.length 0 _ _ _ _ (by omega) (by simpa using w2) ?_ ?_ ?_ ?_ ?_ ?_
    · simp only [sg_set, Nat.reduceEqDiff, ↓reduceIte]
    · simp only [sg_set, Nat.reduceEqDiff, ↓reduceIte]
    · simp only [sg_set, Nat.reduceEqDiff, ↓reduceIte]
    · simp only [sg_set, Nat.reduceEqDiff, ↓reduceIte]
    · simp only [sg_set, Nat.reduceEqDiff, ↓reduceIte]
      rfl
    · intro s' h3 w3 a0 a1
      simp only [a0, a1, hu.len, R0, R1, R2, R3, R4, R5, R6, R7, R8, R9, VOp.fresh, bxC, bsC, R10, un, most, callsOf, List.contains_nil, List.contains_cons, beq_iff_eq, List.getElem?_cons_zero, List.getElem?_cons_succ, seval, Option.map_none, Int.reducePow, ↓reduceIte, Nat.reduceEqDiff, reduceCtorEq, and_self]
      refine wowners g hu (s ++ numB m.epoch 2 ++ numB m.starts.length 1 ++ (m.starts.map (numB · 4)).flatten) ?_ m.owners.length 0 _ _ _ _ (by omega) (by simpa using w3) ?_ ?_ ?_ ?_ ?_
      · have := flatB_len (F := (numB · 4)) (B := 4) (l := m.starts) (fun x _ => by simp only [numB_len]; omega)
        rw [List.length_append, List.length_append, List.length_append, numB_len, numB_len]; omega
      · simp only [a0, sg_set, Nat.reduceEqDiff, ↓reduceIte]
      · simp only [sg_set, Nat.reduceEqDiff, ↓reduceIte]
      · simp only [sg_set, Nat.reduceEqDiff, ↓reduceIte]
      · simp only [sg_set, Nat.reduceEqDiff, ↓reduceIte]
        rfl
      · intro s' h4 w4 a0
        simp only [R0, R1, R2, R3, R4, R5, R6, R7, R8, R9, VOp.fresh, bxC, bsC, R10, un, most, callsOf, List.contains_nil, List.contains_cons, beq_iff_eq, List.getElem?_cons_zero, List.getElem?_cons_succ, seval, Option.map_none, Int.reducePow, ↓reduceIte, Nat.reduceEqDiff, reduceCtorEq, and_self]
        refine q _ _ ?_
        simpa only [mpB, List.append_assoc] using w4
  · skip
    have k0 := (w.keep _ hm).2.2
    simp only at k0
    simp only [v47, k0, R0, R1, R2, R3, R4, R5, R6, R7, R8, R9, VOp.fresh, bxC, bsC, R10, un, most, callsOf, List.contains_nil, List.contains_cons, beq_iff_eq, List.getElem?_cons_zero, List.getElem?_cons_succ, seval, Option.map_none, Int.reducePow, ↓reduceIte, Nat.reduceEqDiff, reduceCtorEq, and_self]
    refine wnum (n := 2) g (num2_pu g _) (by decide) w (by omega) fun v h1 w1 => ?_
    have k1 := (w1.keep _ hm).2.2
    simp only at k1
    simp only [k1, ha.len, R0, R1, R2, R3, R4, R5, R6, R7, R8, R9, VOp.fresh, bxC, bsC, R10, un, most, callsOf, List.contains_nil, List.contains_cons, beq_iff_eq, List.getElem?_cons_zero, List.getElem?_cons_succ, seval, Option.map_none, Int.reducePow, ↓reduceIte, Nat.reduceEqDiff, reduceCtorEq, and_self]
    refine wnum (n := 1) g (num1_pu g _) (by decide) w1 (by rw [List.length_append, numB_len]; omega) fun v h2 w2 => ?_
    have k2 := (w2.keep _ hm).2.2
    simp only at k2
    simp only [k2, ha.len, R0, R1, R2, R3, R4, R5, R6, R7, R8, R9, VOp.fresh, bxC, bsC, R10, un, most, callsOf, List.contains_nil, List.contains_cons, beq_iff_eq, List.getElem?_cons_zero, List.getElem?_cons_succ, seval, Option.map_none, Int.reducePow, ↓reduceIte, Nat.reduceEqDiff, reduceCtorEq, and_self]
    refine wstarts g ha (p := .ptr 0 5) (s ++ numB m.epoch 2 ++ numB m.starts.length 1) (by rw [List.length_append, List.length_append, numB_len, numB_len]; omega) m.starts.length 0 _ _ _ _ (by omega) (by simpa using w2) ?_ ?_ ?_ ?_ ?_ ?_
    · simp only [sg_set, Nat.reduceEqDiff, ↓reduceIte]
    · simp only [sg_set, Nat.reduceEqDiff, ↓reduceIte]
    · simp only [sg_set, Nat.reduceEqDiff, ↓reduceIte]
    · simp only [sg_set, Nat.reduceEqDiff, ↓reduceIte]
    · simp only [sg_set, Nat.reduceEqDiff, ↓reduceIte]
      rfl
    · intro s' h3 w3 a0 a1
      have k3 := (w3.keep _ hm).2.2
      simp only at k3
      simp only [a0, a1, k3, hu.len, R0, R1, R2, R3, R4, R5, R6, R7, R8, R9, VOp.fresh, bxC, bsC, R10, un, most, callsOf, List.contains_nil, List.contains_cons, beq_iff_eq, List.getElem?_cons_zero, List.getElem?_cons_succ, seval, Option.map_none, Int.reducePow, ↓reduceIte, Nat.reduceEqDiff, reduceCtorEq, and_self]
      refine wowners g hu (s ++ numB m.epoch 2 ++ numB m.starts.length 1 ++ (m.starts.map (numB · 4)).flatten) ?_ m.owners.length 0 _ _ _ _ (by omega) (by simpa using w3) ?_ ?_ ?_ ?_ ?_
      · have := flatB_len (F := (numB · 4)) (B := 4) (l := m.starts) (fun x _ => by simp only [numB_len]; omega)
        rw [List.length_append, List.length_append, List.length_append, numB_len, numB_len]; omega
      · simp only [a0, sg_set, Nat.reduceEqDiff, ↓reduceIte]
      · simp only [sg_set, Nat.reduceEqDiff, ↓reduceIte]
      · simp only [sg_set, Nat.reduceEqDiff, ↓reduceIte]
      · simp only [sg_set, Nat.reduceEqDiff, ↓reduceIte]
        rfl
      · intro s' h4 w4 a0
        simp only [R0, R1, R2, R3, R4, R5, R6, R7, R8, R9, VOp.fresh, bxC, bsC, R10, un, most, callsOf, List.contains_nil, List.contains_cons, beq_iff_eq, List.getElem?_cons_zero, List.getElem?_cons_succ, seval, Option.map_none, Int.reducePow, ↓reduceIte, Nat.reduceEqDiff, reduceCtorEq, and_self]
        refine q _ _ ?_
        simpa only [mpB, List.append_assoc] using w4
end
section
variable {P : Program}
theorem wpts (g : Pg P tab) {l : List Pt} {a : AV} (ha : IsL 16 RPt a l) {K : List (Nat × Blk)} {b : Nat} {x30 x31 x32 : AV} (acc : List Nat) (hacc : acc.length + l.length * 8 ≤ 140737488000000) (n : Nat) :
    ∀ (i : Nat) (s : T AV) (h : Heap) (k : List Fr) (Q : Ex → T AV → Heap → Prop), i + n = l.length → WR K h b (acc ++ ((l.take i).map ptB).flatten) → sg s 0 = .ptr b 0 → sg s 30 = x30 → sg s 31 = x31 → sg s 32 = x32 → sg s 40 = a → sg s 41 = .int .i64 l.length → sg s 42 = .int .i64 i →
      (∀ s' h', WR K h' b (acc ++ (l.map ptB).flatten) → sg s' 0 = .ptr b 0 → sg s' 30 = x30 → sg s' 31 = x31 → sg s' 32 = x32 → Un P k Q (.exit 2) s' h') → Lp P b73_0 s h (Un P k Q) := by
  have hb := ha.bound (by decide)
  induction n with
  | zero =>
    intro i s h k Q hi w h0 h30 h31 h32 h40 h41 h42 hK
    refine g.lpe b73_0.eq_1 ?_
    have c1 : ¬ ((i : Int) < (l.length : Int)) := by omega
    simp only [h0, h30, h31, h32, h40, h41, h42, c1, R0, R1, R2, R3, R4, R5, R6, R7, R8, R9, VOp.fresh, bxC, bsC, R10, un, most, callsOf, List.contains_nil, List.contains_cons, beq_iff_eq, List.getElem?_cons_zero, List.getElem?_cons_succ, seval, Option.map_none, Int.reducePow, ↓reduceIte, Nat.reduceEqDiff, reduceCtorEq, and_self]
    have : l.take i = l := List.take_of_length_le (by omega)
    rw [this] at w
    refine hK _ _ w ?_ ?_ ?_ ?_
    · simp only [h0, sg_set, Nat.reduceEqDiff, ↓reduceIte]
    · simp only [h30, sg_set, Nat.reduceEqDiff, ↓reduceIte]
    · simp only [h31, sg_set, Nat.reduceEqDiff, ↓reduceIte]
    · simp only [h32, sg_set, Nat.reduceEqDiff, ↓reduceIte]
  | succ n ih =>
    intro i s h k Q hi w h0 h30 h31 h32 h40 h41 h42 hK
    refine g.lpe b73_0.eq_1 ?_
    have c1 : (i : Int) < (l.length : Int) := by omega
    obtain ⟨r1, _, g1⟩ := getPt ha i (by omega)
    have w1 : IntKind.i64.wrap ((i : Int) + 1) = ((i + 1 : Nat) : Int) := by rw [w64 (by omega) (by omega)]; push_cast; rfl
    have hA0 : (acc ++ ((l.take i).map ptB).flatten).length + 8 ≤ 140737488355328 := by
      have := flat_lenT (F := ptB) (B := 8) (l := l) (fun x _ => by rw [ptB_len]; omega) i
      rw [List.length_append]; omega
    have hA1 : acc ++ ((l.take i).map ptB).flatten ++ ptB (l.getD i ⟨0, 0⟩) = acc ++ ((l.take (i + 1)).map ptB).flatten := by
      rw [getD_pt (by omega), List.append_assoc, flat_take ptB l i (by omega)]
    generalize acc ++ ((l.take i).map ptB).flatten = A at *
    generalize l.getD i ⟨0, 0⟩ = pt at *
    simp only [RW, h0, h30, h31, h32, h40, h41, h42, c1, g1, R0, R1, R2, R3, R4, R5, R6, R7, R8, R9, VOp.fresh, bxC, bsC, R10, un, most, callsOf, List.contains_nil, List.contains_cons, beq_iff_eq, List.getElem?_cons_zero, List.getElem?_cons_succ, seval, Option.map_none, Int.reducePow, ↓reduceIte, Nat.reduceEqDiff, reduceCtorEq, and_self]
    refine wnum (n := 4) g (num4_pu g _) (by decide) ((w.add _).upd w.fresh _) (by omega) fun v h1 w2 => ?_
    have hk := (w2.keep _ List.mem_cons_self).2.2
    simp only at hk
    simp only [h0, h30, h31, h32, h40, h41, h42, hk, R0, R1, R2, R3, R4, R5, R6, R7, R8, R9, VOp.fresh, bxC, bsC, R10, un, most, callsOf, List.contains_nil, List.contains_cons, beq_iff_eq, List.getElem?_cons_zero, List.getElem?_cons_succ, seval, Option.map_none, Int.reducePow, ↓reduceIte, Nat.reduceEqDiff, reduceCtorEq, and_self]
    refine wnum (n := 4) g (num4_pu g _) (by decide) w2 (by rw [List.length_append, numB_len]; omega) fun v h1 w3 => ?_
    simp only [h0, h30, h31, h32, h40, h41, h42, w1, R0, R1, R2, R3, R4, R5, R6, R7, R8, R9, VOp.fresh, bxC, bsC, R10, un, most, callsOf, List.contains_nil, List.contains_cons, beq_iff_eq, List.getElem?_cons_zero, List.getElem?_cons_succ, seval, Option.map_none, Int.reducePow, ↓reduceIte, Nat.reduceEqDiff, reduceCtorEq, and_self]
    have w4 := w3.less
    rw [List.append_assoc, ← ptB, hA1] at w4
    refine ih (i + 1) _ _ k Q (by omega) w4 ?_ ?_ ?_ ?_ ?_ ?_ ?_ hK
    · simp only [h0, sg_set, Nat.reduceEqDiff, ↓reduceIte]
    · simp only [h30, sg_set, Nat.reduceEqDiff, ↓reduceIte]
    · simp only [h31, sg_set, Nat.reduceEqDiff, ↓reduceIte]
    · simp only [h32, sg_set, Nat.reduceEqDiff, ↓reduceIte]
    · simp only [h40, sg_set, Nat.reduceEqDiff, ↓reduceIte]
    · simp only [h41, sg_set, Nat.reduceEqDiff, ↓reduceIte]
    · simp only [sg_set, Nat.reduceEqDiff, ↓reduceIte]
theorem wrings (g : Pg P tab) {l : List (List Pt)} {a : AV} (ha : IsL 24 RRing a l) (hl2 : ∀ r ∈ l, r.length ≤ 1000) {K : List (Nat × Blk)} {b : Nat} (acc : List Nat) (hacc : acc.length + l.length * 8001 ≤ 140737400000000) (n : Nat) :
    ∀ (i : Nat) (s : T AV) (h : Heap) (k : List Fr) (Q : Ex → T AV → Heap → Prop), i + n = l.length → WR K h b (acc ++ ((l.take i).map ringB).flatten) → sg s 0 = .ptr b 0 → sg s 30 = a → sg s 31 = .int .i64 l.length → sg s 32 = .int .i64 i →
      (∀ s' h', WR K h' b (acc ++ (l.map ringB).flatten) → Un P k Q (.exit 0) s' h') → Lp P b73_1 s h (Un P k Q) := by
  have hb := ha.bound (by decide)
  induction n with
  | zero =>
    intro i s h k Q hi w h0 h30 h31 h32 hK
    refine g.lpe b73_1.eq_1 ?_
    have c1 : ¬ ((i : Int) < (l.length : Int)) := by omega
    simp only [h0, h30, h31, h32, c1, R0, R1, R2, R3, R4, R5, R6, R7, R8, R9, VOp.fresh, bxC, bsC, R10, un, most, callsOf, List.contains_nil, List.contains_cons, beq_iff_eq, List.getElem?_cons_zero, List.getElem?_cons_succ, seval, Option.map_none, Int.reducePow, ↓reduceIte, Nat.reduceEqDiff, reduceCtorEq, and_self]
    have : l.take i = l := List.take_of_length_le (by omega)
    rw [this] at w
    exact hK _ _ w
  | succ n ih =>
    intro i s h k Q hi w h0 h30 h31 h32 hK
    refine g.lpe b73_1.eq_1 ?_
    have c1 : (i : Int) < (l.length : Int) := by omega
    obtain ⟨rv, r1, hrv, _, g1⟩ := getRing ha i (by omega)
    have hrl : (l.getD i []).length ≤ 1000 := by rw [getD_ring (by omega)]; exact hl2 _ (List.getElem_mem _)
    have w1 : IntKind.i64.wrap ((i : Int) + 1) = ((i + 1 : Nat) : Int) := by rw [w64 (by omega) (by omega)]; push_cast; rfl
    have hA0 : (acc ++ ((l.take i).map ringB).flatten).length ≤ 140737400000000 := by
      have := flat_lenT (F := ringB) (B := 8001) (l := l) (fun x hx => ringB_len (hl2 x hx)) i
      rw [List.length_append]; omega
    have hA1 : acc ++ ((l.take i).map ringB).flatten ++ ringB (l.getD i []) = acc ++ ((l.take (i + 1)).map ringB).flatten := by
      rw [getD_ring (by omega), List.append_assoc, flat_take ringB l i (by omega)]
    generalize acc ++ ((l.take i).map ringB).flatten = A at *
    generalize l.getD i [] = ring at *
    simp only [h0, h30, h31, h32, c1, g1, hrv.len, R0, R1, R2, R3, R4, R5, R6, R7, R8, R9, VOp.fresh, bxC, bsC, R10, un, most, callsOf, List.contains_nil, List.contains_cons, beq_iff_eq, List.getElem?_cons_zero, List.getElem?_cons_succ, seval, Option.map_none, Int.reducePow, ↓reduceIte, Nat.reduceEqDiff, reduceCtorEq, and_self]
    refine wnum (n := 1) g (num1_pu g _) (by decide) w (by omega) fun v h1 w2 => ?_
    simp only [h0, h30, h31, h32, hrv.len, R0, R1, R2, R3, R4, R5, R6, R7, R8, R9, VOp.fresh, bxC, bsC, R10, un, most, callsOf, List.contains_nil, List.contains_cons, beq_iff_eq, List.getElem?_cons_zero, List.getElem?_cons_succ, seval, Option.map_none, Int.reducePow, ↓reduceIte, Nat.reduceEqDiff, reduceCtorEq, and_self]
    refine wpts g hrv (x30 := a) (x31 := .int .i64 l.length) (x32 := .int .i64 i) (A ++ numB ring.length 1) (by rw [List.length_append, numB_len]; omega) ring.length 0 _ _ _ _ (by omega) (by simpa using w2) ?_ ?_ ?_ ?_ ?_ ?_ ?_ ?_
    · simp only [h0, sg_set, Nat.reduceEqDiff, ↓reduceIte]
    · simp only [h30, sg_set, Nat.reduceEqDiff, ↓reduceIte]
    · simp only [h31, sg_set, Nat.reduceEqDiff, ↓reduceIte]
    · simp only [h32, sg_set, Nat.reduceEqDiff, ↓reduceIte]
    · simp only [sg_set, Nat.reduceEqDiff, ↓reduceIte]
    · simp only [sg_set, Nat.reduceEqDiff, ↓reduceIte]
    · simp only [sg_set, Nat.reduceEqDiff, ↓reduceIte]
      rfl
    · intro s' h' w3 a0 a30 a31 a32
      simp only [a0, a30, a31, a32, w1, R0, R1, R2, R3, R4, R5, R6, R7, R8, R9, VOp.fresh, bxC, bsC, R10, un, most, callsOf, List.contains_nil, List.contains_cons, beq_iff_eq, List.getElem?_cons_zero, List.getElem?_cons_succ, seval, Option.map_none, Int.reducePow, ↓reduceIte, Nat.reduceEqDiff, reduceCtorEq, and_self]
      rw [List.append_assoc, ← ringB, hA1] at w3
      refine ih (i + 1) _ _ k Q (by omega) w3 ?_ ?_ ?_ ?_ hK
      · simp only [a0, sg_set, Nat.reduceEqDiff, ↓reduceIte]
      · simp only [a30, sg_set, Nat.reduceEqDiff, ↓reduceIte]
      · simp only [a31, sg_set, Nat.reduceEqDiff, ↓reduceIte]
      · simp only [sg_set, Nat.reduceEqDiff, ↓reduceIte]
theorem wfeat (g : Pg P tab) {f : Feat} {v : AV} (hv : IsL 24 RRing v f.rings) (hs : featSmall f) {r : List AV} {K : List (Nat × Blk)} {h : Heap} {b : Nat} {s : List Nat} (w : WR K h b s)
    (hl : s.length ≤ 100000000000) {Q : AV → Heap → Prop} (q : ∀ v h', WR K h' b (s ++ featB f) → Q v h') : Cl P 73 [.ptr b 0, .rp (.int .i64 f.id :: .int .i64 f.shape :: v :: r)] h Q := by
  refine g.cl (vf := v73) rfl rfl ?_
  simp only [v73, R0, R1, R2, R3, R4, R5, R6, R7, R8, R9, VOp.fresh, bxC, bsC, R10, un, most, callsOf, List.contains_nil, List.contains_cons, beq_iff_eq, List.getElem?_cons_zero, List.getElem?_cons_succ, seval, Option.map_none, Int.reducePow, ↓reduceIte, Nat.reduceEqDiff, reduceCtorEq, and_self]
  refine wnum (n := 2) g (num2_pu g _) (by decide) w (by omega) fun _ h1 w1 => ?_
  simp only [R0, R1, R2, R3, R4, R5, R6, R7, R8, R9, VOp.fresh, bxC, bsC, R10, un, most, callsOf, List.contains_nil, List.contains_cons, beq_iff_eq, List.getElem?_cons_zero, List.getElem?_cons_succ, seval, Option.map_none, Int.reducePow, ↓reduceIte, Nat.reduceEqDiff, reduceCtorEq, and_self]
  refine wnum (n := 1) g (num1_pu g _) (by decide) w1 (by rw [List.length_append, numB_len]; omega) fun _ h2 w2 => ?_
  simp only [hv.len, R0, R1, R2, R3, R4, R5, R6, R7, R8, R9, VOp.fresh, bxC, bsC, R10, un, most, callsOf, List.contains_nil, List.contains_cons, beq_iff_eq, List.getElem?_cons_zero, List.getElem?_cons_succ, seval, Option.map_none, Int.reducePow, ↓reduceIte, Nat.reduceEqDiff, reduceCtorEq, and_self]
  refine wnum (n := 1) g (num1_pu g _) (by decide) w2 (by rw [List.length_append, List.length_append, numB_len, numB_len]; omega) fun _ h3 w3 => ?_
  simp only [hv.len, R0, R1, R2, R3, R4, R5, R6, R7, R8, R9, VOp.fresh, bxC, bsC, R10, un, most, callsOf, List.contains_nil, List.contains_cons, beq_iff_eq, List.getElem?_cons_zero, List.getElem?_cons_succ, seval, Option.map_none, Int.reducePow, ↓reduceIte, Nat.reduceEqDiff, reduceCtorEq, and_self]
  refine wrings g hv hs.2 (s ++ numB f.id 2 ++ numB f.shape 1 ++ numB f.rings.length 1) ?_ f.rings.length 0 _ _ _ _ (by omega) (by simpa using w3) ?_ ?_ ?_ ?_ ?_
  · have := hs.1
    simp only [List.length_append, numB_len]; omega
  · simp only [sg_set, Nat.reduceEqDiff, ↓reduceIte]
  · simp only [sg_set, Nat.reduceEqDiff, ↓reduceIte]
  · simp only [sg_set, Nat.reduceEqDiff, ↓reduceIte]
  · simp only [sg_set, Nat.reduceEqDiff, ↓reduceIte]
    rfl
  · intro s' h4 w4
    simp only [R0, R1, R2, R3, R4, R5, R6, R7, R8, R9, VOp.fresh, bxC, bsC, R10, un, most, callsOf, List.contains_nil, List.contains_cons, beq_iff_eq, List.getElem?_cons_zero, List.getElem?_cons_succ, seval, Option.map_none, Int.reducePow, ↓reduceIte, Nat.reduceEqDiff, reduceCtorEq, and_self]
    refine q _ _ ?_
    simpa only [featB, List.append_assoc] using w4
end
section
variable {P : Program}
theorem wopsl (g : Pg P tab) {l : List Op} {a : AV} (ha : IsL 112 ROp a l) (hl : l.length ≤ 1000) (hs : ∀ o ∈ l, opSmall o) {K : List (Nat × Blk)} {b : Nat} (acc : List Nat) (hacc : acc.length ≤ 10000) (n : Nat) :
    ∀ (i : Nat) (s : T AV) (h : Heap) (k : List Fr) (Q : Ex → T AV → Heap → Prop), i + n = l.length → WR K h b (acc ++ ((l.take i).map opB).flatten) → sg s 0 = .ptr b 0 → sg s 2 = a → sg s 17 = .int .i64 l.length → sg s 18 = .int .i64 i →
      (∀ s' h', WR K h' b (acc ++ (l.map opB).flatten) → Un P k Q (.exit 0) s' h') → Lp P b49_0 s h (Un P k Q) := by
  have hb := ha.bound (by decide)
  induction n with
  | zero =>
    intro i s h k Q hi w h0 h2 h17 h18 hK
    refine g.lpe b49_0.eq_1 ?_
    have c1 : ¬ ((i : Int) < (l.length : Int)) := by omega
    simp only [h0, h2, h17, h18, c1, R0, R1, R2, R3, R4, R5, R6, R7, R8, R9, VOp.fresh, bxC, bsC, R10, un, most, callsOf, List.contains_nil, List.contains_cons, beq_iff_eq, List.getElem?_cons_zero, List.getElem?_cons_succ, seval, Option.map_none, Int.reducePow, ↓reduceIte, Nat.reduceEqDiff, reduceCtorEq, and_self]
    have : l.take i = l := List.take_of_length_le (by omega)
    rw [this] at w
    exact hK _ _ w
  | succ n ih =>
    intro i s h k Q hi w h0 h2 h17 h18 hK
    refine g.lpe b49_0.eq_1 ?_
    have c1 : (i : Int) < (l.length : Int) := by omega
    obtain ⟨c, r, hc, tc, tr, g1⟩ := getOp ha i (by omega)
    have hos : opSmall (l.getD i op0) := by rw [getD_op (by omega)]; exact hs _ (List.getElem_mem _)
    have w1 : IntKind.i64.wrap ((i : Int) + 1) = ((i + 1 : Nat) : Int) := by rw [w64 (by omega) (by omega)]; push_cast; rfl
    have hA0 : (acc ++ ((l.take i).map opB).flatten).length ≤ 10000000000 := by
      have := flat_lenT (F := opB) (B := 9000001) (l := l) (fun x hx => opB_len (hs x hx)) i
      rw [List.length_append]; omega
    have hA1 : acc ++ ((l.take i).map opB).flatten ++ opB (l.getD i op0) = acc ++ ((l.take (i + 1)).map opB).flatten := by
      rw [getD_op (by omega), List.append_assoc, flat_take opB l i (by omega)]
    generalize acc ++ ((l.take i).map opB).flatten = A at *
    generalize l.getD i op0 = o at *
    obtain ⟨fv, sv, uv, rfl, _, _, _, hfv, _, _, hsv, huv⟩ := hc
    simp only [h0, h2, h17, h18, c1, g1, List.cons_append, List.nil_append, R0, R1, R2, R3, R4, R5, R6, R7, R8, R9, VOp.fresh, bxC, bsC, R10, un, most, callsOf, List.contains_nil, List.contains_cons, beq_iff_eq, List.getElem?_cons_zero, List.getElem?_cons_succ, seval, Option.map_none, Int.reducePow, ↓reduceIte, Nat.reduceEqDiff, reduceCtorEq, and_self]
    refine wnum (n := 1) g (num1_pu g _) (by decide) w (by omega) fun _ h1 w2 => ?_
    have next : ∀ s' h', WR K h' b (A ++ opB o) → sg s' 0 = .ptr b 0 → sg s' 2 = a → sg s' 17 = .int .i64 l.length → sg s' 18 = .int .i64 ((i + 1 : Nat) : Int) → Lp P b49_0 s' h' (Un P k Q) := by
      intro s' h' w' a1 a2 a3 a4
      exact ih (i + 1) s' h' k Q (by omega) (by rw [← hA1]; exact w') a1 a2 a3 a4 hK
    by_cases e0 : o.kind = 0
    · simp only [h0, h2, h17, h18, e0, R0, R1, R2, R3, R4, R5, R6, R7, R8, R9, VOp.fresh, bxC, bsC, R10, un, most, callsOf, List.contains_nil, List.contains_cons, beq_iff_eq, List.getElem?_cons_zero, List.getElem?_cons_succ, seval, Option.map_none, Int.reducePow, ↓reduceIte, Nat.reduceEqDiff, reduceCtorEq, and_self]
      refine wfeat g hfv hos.1 w2 (by rw [List.length_append, numB_len]; omega) fun _ h3 w3 => ?_
      simp only [h0, h2, h17, h18, w1, R0, R1, R2, R3, R4, R5, R6, R7, R8, R9, VOp.fresh, bxC, bsC, R10, un, most, callsOf, List.contains_nil, List.contains_cons, beq_iff_eq, List.getElem?_cons_zero, List.getElem?_cons_succ, seval, Option.map_none, Int.reducePow, ↓reduceIte, Nat.reduceEqDiff, reduceCtorEq, and_self]
      refine next _ _ ?_ ?_ ?_ ?_ ?_
      · rw [opB, e0, if_pos rfl, ← List.append_assoc, ← e0]; exact w3
      · simp only [h0, sg_set, Nat.reduceEqDiff, ↓reduceIte]
      · simp only [h2, sg_set, Nat.reduceEqDiff, ↓reduceIte]
      · simp only [h17, sg_set, Nat.reduceEqDiff, ↓reduceIte]
      · simp only [sg_set, Nat.reduceEqDiff, ↓reduceIte]
    · by_cases e1 : o.kind = 1
      · simp only [h0, h2, h17, h18, e1, R0, R1, R2, R3, R4, R5, R6, R7, R8, R9, VOp.fresh, bxC, bsC, R10, un, most, callsOf, List.contains_nil, List.contains_cons, beq_iff_eq, List.getElem?_cons_zero, List.getElem?_cons_succ, seval, Option.map_none, Int.reducePow, ↓reduceIte, Nat.reduceEqDiff, reduceCtorEq, and_self]
        refine wnum (n := 2) g (num2_pu g _) (by decide) w2 (by rw [List.length_append, numB_len]; omega) fun _ h3 w3 => ?_
        simp only [h0, h2, h17, h18, w1, R0, R1, R2, R3, R4, R5, R6, R7, R8, R9, VOp.fresh, bxC, bsC, R10, un, most, callsOf, List.contains_nil, List.contains_cons, beq_iff_eq, List.getElem?_cons_zero, List.getElem?_cons_succ, seval, Option.map_none, Int.reducePow, ↓reduceIte, Nat.reduceEqDiff, reduceCtorEq, and_self]
        refine next _ _ ?_ ?_ ?_ ?_ ?_
        · rw [opB, if_neg e0, if_pos e1, ← List.append_assoc]; exact w3
        · simp only [h0, sg_set, Nat.reduceEqDiff, ↓reduceIte]
        · simp only [h2, sg_set, Nat.reduceEqDiff, ↓reduceIte]
        · simp only [h17, sg_set, Nat.reduceEqDiff, ↓reduceIte]
        · simp only [sg_set, Nat.reduceEqDiff, ↓reduceIte]
      · simp only [h0, h2, h17, h18, e0, e1, R0, R1, R2, R3, R4, R5, R6, R7, R8, R9, VOp.fresh, bxC, bsC, R10, un, most, callsOf, List.contains_nil, List.contains_cons, beq_iff_eq, List.getElem?_cons_zero, List.getElem?_cons_succ, seval, Option.map_none, Int.reducePow, ↓reduceIte, Nat.reduceEqDiff, reduceCtorEq, and_self]
        refine wmap g hsv huv hos.2.1 hos.2.2 (.inl ⟨_, rfl⟩) w2 (by rw [List.length_append, numB_len]; omega) fun _ h3 w3 => ?_
        simp only [h0, h2, h17, h18, w1, R0, R1, R2, R3, R4, R5, R6, R7, R8, R9, VOp.fresh, bxC, bsC, R10, un, most, callsOf, List.contains_nil, List.contains_cons, beq_iff_eq, List.getElem?_cons_zero, List.getElem?_cons_succ, seval, Option.map_none, Int.reducePow, ↓reduceIte, Nat.reduceEqDiff, reduceCtorEq, and_self]
        refine next _ _ ?_ ?_ ?_ ?_ ?_
        · rw [opB, if_neg e0, if_neg e1, ← List.append_assoc]; exact w3
        · simp only [h0, sg_set, Nat.reduceEqDiff, ↓reduceIte]
        · simp only [h2, sg_set, Nat.reduceEqDiff, ↓reduceIte]
        · simp only [h17, sg_set, Nat.reduceEqDiff, ↓reduceIte]
        · simp only [sg_set, Nat.reduceEqDiff, ↓reduceIte]
theorem wops (g : Pg P tab) {l : List Op} {a : AV} (ha : IsL 112 ROp a l) (hl : l.length ≤ 1000) (hs : ∀ o ∈ l, opSmall o) {base : Int} (hb1 : -100000 ≤ base) (hb2 : base ≤ 100000) {K : List (Nat × Blk)} {h : Heap} {b : Nat} {s : List Nat} (w : WR K h b s)
    (hsl : s.length ≤ 1000) {Q : AV → Heap → Prop} (q : ∀ v h', WR K h' b (s ++ (numB (base + 1) 4 ++ opsB l)) → Q v h') : Cl P 49 [.ptr b 0, .int .i64 base, a] h Q := by
  refine g.cl (vf := v49) rfl rfl ?_
  have w0 : IntKind.i64.wrap (base + 1) = base + 1 := w64 (by omega) (by omega)
  simp only [v49, w0, R0, R1, R2, R3, R4, R5, R6, R7, R8, R9, VOp.fresh, bxC, bsC, R10, un, most, callsOf, List.contains_nil, List.contains_cons, beq_iff_eq, List.getElem?_cons_zero, List.getElem?_cons_succ, seval, Option.map_none, Int.reducePow, ↓reduceIte, Nat.reduceEqDiff, reduceCtorEq, and_self]
  refine wnum (n := 4) g (num4_pu g _) (by decide) w (by omega) fun _ h1 w1 => ?_
  simp only [ha.len, R0, R1, R2, R3, R4, R5, R6, R7, R8, R9, VOp.fresh, bxC, bsC, R10, un, most, callsOf, List.contains_nil, List.contains_cons, beq_iff_eq, List.getElem?_cons_zero, List.getElem?_cons_succ, seval, Option.map_none, Int.reducePow, ↓reduceIte, Nat.reduceEqDiff, reduceCtorEq, and_self]
  refine wnum (n := 1) g (num1_pu g _) (by decide) w1 (by rw [List.length_append, numB_len]; omega) fun _ h2 w2 => ?_
  simp only [ha.len, R0, R1, R2, R3, R4, R5, R6, R7, R8, R9, VOp.fresh, bxC, bsC, R10, un, most, callsOf, List.contains_nil, List.contains_cons, beq_iff_eq, List.getElem?_cons_zero, List.getElem?_cons_succ, seval, Option.map_none, Int.reducePow, ↓reduceIte, Nat.reduceEqDiff, reduceCtorEq, and_self]
  refine wopsl g ha hl hs (s ++ numB (base + 1) 4 ++ numB l.length 1) ?_ l.length 0 _ _ _ _ (by omega) (by simpa using w2) ?_ ?_ ?_ ?_ ?_
  · simp only [List.length_append, numB_len]; omega
  · simp only [sg_set, Nat.reduceEqDiff, ↓reduceIte]
  · simp only [sg_set, Nat.reduceEqDiff, ↓reduceIte]
  · simp only [sg_set, Nat.reduceEqDiff, ↓reduceIte]
  · simp only [sg_set, Nat.reduceEqDiff, ↓reduceIte]
    rfl
  · intro s' h4 w4
    simp only [R0, R1, R2, R3, R4, R5, R6, R7, R8, R9, VOp.fresh, bxC, bsC, R10, un, most, callsOf, List.contains_nil, List.contains_cons, beq_iff_eq, List.getElem?_cons_zero, List.getElem?_cons_succ, seval, Option.map_none, Int.reducePow, ↓reduceIte, Nat.reduceEqDiff, reduceCtorEq, and_self]
    refine q _ _ ?_
    simpa only [opsB, List.append_assoc] using w4
/-! bytes -/
def By (l : List Nat) : Prop := ∀ n ∈ l, n < 256
theorem By.app {l k : List Nat} (a : By l) (b : By k) : By (l ++ k) := fun n h => (List.mem_append.1 h).elim (a n) (b n)
theorem By.nil : By [] := fun n h => by simp at h
theorem By.flat {α : Type} {F : α → List Nat} {l : List α} (h : ∀ x, By (F x)) : By (l.map F).flatten := by
  intro n hn
  obtain ⟨x, hx, hn⟩ := List.mem_flatten.1 hn
  obtain ⟨a, _, rfl⟩ := List.mem_map.1 hx
  exact h a n hn
theorem By.num (x : Int) : ∀ n, By (numB x n)
  | 0 => By.nil
  | n + 1 => by
    intro k hk
    rw [numB] at hk
    rcases List.mem_cons.1 hk with rfl | hk
    · have h1 := Int.emod_lt_of_pos (x / (256 ^ n : Nat)) (show (0 : Int) < 256 by decide)
      have h2 := Int.emod_nonneg (x / (256 ^ n : Nat)) (show (256 : Int) ≠ 0 by decide)
      omega
    · exact By.num x n k hk
theorem By.mp (m : Mp) : By (mpB m) := (By.num _ _).app ((By.num _ _).app ((By.flat fun x => By.num x 4).app (By.flat fun x => By.num x 1)))
theorem By.pt (p : Pt) : By (ptB p) := (By.num _ _).app (By.num _ _)
theorem By.ring (p : List Pt) : By (ringB p) := (By.num _ _).app (By.flat By.pt)
theorem By.feat (f : Feat) : By (featB f) := (By.num _ _).app ((By.num _ _).app ((By.num _ _).app (By.flat By.ring)))
theorem By.op (o : Op) : By (opB o) := (By.num _ _).app (by split; exact By.feat _; split; exact By.num _ _; exact By.mp _)
theorem By.ops (l : List Op) : By (opsB l) := (By.num _ _).app (By.flat By.op)
theorem By.rec (r : Rc) : By (recB r) := (By.num _ _).app (by
  split
  · exact By.mp _
  · refine By.app ((By.num _ _).app (By.num _ _)) ?_
    split
    · exact (By.num _ _).app (By.ops _)
    · split
      · exact By.num _ _
      · exact By.nil)
theorem mb_bytes : ∀ {l : List Nat}, By l → (l.map byteV).mapM AV.byte = some l
  | [], _ => rfl
  | n :: l, h => by
    have h1 : n < 256 := h n (by simp)
    have h2 : AV.byte (byteV n) = some n := by
      simp only [byteV, AV.byte]
      rw [if_pos ⟨by omega, by omega⟩]
      rfl
    rw [List.map_cons, List.mapM_cons, h2, mb_bytes fun k hk => h k (List.mem_cons_of_mem _ hk)]
    rfl
theorem recB_ne (r : Rc) : recB r ≠ [] := by rw [recB, numB]; simp
/-- what is written of a record -/
def putAns (r : Rc) : AV := if (recB r).length ≤ 8192 then .tup [.str (recB r), .int .i64 0] else .tup [.str [], .int .i64 1100]
theorem put_good (g : Pg P tab) {r : Rc} {c : List AV} (hc : RRc r c) (ok : recOk r) : Pu P 15 [.agg c] (fun v => v = putAns r) := by
  refine g.pu (vf := v15) rfl rfl ?_
  have hm := recMay_pu g hc (t := []) rfl
  rw [List.append_nil] at hm
  simp only [v15, R0, R1, R2, R3, R4, R5, R6, R7, R8, R9, VOp.fresh, bxC, bsC, R10, un, most, callsOf, List.contains_nil, List.contains_cons, beq_iff_eq, List.getElem?_cons_zero, List.getElem?_cons_succ, seval, Option.map_none, Int.reducePow, ↓reduceIte, Nat.reduceEqDiff, reduceCtorEq, and_self]
  have hf : Fzs true (({ next := 0, t := T.e } : Heap).mk' 0 (.cells c 29 0)) [.ptr 0 0] [.rp c] := by
    obtain ⟨a, u, w, rfl, ha, hu, hw⟩ := hc
    refine .cons (.ptr (by rw [Heap.get_mk, if_pos rfl]) (Fzs.refl ?_)) .nil
    simp [AV.tolds, AV.told, ha.told tInt, hu.told tInt, hw.told tOp]
  refine hm.cl hf ?_
  rintro x ⟨b, rfl, hb⟩
  cases b
  · exact absurd (hb.2 ok) (by simp)
  obtain ⟨a, u, w, rfl, ha, hu, hw⟩ := hc
  simp only [R0, R1, R2, R3, R4, R5, R6, R7, R8, R9, VOp.fresh, bxC, bsC, R10, un, most, callsOf, List.contains_nil, List.contains_cons, beq_iff_eq, List.getElem?_cons_zero, List.getElem?_cons_succ, seval, Option.map_none, Int.reducePow, ↓reduceIte, Nat.reduceEqDiff, reduceCtorEq, and_self]
  have w0 : WR [(0, .cells [.int .i64 r.kind, .int .i64 r.node, .int .i64 r.seq, .int .i64 r.base, .bool r.commit, .int .i64 r.m.epoch, a, u, w] 29 0)]
      ((({ next := 0, t := T.e } : Heap).mk' 0 (.cells [.int .i64 r.kind, .int .i64 r.node, .int .i64 r.seq, .int .i64 r.base, .bool r.commit, .int .i64 r.m.epoch, a, u, w] 29 0)).mk' 1 (.cells [.nils] 103 0)) 1 [] := by
    refine ⟨show (1 : Nat) < 2 by decide, ⟨.nils, 103, 0, by rw [Heap.get_mk, if_pos rfl], .inl ⟨rfl, rfl⟩⟩, ?_⟩
    intro p hp
    rw [List.mem_singleton] at hp
    subst hp
    exact ⟨show (0 : Nat) < 2 by decide, show (0 : Nat) ≠ 1 by decide, by rw [Heap.get_mk, if_neg (show ¬ (0 : Nat) = 1 by decide), Heap.get_mk, if_pos rfl]⟩
  generalize hK : [((0 : Nat), Blk.cells [.int .i64 r.kind, .int .i64 r.node, .int .i64 r.seq, .int .i64 r.base, .bool r.commit, .int .i64 r.m.epoch, a, u, w] 29 0)] = K at w0
  have hm0 : ((0, .cells [.int .i64 r.kind, .int .i64 r.node, .int .i64 r.seq, .int .i64 r.base, .bool r.commit, .int .i64 r.m.epoch, a, u, w] 29 0) : Nat × Blk) ∈ K := by rw [← hK]; exact List.mem_cons_self
  refine wnum (n := 1) g (num1_pu g _) (by decide) w0 (by simp) fun _ h1 w1 => ?_
  have k1 := (w1.keep _ hm0).2.2
  simp only [List.nil_append] at k1 w1
  rcases id ok with ⟨ek, hmp, _⟩ | ⟨ek, htx, hb1, hb2, hops, _⟩ | ⟨ek, htx, _⟩ | ⟨ek, htx, _⟩
  · obtain ⟨_, _, _, _, _, m1, m2, _⟩ := hmp
    have er : recB r = numB r.kind 1 ++ mpB r.m := by rw [recB, if_pos ek]
    simp only [k1, ek, R0, R1, R2, R3, R4, R5, R6, R7, R8, R9, VOp.fresh, bxC, bsC, R10, un, most, callsOf, List.contains_nil, List.contains_cons, beq_iff_eq, List.getElem?_cons_zero, List.getElem?_cons_succ, seval, Option.map_none, Int.reducePow, ↓reduceIte, Nat.reduceEqDiff, reduceCtorEq, and_self]
    refine wmap g ha hu (by omega) (by omega) (.inr ⟨_, _, _, _, _, _, _, _, rfl, hm0⟩) w1 (by rw [numB_len]; omega) fun _ h2 w2 => ?_
    rw [← er] at w2
    have k2 := (w2.keep _ hm0).2.2
    simp only at k2
    simp only [k2, ek, R0, R1, R2, R3, R4, R5, R6, R7, R8, R9, VOp.fresh, bxC, bsC, R10, un, most, callsOf, List.contains_nil, List.contains_cons, beq_iff_eq, List.getElem?_cons_zero, List.getElem?_cons_succ, seval, Option.map_none, Int.reducePow, ↓reduceIte, Nat.reduceEqDiff, reduceCtorEq, and_self]
    obtain ⟨v, e, ver, hb1, ho⟩ := w2.out
    rcases ho with ⟨_, hnil⟩ | ⟨c, e', ver', rfl, _, _, _, hc6⟩
    · exact absurd hnil (recB_ne _)
    · by_cases hlen : (recB r).length ≤ 8192
      · have c8 : ¬ (8192 : Int) < ((recB r).length : Int) := by omega
        simp only [hb1, c8, R0, R1, R2, R3, R4, R5, R6, R7, R8, R9, VOp.fresh, bxC, bsC, R10, un, most, callsOf, List.contains_nil, List.contains_cons, beq_iff_eq, List.getElem?_cons_zero, List.getElem?_cons_succ, seval, Option.map_none, Int.reducePow, ↓reduceIte, Nat.reduceEqDiff, reduceCtorEq, and_self]
        rw [cvT_sl hc6 (List.length_map _), mb_bytes (By.rec r)]
        simp only [R0, R1, R2, R3, R4, R5, R6, R7, R8, R9, VOp.fresh, bxC, bsC, R10, un, most, callsOf, List.contains_nil, List.contains_cons, beq_iff_eq, List.getElem?_cons_zero, List.getElem?_cons_succ, seval, Option.map_none, Int.reducePow, ↓reduceIte, Nat.reduceEqDiff, reduceCtorEq, and_self]
        rw [putAns, if_pos hlen]
      · have c8 : (8192 : Int) < ((recB r).length : Int) := by omega
        simp only [hb1, c8, R0, R1, R2, R3, R4, R5, R6, R7, R8, R9, VOp.fresh, bxC, bsC, R10, un, most, callsOf, List.contains_nil, List.contains_cons, beq_iff_eq, List.getElem?_cons_zero, List.getElem?_cons_succ, seval, Option.map_none, Int.reducePow, ↓reduceIte, Nat.reduceEqDiff, reduceCtorEq, and_self]
        rw [putAns, if_neg hlen]
  · have e0 : ¬ r.kind = 0 := by omega
    have er : recB r = numB r.kind 1 ++ txB r.node r.seq ++ (numB (r.base + 1) 4 ++ opsB r.ops) := by rw [recB, if_neg e0, if_pos ek, List.append_assoc]
    simp only [k1, e0, R0, R1, R2, R3, R4, R5, R6, R7, R8, R9, VOp.fresh, bxC, bsC, R10, un, most, callsOf, List.contains_nil, List.contains_cons, beq_iff_eq, List.getElem?_cons_zero, List.getElem?_cons_succ, seval, Option.map_none, Int.reducePow, ↓reduceIte, Nat.reduceEqDiff, reduceCtorEq, and_self]
    refine wname g w1 (by rw [numB_len]; omega) fun _ h2 w2 => ?_
    have k2 := (w2.keep _ hm0).2.2
    simp only at k2
    rcases ek with ek | ek
    · simp only [k2, ek, R0, R1, R2, R3, R4, R5, R6, R7, R8, R9, VOp.fresh, bxC, bsC, R10, un, most, callsOf, List.contains_nil, List.contains_cons, beq_iff_eq, List.getElem?_cons_zero, List.getElem?_cons_succ, seval, Option.map_none, Int.reducePow, ↓reduceIte, Nat.reduceEqDiff, reduceCtorEq, and_self]
      refine wops g hw (by have := hops.2.1; omega) ?_ (by omega) (by omega) w2 (by simp [txB, numB_len]) fun _ h3 w3 => ?_
      · intro o ho
        obtain ⟨i, hi, rfl⟩ := List.mem_iff_getElem.1 ho
        rw [← getD_op hi]
        exact opOk_small (hops.2.2 i hi).1
      rw [← er] at w3
      simp only [R0, R1, R2, R3, R4, R5, R6, R7, R8, R9, VOp.fresh, bxC, bsC, R10, un, most, callsOf, List.contains_nil, List.contains_cons, beq_iff_eq, List.getElem?_cons_zero, List.getElem?_cons_succ, seval, Option.map_none, Int.reducePow, ↓reduceIte, Nat.reduceEqDiff, reduceCtorEq, and_self]
      obtain ⟨v, e, ver, hb1, ho⟩ := w3.out
      rcases ho with ⟨_, hnil⟩ | ⟨c, e', ver', rfl, _, _, _, hc6⟩
      · exact absurd hnil (recB_ne _)
      · by_cases hlen : (recB r).length ≤ 8192
        · have c8 : ¬ (8192 : Int) < ((recB r).length : Int) := by omega
          simp only [hb1, c8, R0, R1, R2, R3, R4, R5, R6, R7, R8, R9, VOp.fresh, bxC, bsC, R10, un, most, callsOf, List.contains_nil, List.contains_cons, beq_iff_eq, List.getElem?_cons_zero, List.getElem?_cons_succ, seval, Option.map_none, Int.reducePow, ↓reduceIte, Nat.reduceEqDiff, reduceCtorEq, and_self]
          rw [cvT_sl hc6 (List.length_map _), mb_bytes (By.rec r)]
          simp only [R0, R1, R2, R3, R4, R5, R6, R7, R8, R9, VOp.fresh, bxC, bsC, R10, un, most, callsOf, List.contains_nil, List.contains_cons, beq_iff_eq, List.getElem?_cons_zero, List.getElem?_cons_succ, seval, Option.map_none, Int.reducePow, ↓reduceIte, Nat.reduceEqDiff, reduceCtorEq, and_self]
          rw [putAns, if_pos hlen]
        · have c8 : (8192 : Int) < ((recB r).length : Int) := by omega
          simp only [hb1, c8, R0, R1, R2, R3, R4, R5, R6, R7, R8, R9, VOp.fresh, bxC, bsC, R10, un, most, callsOf, List.contains_nil, List.contains_cons, beq_iff_eq, List.getElem?_cons_zero, List.getElem?_cons_succ, seval, Option.map_none, Int.reducePow, ↓reduceIte, Nat.reduceEqDiff, reduceCtorEq, and_self]
          rw [putAns, if_neg hlen]
    · simp only [k2, ek, R0, R1, R2, R3, R4, R5, R6, R7, R8, R9, VOp.fresh, bxC, bsC, R10, un, most, callsOf, List.contains_nil, List.contains_cons, beq_iff_eq, List.getElem?_cons_zero, List.getElem?_cons_succ, seval, Option.map_none, Int.reducePow, ↓reduceIte, Nat.reduceEqDiff, reduceCtorEq, and_self]
      refine wops g hw (by have := hops.2.1; omega) ?_ (by omega) (by omega) w2 (by simp [txB, numB_len]) fun _ h3 w3 => ?_
      · intro o ho
        obtain ⟨i, hi, rfl⟩ := List.mem_iff_getElem.1 ho
        rw [← getD_op hi]
        exact opOk_small (hops.2.2 i hi).1
      rw [← er] at w3
      simp only [R0, R1, R2, R3, R4, R5, R6, R7, R8, R9, VOp.fresh, bxC, bsC, R10, un, most, callsOf, List.contains_nil, List.contains_cons, beq_iff_eq, List.getElem?_cons_zero, List.getElem?_cons_succ, seval, Option.map_none, Int.reducePow, ↓reduceIte, Nat.reduceEqDiff, reduceCtorEq, and_self]
      obtain ⟨v, e, ver, hb1, ho⟩ := w3.out
      rcases ho with ⟨_, hnil⟩ | ⟨c, e', ver', rfl, _, _, _, hc6⟩
      · exact absurd hnil (recB_ne _)
      · by_cases hlen : (recB r).length ≤ 8192
        · have c8 : ¬ (8192 : Int) < ((recB r).length : Int) := by omega
          simp only [hb1, c8, R0, R1, R2, R3, R4, R5, R6, R7, R8, R9, VOp.fresh, bxC, bsC, R10, un, most, callsOf, List.contains_nil, List.contains_cons, beq_iff_eq, List.getElem?_cons_zero, List.getElem?_cons_succ, seval, Option.map_none, Int.reducePow, ↓reduceIte, Nat.reduceEqDiff, reduceCtorEq, and_self]
          rw [cvT_sl hc6 (List.length_map _), mb_bytes (By.rec r)]
          simp only [R0, R1, R2, R3, R4, R5, R6, R7, R8, R9, VOp.fresh, bxC, bsC, R10, un, most, callsOf, List.contains_nil, List.contains_cons, beq_iff_eq, List.getElem?_cons_zero, List.getElem?_cons_succ, seval, Option.map_none, Int.reducePow, ↓reduceIte, Nat.reduceEqDiff, reduceCtorEq, and_self]
          rw [putAns, if_pos hlen]
        · have c8 : (8192 : Int) < ((recB r).length : Int) := by omega
          simp only [hb1, c8, R0, R1, R2, R3, R4, R5, R6, R7, R8, R9, VOp.fresh, bxC, bsC, R10, un, most, callsOf, List.contains_nil, List.contains_cons, beq_iff_eq, List.getElem?_cons_zero, List.getElem?_cons_succ, seval, Option.map_none, Int.reducePow, ↓reduceIte, Nat.reduceEqDiff, reduceCtorEq, and_self]
          rw [putAns, if_neg hlen]
  · have e0 : ¬ r.kind = 0 := by omega
    have e1 : ¬ r.kind = 1 := by omega
    have e2 : ¬ r.kind = 2 := by omega
    have er : recB r = numB r.kind 1 ++ txB r.node r.seq ++ bitB r.commit := by rw [recB, if_neg e0, if_neg (by omega), if_pos ek, List.append_assoc]
    simp only [k1, e0, R0, R1, R2, R3, R4, R5, R6, R7, R8, R9, VOp.fresh, bxC, bsC, R10, un, most, callsOf, List.contains_nil, List.contains_cons, beq_iff_eq, List.getElem?_cons_zero, List.getElem?_cons_succ, seval, Option.map_none, Int.reducePow, ↓reduceIte, Nat.reduceEqDiff, reduceCtorEq, and_self]
    refine wname g w1 (by rw [numB_len]; omega) fun _ h2 w2 => ?_
    have k2 := (w2.keep _ hm0).2.2
    simp only at k2
    simp only [k2, ek, R0, R1, R2, R3, R4, R5, R6, R7, R8, R9, VOp.fresh, bxC, bsC, R10, un, most, callsOf, List.contains_nil, List.contains_cons, beq_iff_eq, List.getElem?_cons_zero, List.getElem?_cons_succ, seval, Option.map_none, Int.reducePow, ↓reduceIte, Nat.reduceEqDiff, reduceCtorEq, and_self]
    refine wbool g w2 (by simp [txB, numB_len]) fun _ h3 w3 => ?_
    rw [← er] at w3
    simp only [R0, R1, R2, R3, R4, R5, R6, R7, R8, R9, VOp.fresh, bxC, bsC, R10, un, most, callsOf, List.contains_nil, List.contains_cons, beq_iff_eq, List.getElem?_cons_zero, List.getElem?_cons_succ, seval, Option.map_none, Int.reducePow, ↓reduceIte, Nat.reduceEqDiff, reduceCtorEq, and_self]
    obtain ⟨v, e, ver, hb1, ho⟩ := w3.out
    rcases ho with ⟨_, hnil⟩ | ⟨c, e', ver', rfl, _, _, _, hc6⟩
    · exact absurd hnil (recB_ne _)
    · by_cases hlen : (recB r).length ≤ 8192
      · have c8 : ¬ (8192 : Int) < ((recB r).length : Int) := by omega
        simp only [hb1, c8, R0, R1, R2, R3, R4, R5, R6, R7, R8, R9, VOp.fresh, bxC, bsC, R10, un, most, callsOf, List.contains_nil, List.contains_cons, beq_iff_eq, List.getElem?_cons_zero, List.getElem?_cons_succ, seval, Option.map_none, Int.reducePow, ↓reduceIte, Nat.reduceEqDiff, reduceCtorEq, and_self]
        rw [cvT_sl hc6 (List.length_map _), mb_bytes (By.rec r)]
        simp only [R0, R1, R2, R3, R4, R5, R6, R7, R8, R9, VOp.fresh, bxC, bsC, R10, un, most, callsOf, List.contains_nil, List.contains_cons, beq_iff_eq, List.getElem?_cons_zero, List.getElem?_cons_succ, seval, Option.map_none, Int.reducePow, ↓reduceIte, Nat.reduceEqDiff, reduceCtorEq, and_self]
        rw [putAns, if_pos hlen]
      · have c8 : (8192 : Int) < ((recB r).length : Int) := by omega
        simp only [hb1, c8, R0, R1, R2, R3, R4, R5, R6, R7, R8, R9, VOp.fresh, bxC, bsC, R10, un, most, callsOf, List.contains_nil, List.contains_cons, beq_iff_eq, List.getElem?_cons_zero, List.getElem?_cons_succ, seval, Option.map_none, Int.reducePow, ↓reduceIte, Nat.reduceEqDiff, reduceCtorEq, and_self]
        rw [putAns, if_neg hlen]
  · have e0 : ¬ r.kind = 0 := by omega
    have er : recB r = numB r.kind 1 ++ txB r.node r.seq := by rw [recB, if_neg e0, if_neg (by omega), if_neg (by omega), List.append_nil]
    simp only [k1, e0, R0, R1, R2, R3, R4, R5, R6, R7, R8, R9, VOp.fresh, bxC, bsC, R10, un, most, callsOf, List.contains_nil, List.contains_cons, beq_iff_eq, List.getElem?_cons_zero, List.getElem?_cons_succ, seval, Option.map_none, Int.reducePow, ↓reduceIte, Nat.reduceEqDiff, reduceCtorEq, and_self]
    refine wname g w1 (by rw [numB_len]; omega) fun _ h2 w2 => ?_
    have k2 := (w2.keep _ hm0).2.2
    simp only at k2
    rw [← er] at w2
    simp only [k2, ek, R0, R1, R2, R3, R4, R5, R6, R7, R8, R9, VOp.fresh, bxC, bsC, R10, un, most, callsOf, List.contains_nil, List.contains_cons, beq_iff_eq, List.getElem?_cons_zero, List.getElem?_cons_succ, seval, Option.map_none, Int.reducePow, ↓reduceIte, Nat.reduceEqDiff, reduceCtorEq, and_self]
    obtain ⟨v, e, ver, hb1, ho⟩ := w2.out
    rcases ho with ⟨_, hnil⟩ | ⟨c, e', ver', rfl, _, _, _, hc6⟩
    · exact absurd hnil (recB_ne _)
    · by_cases hlen : (recB r).length ≤ 8192
      · have c8 : ¬ (8192 : Int) < ((recB r).length : Int) := by omega
        simp only [hb1, c8, R0, R1, R2, R3, R4, R5, R6, R7, R8, R9, VOp.fresh, bxC, bsC, R10, un, most, callsOf, List.contains_nil, List.contains_cons, beq_iff_eq, List.getElem?_cons_zero, List.getElem?_cons_succ, seval, Option.map_none, Int.reducePow, ↓reduceIte, Nat.reduceEqDiff, reduceCtorEq, and_self]
        rw [cvT_sl hc6 (List.length_map _), mb_bytes (By.rec r)]
        simp only [R0, R1, R2, R3, R4, R5, R6, R7, R8, R9, VOp.fresh, bxC, bsC, R10, un, most, callsOf, List.contains_nil, List.contains_cons, beq_iff_eq, List.getElem?_cons_zero, List.getElem?_cons_succ, seval, Option.map_none, Int.reducePow, ↓reduceIte, Nat.reduceEqDiff, reduceCtorEq, and_self]
        rw [putAns, if_pos hlen]
      · have c8 : (8192 : Int) < ((recB r).length : Int) := by omega
        simp only [hb1, c8, R0, R1, R2, R3, R4, R5, R6, R7, R8, R9, VOp.fresh, bxC, bsC, R10, un, most, callsOf, List.contains_nil, List.contains_cons, beq_iff_eq, List.getElem?_cons_zero, List.getElem?_cons_succ, seval, Option.map_none, Int.reducePow, ↓reduceIte, Nat.reduceEqDiff, reduceCtorEq, and_self]
        rw [putAns, if_neg hlen]
end
end Go.Proofs.Ytinonmcnofjeeaa.VM
