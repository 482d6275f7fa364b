/- What is spoiled: features, operations. -/
import Derived.Test.YtinonmcnofjeeaaL11Live
namespace Go.Proofs.Ytinonmcnofjeeaa.VM
set_option linter.unusedSimpArgs false
set_option linter.unusedVariables false
set_option linter.defProp false
set_option maxHeartbeats 1000000
attribute [local irreducible] Af Nx EvO Ev Un Gd Cd EvR EvQ EvC Nc Gc Lp EvM NxM AfM GdM EvMR EvMQ EvMD EvMC Nm Gm
section
variable {P : Program}
/-- the points of one ring -/
theorem spPts_loop (g : Pg P tab) {B : Nat → Prop} {h0 : Heap} {b off N cap b1 off1 N1 cap1 i0 b2 off2 N2 cap2 j0 : Nat} (hb : b < h0.next) (hi0 : i0 < N) (hN : N ≤ most3) (a0 : At h0 b (off + i0 * 3 + 2) (.sl b1 off1 N1 cap1 1))
    (hb1 : b1 < h0.next) (hj0 : j0 < N1) (a1 : At h0 b1 (off1 + j0) (.sl b2 off2 N2 cap2 2)) (hN2 : N2 ≤ most3) (hB : B b2) (hb2 : b2 < h0.next) (ha : ∀ i, i < N2 → AtI h0 b2 (off2 + i * 2)) (n : Nat) :
    ∀ (i : Nat) (s : T AV) (h : Heap) (k : List Fr) (Q : Ex → T AV → Heap → Prop), i + n = N2 → Sim B h0 h → sg s 0 = .sl b off N cap 3 → sg s 2 = .int .i64 i0 → sg s 3 = .int .i64 j0 → sg s 4 = .int .i64 i →
      (∀ s' h', Sim B h0 h' → (∀ j, j = 0 ∨ j = 2 ∨ j = 3 → sg s' j = sg s j) → Un P k Q (.exit 4) s' h') → Lp P b69_0 s h (Un P k Q) := by
  unfold most3 at hN2
  have d0 : 0 ≤ (i0 : Int) ∧ (i0 : Int) < (N : Int) ∧ 3 = 3 := ⟨by omega, by omega, rfl⟩
  have d1 : 0 ≤ (j0 : Int) ∧ (j0 : Int) < (N1 : Int) ∧ 1 = 1 := ⟨by omega, by omega, rfl⟩
  have no1 : NoI (.sl b1 off1 N1 cap1 1) := fun m e => by cases e
  have no2 : NoI (.sl b2 off2 N2 cap2 2) := fun m e => by cases e
  induction n with
  | zero =>
    intro i s h k Q hi hs h1 h2 h3 h4 hK
    refine g.lpe b69_0.eq_1 ?_
    have c1 : ¬ ((i : Int) < (N2 : Int)) := by omega
    have l0 := (a0.sim hb no1 hs).ld
    have l1 := (a1.sim hb1 no2 hs).ld
    simp only [h1, h2, h3, h4, d0, d1, c1, l0, l1, Int.toNat_natCast, Nat.mul_one, R0, R1, R2, R3, R4, R5, R6, R7, R8, R9, VOp.fresh, bxC, bsC, R10, un, most, callsOf, List.contains_nil, List.contains_cons, beq_iff_eq, List.getElem?_cons_zero, List.getElem?_cons_succ, seval, Option.map_none, Int.reducePow, ↓reduceIte, Nat.reduceEqDiff, reduceCtorEq, and_self]
    refine hK _ _ hs ?_
    rintro j (rfl | rfl | rfl) <;> simp only [sg_set, Nat.reduceEqDiff, ↓reduceIte]
  | succ n ih =>
    intro i s h k Q hi hs h1 h2 h3 h4 hK
    refine g.lpe b69_0.eq_1 ?_
    have c1 : ((i : Int) < (N2 : Int)) := by omega
    have d2 : 0 ≤ (i : Int) ∧ (i : Int) < (N2 : Int) ∧ 2 = 2 := ⟨by omega, by omega, rfl⟩
    have w1 : IntKind.i64.wrap ((i : Int) + 1) = ((i + 1 : Nat) : Int) := by rw [w64 (by omega) (by omega)]; push_cast; rfl
    have l0 := (a0.sim hb no1 hs).ld
    have l1 := (a1.sim hb1 no2 hs).ld
    have a := (ha i (by omega)).sim hb2 hs
    have a' := a
    obtain ⟨m, am⟩ := a'
    have ld := am.ld
    obtain ⟨h', hw, hs'⟩ := a.st hB (bitsOf .xor .i64 m 90)
    simp only [h1, h2, h3, h4, d0, d1, d2, c1, l0, l1, ld, hw, w1, Int.toNat_natCast, Nat.mul_one, Nat.add_zero, R0, R1, R2, R3, R4, R5, R6, R7, R8, R9, VOp.fresh, bxC, bsC, R10, un, most, callsOf, List.contains_nil, List.contains_cons, beq_iff_eq, List.getElem?_cons_zero, List.getElem?_cons_succ, seval, Option.map_none, Int.reducePow, ↓reduceIte, Nat.reduceEqDiff, reduceCtorEq, and_self]
    refine ih (i + 1) _ h' k Q (by omega) (hs.trans hs') ?_ ?_ ?_ ?_ ?_
    · simp only [h1, sg_set, Nat.reduceEqDiff, ↓reduceIte]
    · simp only [h2, sg_set, Nat.reduceEqDiff, ↓reduceIte]
    · simp only [h3, sg_set, Nat.reduceEqDiff, ↓reduceIte]
    · simp only [sg_set, Nat.reduceEqDiff, ↓reduceIte]
    · intro s' h'' q1 q2
      refine hK s' h'' q1 fun j hj => (q2 j hj).trans ?_
      rcases hj with rfl | rfl | rfl <;> simp only [sg_set, Nat.reduceEqDiff, ↓reduceIte]
/-- the rings of one feature -/
theorem spRings_loop (g : Pg P tab) {B : Nat → Prop} {h0 : Heap} {b off N cap b1 off1 N1 cap1 i0 : Nat} (hb : b < h0.next) (hi0 : i0 < N) (hN : N ≤ most3) (a0 : At h0 b (off + i0 * 3 + 2) (.sl b1 off1 N1 cap1 1))
    (hb1 : b1 < h0.next) (hN1 : N1 ≤ most3) (ha : ∀ i, i < N1 → ∃ x, At h0 b1 (off1 + i) x ∧ LPts h0 B x) (n : Nat) :
    ∀ (i : Nat) (s : T AV) (h : Heap) (k : List Fr) (Q : Ex → T AV → Heap → Prop), i + n = N1 → Sim B h0 h → sg s 0 = .sl b off N cap 3 → sg s 2 = .int .i64 i0 → sg s 3 = .int .i64 i →
      (∀ s' h', Sim B h0 h' → (∀ j, j = 0 ∨ j = 2 → sg s' j = sg s j) → Un P k Q (.exit 2) s' h') → Lp P b69_1 s h (Un P k Q) := by
  have d0 : 0 ≤ (i0 : Int) ∧ (i0 : Int) < (N : Int) ∧ 3 = 3 := ⟨by omega, by omega, rfl⟩
  have no1 : NoI (.sl b1 off1 N1 cap1 1) := fun m e => by cases e
  unfold most3 at hN1
  induction n with
  | zero =>
    intro i s h k Q hi hs h1 h2 h3 hK
    refine g.lpe b69_1.eq_1 ?_
    have c1 : ¬ ((i : Int) < (N1 : Int)) := by omega
    have l0 := (a0.sim hb no1 hs).ld
    simp only [h1, h2, h3, d0, c1, l0, Int.toNat_natCast, Nat.mul_one, R0, R1, R2, R3, R4, R5, R6, R7, R8, R9, VOp.fresh, bxC, bsC, R10, un, most, callsOf, List.contains_nil, List.contains_cons, beq_iff_eq, List.getElem?_cons_zero, List.getElem?_cons_succ, seval, Option.map_none, Int.reducePow, ↓reduceIte, Nat.reduceEqDiff, reduceCtorEq, and_self]
    refine hK _ _ hs ?_
    rintro j (rfl | rfl) <;> simp only [sg_set, Nat.reduceEqDiff, ↓reduceIte]
  | succ n ih =>
    intro i s h k Q hi hs h1 h2 h3 hK
    refine g.lpe b69_1.eq_1 ?_
    have c1 : ((i : Int) < (N1 : Int)) := by omega
    have d1 : 0 ≤ (i : Int) ∧ (i : Int) < (N1 : Int) ∧ 1 = 1 := ⟨by omega, by omega, rfl⟩
    have w1 : IntKind.i64.wrap ((i : Int) + 1) = ((i + 1 : Nat) : Int) := by rw [w64 (by omega) (by omega)]; push_cast; rfl
    have l0 := (a0.sim hb no1 hs).ld
    obtain ⟨x, ax, lx⟩ := ha i (by omega)
    have step : ∀ s' h', Sim B h0 h' → sg s' 0 = .sl b off N cap 3 → sg s' 2 = .int .i64 i0 → sg s' 3 = .int .i64 (i + 1 : Nat) → Lp P b69_1 s' h' (Un P k Q) := fun s' h' e0 e1 e2 e3 =>
      ih (i + 1) _ _ k Q (by omega) e0 e1 e2 e3 fun s'' h'' q1 q2 => hK s'' h'' q1 fun j hj => (q2 j hj).trans (by rcases hj with rfl | rfl; exact e1.trans h1.symm; exact e2.trans h2.symm)
    simp only [h1, h2, h3, d0, c1, l0, Int.toNat_natCast, Nat.mul_one, R0, R1, R2, R3, R4, R5, R6, R7, R8, R9, VOp.fresh, bxC, bsC, R10, un, most, callsOf, List.contains_nil, List.contains_cons, beq_iff_eq, List.getElem?_cons_zero, List.getElem?_cons_succ, seval, Option.map_none, Int.reducePow, ↓reduceIte, Nat.reduceEqDiff, reduceCtorEq, and_self]
    rcases lx with rfl | ⟨b2, off2, N2, cap2, rfl, p1, p2, p3, p4⟩
    · refine g.lpe b69_0.eq_1 ?_
      have l1 := (ax.sim hb1 (fun m e => by cases e) hs).ld
      simp only [h1, h2, h3, d0, d1, c1, l0, l1, w1, Int.toNat_natCast, Nat.mul_one, R0, R1, R2, R3, R4, R5, R6, R7, R8, R9, VOp.fresh, bxC, bsC, R10, un, most, callsOf, List.contains_nil, List.contains_cons, beq_iff_eq, List.getElem?_cons_zero, List.getElem?_cons_succ, seval, Option.map_none, Int.reducePow, ↓reduceIte, Nat.reduceEqDiff, reduceCtorEq, and_self]
      refine step _ _ hs ?_ ?_ ?_
      · simp only [h1, sg_set, Nat.reduceEqDiff, ↓reduceIte]
      · simp only [h2, sg_set, Nat.reduceEqDiff, ↓reduceIte]
      · simp only [sg_set, Nat.reduceEqDiff, ↓reduceIte]
    · refine spPts_loop g (cap := cap) hb hi0 hN a0 hb1 (by omega) ax p1 p2 p3 p4 N2 0 _ _ _ _ (by omega) hs ?_ ?_ ?_ ?_ ?_
      · simp only [h1, sg_set, Nat.reduceEqDiff, ↓reduceIte]
      · simp only [h2, sg_set, Nat.reduceEqDiff, ↓reduceIte]
      · simp only [h3, sg_set, Nat.reduceEqDiff, ↓reduceIte]
      · simp only [sg_set, Nat.reduceEqDiff, ↓reduceIte]
        rfl
      intro s' h' hs' q
      have q0 := q 0 (by simp)
      have q2 := q 2 (by simp)
      have q3 := q 3 (by simp)
      simp only [sg_set, Nat.reduceEqDiff, ↓reduceIte, h1, h2, h3] at q0 q2 q3
      simp only [q3, w1, R0, R1, R2, R3, R4, R5, R6, R7, R8, R9, VOp.fresh, bxC, bsC, R10, un, most, callsOf, List.contains_nil, List.contains_cons, beq_iff_eq, List.getElem?_cons_zero, List.getElem?_cons_succ, seval, Option.map_none, Int.reducePow, ↓reduceIte, Nat.reduceEqDiff, reduceCtorEq, and_self]
      refine step _ _ hs' ?_ ?_ ?_
      · simp only [q0, sg_set, Nat.reduceEqDiff, ↓reduceIte]
      · simp only [q2, sg_set, Nat.reduceEqDiff, ↓reduceIte]
      · simp only [sg_set, Nat.reduceEqDiff, ↓reduceIte]
theorem spFeats_loop (g : Pg P tab) {B : Nat → Prop} {h0 : Heap} {b off N cap : Nat} (hb : b < h0.next) (hB : B b) (hN : N ≤ most3) (ha : ∀ i, i < N → AtI h0 b (off + i * 3) ∧ ∃ x, At h0 b (off + i * 3 + 2) x ∧ LRings h0 B x) (n : Nat) :
    ∀ (i : Nat) (s : T AV) (h : Heap) (k : List Fr) (Q : Ex → T AV → Heap → Prop), i + n = N → Sim B h0 h → sg s 0 = .sl b off N cap 3 → sg s 2 = .int .i64 i →
      (∀ s' h', Sim B h0 h' → Un P k Q (.exit 0) s' h') → Lp P b69_2 s h (Un P k Q) := by
  have hN' := hN
  unfold most3 at hN'
  induction n with
  | zero =>
    intro i s h k Q hi hs h1 h2 hK
    refine g.lpe b69_2.eq_1 ?_
    have c1 : ¬ ((i : Int) < (N : Int)) := by omega
    simp only [h1, h2, c1, R0, R1, R2, R3, R4, R5, R6, R7, R8, R9, VOp.fresh, bxC, bsC, R10, un, most, callsOf, List.contains_nil, List.contains_cons, beq_iff_eq, List.getElem?_cons_zero, List.getElem?_cons_succ, seval, Option.map_none, Int.reducePow, ↓reduceIte, Nat.reduceEqDiff, reduceCtorEq, and_self]
    exact hK _ _ hs
  | succ n ih =>
    intro i s h k Q hi hs h1 h2 hK
    refine g.lpe b69_2.eq_1 ?_
    have c1 : ((i : Int) < (N : Int)) := by omega
    have d0 : 0 ≤ (i : Int) ∧ (i : Int) < (N : Int) ∧ 3 = 3 := ⟨by omega, by omega, rfl⟩
    have w1 : IntKind.i64.wrap ((i : Int) + 1) = ((i + 1 : Nat) : Int) := by rw [w64 (by omega) (by omega)]; push_cast; rfl
    obtain ⟨ai, x, ax, lx⟩ := ha i (by omega)
    simp only [h1, h2, c1, R0, R1, R2, R3, R4, R5, R6, R7, R8, R9, VOp.fresh, bxC, bsC, R10, un, most, callsOf, List.contains_nil, List.contains_cons, beq_iff_eq, List.getElem?_cons_zero, List.getElem?_cons_succ, seval, Option.map_none, Int.reducePow, ↓reduceIte, Nat.reduceEqDiff, reduceCtorEq, and_self]
    have l0 := (ax.sim hb lx.noI hs).ld
    rcases lx with rfl | ⟨b1, off1, N1, cap1, rfl, p1, p2, p3, p4⟩
    · refine g.lpe b69_1.eq_1 ?_
      obtain ⟨m, am⟩ := ai.sim hb hs
      have ld := am.ld
      obtain ⟨h', hw, hs'⟩ := (ai.sim hb hs).st hB (bitsOf .xor .i64 m 90)
      simp only [h1, h2, d0, l0, ld, hw, w1, Int.toNat_natCast, Nat.add_zero, R0, R1, R2, R3, R4, R5, R6, R7, R8, R9, VOp.fresh, bxC, bsC, R10, un, most, callsOf, List.contains_nil, List.contains_cons, beq_iff_eq, List.getElem?_cons_zero, List.getElem?_cons_succ, seval, Option.map_none, Int.reducePow, ↓reduceIte, Nat.reduceEqDiff, reduceCtorEq, and_self]
      refine ih (i + 1) _ h' k Q (by omega) (hs.trans hs') ?_ ?_ hK
      · simp only [h1, sg_set, Nat.reduceEqDiff, ↓reduceIte]
      · simp only [sg_set, Nat.reduceEqDiff, ↓reduceIte]
    · refine spRings_loop g (cap := cap) hb (by omega) hN ax p3 p1 p4 N1 0 _ _ _ _ (by omega) hs ?_ ?_ ?_ ?_
      · simp only [h1, sg_set, Nat.reduceEqDiff, ↓reduceIte]
      · simp only [h2, sg_set, Nat.reduceEqDiff, ↓reduceIte]
      · simp only [sg_set, Nat.reduceEqDiff, ↓reduceIte]
        rfl
      intro s' h2' hs2 q
      have q0 := q 0 (by simp)
      have q2 := q 2 (by simp)
      simp only [sg_set, Nat.reduceEqDiff, ↓reduceIte, h1, h2] at q0 q2
      obtain ⟨m, am⟩ := ai.sim hb hs2
      have ld := am.ld
      obtain ⟨h', hw, hs'⟩ := (ai.sim hb hs2).st hB (bitsOf .xor .i64 m 90)
      simp only [q0, q2, d0, ld, hw, w1, Int.toNat_natCast, Nat.add_zero, R0, R1, R2, R3, R4, R5, R6, R7, R8, R9, VOp.fresh, bxC, bsC, R10, un, most, callsOf, List.contains_nil, List.contains_cons, beq_iff_eq, List.getElem?_cons_zero, List.getElem?_cons_succ, seval, Option.map_none, Int.reducePow, ↓reduceIte, Nat.reduceEqDiff, reduceCtorEq, and_self]
      refine ih (i + 1) _ h' k Q (by omega) (hs2.trans hs') ?_ ?_ hK
      · simp only [q0, sg_set, Nat.reduceEqDiff, ↓reduceIte]
      · simp only [sg_set, Nat.reduceEqDiff, ↓reduceIte]
theorem spFeats_cl (g : Pg P tab) {B : Nat → Prop} {h : Heap} {v : AV} (l : LFeats h B v) {Q : AV → Heap → Prop} (q : ∀ v h', Sim B h h' → Q v h') : Cl P 69 [v] h Q := by
  refine g.cl (vf := v69) rfl rfl ?_
  rcases l with rfl | ⟨b, off, n, cap, rfl, a1, a2, a3, a4⟩
  · simp only [v69, R0, R1, R2, R3, R4, R5, R6, R7, R8, R9, VOp.fresh, bxC, bsC, R10, un, most, callsOf, List.contains_nil, List.contains_cons, beq_iff_eq, List.getElem?_cons_zero, List.getElem?_cons_succ, seval, Option.map_none, Int.reducePow, ↓reduceIte, Nat.reduceEqDiff, reduceCtorEq, and_self]
    refine g.lpe b69_2.eq_1 ?_
    simp only [R0, R1, R2, R3, R4, R5, R6, R7, R8, R9, VOp.fresh, bxC, bsC, R10, un, most, callsOf, List.contains_nil, List.contains_cons, beq_iff_eq, List.getElem?_cons_zero, List.getElem?_cons_succ, seval, Option.map_none, Int.reducePow, ↓reduceIte, Nat.reduceEqDiff, reduceCtorEq, and_self]
    exact q _ _ Sim.refl
  · simp only [v69, R0, R1, R2, R3, R4, R5, R6, R7, R8, R9, VOp.fresh, bxC, bsC, R10, un, most, callsOf, List.contains_nil, List.contains_cons, beq_iff_eq, List.getElem?_cons_zero, List.getElem?_cons_succ, seval, Option.map_none, Int.reducePow, ↓reduceIte, Nat.reduceEqDiff, reduceCtorEq, and_self]
    refine spFeats_loop g (cap := cap) a3 a2 a1 a4 n 0 _ _ _ _ (by omega) Sim.refl ?_ ?_ fun s' h' hs => ?_
    · simp only [sg_set, Nat.reduceEqDiff, ↓reduceIte]
    · simp only [sg_set, Nat.reduceEqDiff, ↓reduceIte]
      rfl
    simp only [R0, R1, R2, R3, R4, R5, R6, R7, R8, R9, VOp.fresh, bxC, bsC, R10, un, most, callsOf, List.contains_nil, List.contains_cons, beq_iff_eq, List.getElem?_cons_zero, List.getElem?_cons_succ, seval, Option.map_none, Int.reducePow, ↓reduceIte, Nat.reduceEqDiff, reduceCtorEq, and_self]
    exact q _ _ hs
theorem spOps_loop (g : Pg P tab) {B : Nat → Prop} {h0 : Heap} {b off N cap : Nat} (hb : b < h0.next) (hB : B b) (hN : N ≤ most3)
    (ha : ∀ i, i < N → AtI h0 b (off + i * 8 + 1) ∧ AtE h0 b (off + i * 8 + 2) ∧ (∃ x, At h0 b (off + i * 8 + 3) x ∧ LRings h0 B x) ∧ AtI h0 b (off + i * 8 + 4) ∧ AtE h0 b (off + i * 8 + 5) ∧ (∃ x, At h0 b (off + i * 8 + 6) x ∧ LInts h0 B x) ∧ ∃ x, At h0 b (off + i * 8 + 7) x ∧ LInts h0 B x) (n : Nat) :
    ∀ (i : Nat) (s : T AV) (h : Heap) (k : List Fr) (Q : Ex → T AV → Heap → Prop), i + n = N → Sim B h0 h → sg s 0 = .sl b off N cap 8 → sg s 2 = .int .i64 i →
      (∀ s' h', Sim B h0 h' → Un P k Q (.exit 0) s' h') → Lp P b21_0 s h (Un P k Q) := by
  have hN' := hN
  unfold most3 at hN'
  induction n with
  | zero =>
    intro i s h k Q hi hs h1 h2 hK
    refine g.lpe b21_0.eq_1 ?_
    have c1 : ¬ ((i : Int) < (N : Int)) := by omega
    simp only [h1, h2, c1, R0, R1, R2, R3, R4, R5, R6, R7, R8, R9, VOp.fresh, bxC, bsC, R10, un, most, callsOf, List.contains_nil, List.contains_cons, beq_iff_eq, List.getElem?_cons_zero, List.getElem?_cons_succ, seval, Option.map_none, Int.reducePow, ↓reduceIte, Nat.reduceEqDiff, reduceCtorEq, and_self]
    exact hK _ _ hs
  | succ n ih =>
    intro i s h k Q hi hs h1 h2 hK
    refine g.lpe b21_0.eq_1 ?_
    have c1 : ((i : Int) < (N : Int)) := by omega
    have d0 : 0 ≤ (i : Int) ∧ (i : Int) < (N : Int) ∧ 8 = 8 := ⟨by omega, by omega, rfl⟩
    have w1 : IntKind.i64.wrap ((i : Int) + 1) = ((i + 1 : Nat) : Int) := by rw [w64 (by omega) (by omega)]; push_cast; rfl
    obtain ⟨p1, p2, ⟨r, p3, lr⟩, p4, p5, ⟨u, p6, lu⟩, v, p7, lv⟩ := ha i (by omega)
    obtain ⟨fi, q1⟩ := p1.sim hb hs
    obtain ⟨fs, q2, of⟩ := p2.sim hb hs
    have q3 := p3.sim hb lr.noI hs
    have l0 := q1.ld3 q2 q3
    have orr := lr.one
    have x0 := Ext.mk (h := h) (.cells [.int .i64 fi, fs, r] 52 0)
    have n0 : (h.mk' h.next (.cells [.int .i64 fi, fs, r] 52 0)).next = h.next + 1 := by rw [mk_next]; omega
    have g0 : (h.mk' h.next (.cells [.int .i64 fi, fs, r] 52 0)).get h.next = some (.cells [.int .i64 fi, fs, r] 52 0) := by rw [Heap.get_mk, if_pos rfl]
    simp only [h1, h2, d0, c1, l0, of, orr, RW, Int.toNat_natCast, R0, R1, R2, R3, R4, R5, R6, R7, R8, R9, VOp.fresh, bxC, bsC, R10, un, most, callsOf, List.contains_nil, List.contains_cons, beq_iff_eq, List.getElem?_cons_zero, List.getElem?_cons_succ, seval, Option.map_none, Int.reducePow, ↓reduceIte, Nat.reduceEqDiff, reduceCtorEq, and_self]
    refine spFeats_cl g (B := fun c => B c ∨ c = h.next) (.inr ⟨h.next, 0, 1, 1, rfl, by unfold most3; omega, .inr rfl, by omega, fun j hj => ?_⟩) fun _ h3 s3 => ?_
    · obtain rfl : j = 0 := by omega
      exact ⟨⟨fi, _, _, _, g0, rfl⟩, r, ⟨_, _, _, g0, rfl⟩, ((lr.sim hs).sim (B' := B) (Sim.ext x0)).weak fun c hc => .inl hc⟩
    have hs3 : Sim B h0 h3 := hs.trans (((Sim.ext x0).trans s3).cut fun c hc hl => by rcases hc with hc | hc; exact hc; omega)
    obtain ⟨ep, q5, o5⟩ := p5.sim hb hs3
    have q6 := p6.sim hb lu.noI hs3
    have q7 := p7.sim hb lv.noI hs3
    have l1 := q5.ld3 q6 q7
    simp only [h1, h2, d0, l1, Int.toNat_natCast, R0, R1, R2, R3, R4, R5, R6, R7, R8, R9, VOp.fresh, bxC, bsC, R10, un, most, callsOf, List.contains_nil, List.contains_cons, beq_iff_eq, List.getElem?_cons_zero, List.getElem?_cons_succ, seval, Option.map_none, Int.reducePow, ↓reduceIte, Nat.reduceEqDiff, reduceCtorEq, and_self]
    refine spMap_cl g (B := B) (lu.sim hs3) (lv.sim hs3) ⟨o5, lu.one, lv.one⟩ fun _ h4 s4 => ?_
    have hs4 := hs3.trans s4
    obtain ⟨m, am⟩ := p4.sim hb hs4
    have ld := am.ld
    obtain ⟨h', hw, hs'⟩ := (p4.sim hb hs4).st hB (bitsOf .xor .i64 m 90)
    simp only [h1, h2, d0, ld, hw, w1, Int.toNat_natCast, R0, R1, R2, R3, R4, R5, R6, R7, R8, R9, VOp.fresh, bxC, bsC, R10, un, most, callsOf, List.contains_nil, List.contains_cons, beq_iff_eq, List.getElem?_cons_zero, List.getElem?_cons_succ, seval, Option.map_none, Int.reducePow, ↓reduceIte, Nat.reduceEqDiff, reduceCtorEq, and_self]
    refine ih (i + 1) _ h' k Q (by omega) (hs4.trans hs') ?_ ?_ hK
    · simp only [h1, sg_set, Nat.reduceEqDiff, ↓reduceIte]
    · simp only [sg_set, Nat.reduceEqDiff, ↓reduceIte]
theorem spOps_cl (g : Pg P tab) {B : Nat → Prop} {h : Heap} {v : AV} (l : LOps h B v) {Q : AV → Heap → Prop} (q : ∀ v h', Sim B h h' → Q v h') : Cl P 21 [v] h Q := by
  refine g.cl (vf := v21) rfl rfl ?_
  rcases l with rfl | ⟨b, off, n, cap, rfl, a1, a2, a3, a4⟩
  · simp only [v21, R0, R1, R2, R3, R4, R5, R6, R7, R8, R9, VOp.fresh, bxC, bsC, R10, un, most, callsOf, List.contains_nil, List.contains_cons, beq_iff_eq, List.getElem?_cons_zero, List.getElem?_cons_succ, seval, Option.map_none, Int.reducePow, ↓reduceIte, Nat.reduceEqDiff, reduceCtorEq, and_self]
    refine g.lpe b21_0.eq_1 ?_
    simp only [R0, R1, R2, R3, R4, R5, R6, R7, R8, R9, VOp.fresh, bxC, bsC, R10, un, most, callsOf, List.contains_nil, List.contains_cons, beq_iff_eq, List.getElem?_cons_zero, List.getElem?_cons_succ, seval, Option.map_none, Int.reducePow, ↓reduceIte, Nat.reduceEqDiff, reduceCtorEq, and_self]
    exact q _ _ Sim.refl
  · simp only [v21, R0, R1, R2, R3, R4, R5, R6, R7, R8, R9, VOp.fresh, bxC, bsC, R10, un, most, callsOf, List.contains_nil, List.contains_cons, beq_iff_eq, List.getElem?_cons_zero, List.getElem?_cons_succ, seval, Option.map_none, Int.reducePow, ↓reduceIte, Nat.reduceEqDiff, reduceCtorEq, and_self]
    refine spOps_loop g (cap := cap) a3 a2 a1 a4 n 0 _ _ _ _ (by omega) Sim.refl ?_ ?_ fun s' h' hs => ?_
    · simp only [sg_set, Nat.reduceEqDiff, ↓reduceIte]
    · simp only [sg_set, Nat.reduceEqDiff, ↓reduceIte]
      rfl
    simp only [R0, R1, R2, R3, R4, R5, R6, R7, R8, R9, VOp.fresh, bxC, bsC, R10, un, most, callsOf, List.contains_nil, List.contains_cons, beq_iff_eq, List.getElem?_cons_zero, List.getElem?_cons_succ, seval, Option.map_none, Int.reducePow, ↓reduceIte, Nat.reduceEqDiff, reduceCtorEq, and_self]
    exact q _ _ hs
end
end Go.Proofs.Ytinonmcnofjeeaa.VM
