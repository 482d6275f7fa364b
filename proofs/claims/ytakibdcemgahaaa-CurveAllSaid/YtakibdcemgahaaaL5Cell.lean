/- What the program's loop of the curve computes, by the small machine. -/
import Derived.Test.YtakibdcemgahaaaL5Lit
import Derived.Test.YtakibdcemgahaaaSE4
import Derived.Test.YtakibdcemgahaaaHil
namespace Go.Proofs.Ytakibdcemgahaaa.VM
set_option linter.unusedSimpArgs false
set_option linter.unusedVariables false
set_option linter.defProp false
set_option maxHeartbeats 1000000
open Go.Proofs.Ytakibdcemgahaaa.Hil

section
variable {P : Program}
theorem num_pu (g : Pg P tab) (n : Int) : Pu P 14 [.int .i64 n] (fun v => v = .int .i64 n) := by
  refine g.pu (vf := v14) rfl rfl ?_
  simp +contextual (maxSteps := 2000000) (disch := omega) only [v14, R0, R1, R2, R3, R4, R5, R6, R7, R8, R9, VOp.fresh, bxC, bsC, AV.cells, un, most, callsOf, List.contains_nil, List.contains_cons, beq_iff_eq, List.getElem?_cons_zero, List.getElem?_cons_succ, seval, Int.reducePow, ↓reduceIte, Nat.reduceEqDiff, reduceCtorEq, and_self]

def turnedOf (a b s rx ry : Nat) : Nat × Nat := if ry = 1 then (a, b) else if rx = 1 then (s - 1 - b, s - 1 - a) else (b, a)
theorem turned_pu (g : Pg P tab) {a b s rx ry : Nat} (ha : a < s) (hb : b < s) (hs : s ≤ 65536) :
    Pu P 18 [.int .i64 a, .int .i64 b, .int .i64 s, .int .i64 rx, .int .i64 ry] (fun v => v = .tup [.int .i64 ((turnedOf a b s rx ry).1 : Nat), .int .i64 ((turnedOf a b s rx ry).2 : Nat)]) := by
  refine g.pu (vf := v18) rfl rfl ?_
  simp +contextual (maxSteps := 2000000) (disch := omega) only [v18, R0, R1, R2, R3, R4, R5, R6, R7, R8, R9, VOp.fresh, bxC, bsC, AV.cells, un, most, callsOf, List.contains_nil, List.contains_cons, beq_iff_eq, List.getElem?_cons_zero, List.getElem?_cons_succ, seval, Int.reducePow, ↓reduceIte, Nat.reduceEqDiff, reduceCtorEq, and_self]
  unfold turnedOf
  refine ⟨fun h => ?_, fun h => ⟨fun h2 => ?_, fun h2 => ?_⟩⟩
  · rw [if_pos (by omega)]
  · rw [if_neg (by omega), if_pos (by omega)]
    simp only [AV.tup.injEq, List.cons.injEq, AV.int.injEq, true_and, and_true]
    omega
  · rw [if_neg (by omega), if_neg (by omega)]

theorem xor_dig : ∀ rx ry : Nat, rx < 2 → ry < 2 → bitsOf .xor .i64 (3 * (rx : Int)) (ry : Int) = (dig rx ry : Int) := by
  intro rx ry h1 h2
  have r : ry = 0 ∨ ry = 1 := by omega
  have q : rx = 0 ∨ rx = 1 := by omega
  rcases r with rfl | rfl <;> rcases q with rfl | rfl <;> decide +kernel

theorem cell_loop (g : Pg P tab) (n : Nat) : ∀ (X Y : Nat) (D : Int) (s : T AV) (h : Heap) (k : List Fr) (Q : Ex → T AV → Heap → Prop), n ≤ 16 → X < 2 ^ n → Y < 2 ^ n → 0 ≤ D → D + (4 ^ n : Nat) ≤ 4294967296 →
    sg s 0 = .int .i64 X → sg s 1 = .int .i64 Y → sg s 8 = .int .i64 D → sg s 9 = .int .i64 ((n : Int) - 1) → (∀ s', sg s' 8 = .int .i64 (D + (hcell n X Y : Int)) → Un P k Q (.exit 0) s' h) → Lp P b12_0 s h (Un P k Q) := by
  induction n with
  | zero =>
    intro X Y D s h k Q _ _ _ _ _ h0 h1 h8 h9 hK
    refine g.lpe b12_0.eq_1 ?_
    simp +contextual (maxSteps := 2000000) (disch := omega) only [h0, h1, h8, h9, R0, R1, R2, R3, R4, R5, R6, R7, R8, R9, VOp.fresh, bxC, bsC, AV.cells, un, most, callsOf, List.contains_nil, List.contains_cons, beq_iff_eq, List.getElem?_cons_zero, List.getElem?_cons_succ, seval, Int.reducePow, ↓reduceIte, Nat.reduceEqDiff, reduceCtorEq, and_self]
    refine hK _ ?_
    simp only [sg_set, seval, h8, hcell]
    simp
  | succ n ih =>
    intro X Y D s h k Q hn hX hY hD hD1 h0 h1 h8 h9 hK
    have h2 := two_pos n
    have hp : 2 ^ n ≤ 2 ^ 15 := Nat.pow_le_pow_right (by decide) (by omega)
    have hp4 : 4 ^ n ≤ 4 ^ 15 := Nat.pow_le_pow_right (by decide) (by omega)
    rw [Nat.pow_succ] at hX hY hD1
    refine g.lpe b12_0.eq_1 ?_
    have e9 : (((n + 1 : Nat) : Int) - 1) = (n : Int) := by omega
    rw [e9] at h9
    have s1 : (X : Int).fdiv (2 ^ min n 64) = ((X / 2 ^ n : Nat) : Int) := shr_nat (by omega)
    have s2 : (Y : Int).fdiv (2 ^ min n 64) = ((Y / 2 ^ n : Nat) : Int) := shr_nat (by omega)
    have s3 : IntKind.i64.wrap (1 * 2 ^ min n 64) = ((2 ^ n : Nat) : Int) := shl_nat (by omega)
    have c0 : (0 : Int) ≤ (n : Int) := by omega
    have a1 : bitsOf .and .i64 (X : Int) (((2 ^ n : Nat) : Int) - 1) = ((X % 2 ^ n : Nat) : Int) := and_low (by omega) (by omega)
    have a2 : bitsOf .and .i64 (Y : Int) (((2 ^ n : Nat) : Int) - 1) = ((Y % 2 ^ n : Nat) : Int) := and_low (by omega) (by omega)
    have a3 : bitsOf .and .i64 ((X / 2 ^ n : Nat) : Int) 1 = ((X / 2 ^ n % 2 : Nat) : Int) := and_one (Nat.lt_of_le_of_lt (Nat.div_le_self _ _) (by omega))
    have a4 : bitsOf .and .i64 ((Y / 2 ^ n : Nat) : Int) 1 = ((Y / 2 ^ n % 2 : Nat) : Int) := and_one (Nat.lt_of_le_of_lt (Nat.div_le_self _ _) (by omega))
    have x1 := xor_dig (X / 2 ^ n % 2) (Y / 2 ^ n % 2) (Nat.mod_lt _ (by decide)) (Nat.mod_lt _ (by decide))
    have hd := dig_lt (X / 2 ^ n % 2) (Y / 2 ^ n % 2)
    have q1 : (((2 ^ n : Nat) : Int) * ((2 ^ n : Nat) : Int)) = ((4 ^ n : Nat) : Int) := by
      rw [← Int.natCast_mul, ← Nat.mul_pow]
    have q2 : ((4 ^ n : Nat) : Int) * (dig (X / 2 ^ n % 2) (Y / 2 ^ n % 2) : Int) = ((4 ^ n * dig (X / 2 ^ n % 2) (Y / 2 ^ n % 2) : Nat) : Int) := by push_cast; rfl
    have q3 : 4 ^ n * dig (X / 2 ^ n % 2) (Y / 2 ^ n % 2) ≤ 4 ^ n * 3 := Nat.mul_le_mul_left _ (by omega)
    have w1 : IntKind.i64.wrap (3 * ((X / 2 ^ n % 2 : Nat) : Int)) = 3 * ((X / 2 ^ n % 2 : Nat) : Int) := w64 (by omega) (by omega)
    have w2 : IntKind.i64.wrap (((2 ^ n : Nat) : Int) - 1) = ((2 ^ n : Nat) : Int) - 1 := by
      generalize 2 ^ n = m at *
      exact w64 (by omega) (by omega)
    have w3 : IntKind.i64.wrap ((4 ^ n : Nat) : Int) = ((4 ^ n : Nat) : Int) := by
      generalize 4 ^ n = m at *
      exact w64 (by omega) (by omega)
    have w4 : IntKind.i64.wrap ((4 ^ n * dig (X / 2 ^ n % 2) (Y / 2 ^ n % 2) : Nat) : Int) = ((4 ^ n * dig (X / 2 ^ n % 2) (Y / 2 ^ n % 2) : Nat) : Int) := by
      generalize 4 ^ n * dig (X / 2 ^ n % 2) (Y / 2 ^ n % 2) = m at *
      exact w64 (by omega) (by omega)
    have w5 : IntKind.i64.wrap (D + ((4 ^ n * dig (X / 2 ^ n % 2) (Y / 2 ^ n % 2) : Nat) : Int)) = D + ((4 ^ n * dig (X / 2 ^ n % 2) (Y / 2 ^ n % 2) : Nat) : Int) := by
      generalize 4 ^ n * dig (X / 2 ^ n % 2) (Y / 2 ^ n % 2) = m at *
      exact w64 (by omega) (by omega)
    simp only [c0, h0, h1, h8, h9, s1, s2, s3, a3, a4, x1, q1, q2, w1, w2, w3, w4, w5, a1, a2, R0, R1, R2, R3, R4, R5, R6, R7, R8, R9, VOp.fresh, bxC, bsC, AV.cells, un, most, callsOf, List.contains_nil, List.contains_cons, beq_iff_eq, List.getElem?_cons_zero, List.getElem?_cons_succ, seval, Int.reducePow, ↓reduceIte, Nat.reduceEqDiff, reduceCtorEq, and_self]
    refine (turned_pu g (Nat.mod_lt _ h2) (Nat.mod_lt _ h2) (by omega)).go rfl ?_
    rintro v rfl
    simp +contextual (maxSteps := 2000000) (disch := omega) only [h0, h1, h8, h9, R0, R1, R2, R3, R4, R5, R6, R7, R8, R9, VOp.fresh, bxC, bsC, AV.cells, un, most, callsOf, List.contains_nil, List.contains_cons, beq_iff_eq, List.getElem?_cons_zero, List.getElem?_cons_succ, seval, Int.reducePow, ↓reduceIte, Nat.reduceEqDiff, reduceCtorEq, and_self]
    generalize hu : turnedOf (X % 2 ^ n) (Y % 2 ^ n) (2 ^ n) (X / 2 ^ n % 2) (Y / 2 ^ n % 2) = u
    have hu1 : u.1 < 2 ^ n ∧ u.2 < 2 ^ n ∧ hcell (n + 1) X Y = 4 ^ n * dig (X / 2 ^ n % 2) (Y / 2 ^ n % 2) + hcell n u.1 u.2 := by
      have l1 := Nat.mod_lt X h2
      have l2 := Nat.mod_lt Y h2
      rw [← hu, hcell_succ]
      unfold turnedOf
      have k1 : Y / 2 ^ n % 2 < 2 := Nat.mod_lt _ (by decide)
      have k2 : X / 2 ^ n % 2 < 2 := Nat.mod_lt _ (by decide)
      by_cases e1 : Y / 2 ^ n % 2 = 1
      · rw [if_pos e1, if_pos e1]; exact ⟨l1, l2, rfl⟩
      · rw [if_neg e1, if_neg e1]
        by_cases e2 : X / 2 ^ n % 2 = 1
        · rw [if_pos e2, if_pos e2]; exact ⟨by simp only; omega, by simp only; omega, rfl⟩
        · rw [if_neg e2, if_neg e2]; exact ⟨l2, l1, rfl⟩
    obtain ⟨u1, u2, u3⟩ := hu1
    refine ih u.1 u.2 (D + ((4 ^ n * dig (X / 2 ^ n % 2) (Y / 2 ^ n % 2) : Nat) : Int)) _ h k Q (by omega) u1 u2 (by omega) (by omega) ?_ ?_ ?_ ?_ ?_
    · simp only [sg_set, Nat.reduceEqDiff, ↓reduceIte]
    · simp only [sg_set, Nat.reduceEqDiff, ↓reduceIte]
    · simp only [sg_set, Nat.reduceEqDiff, ↓reduceIte]
    · simp only [sg_set, Nat.reduceEqDiff, ↓reduceIte]
    · intro s' hs'
      refine hK s' ?_
      rw [hs', u3]
      push_cast
      rw [Int.add_assoc]

theorem cell_pu (g : Pg P tab) {n X Y : Nat} (h1 : 1 ≤ n) (hn : n ≤ 16) (hX : X < 2 ^ n) (hY : Y < 2 ^ n) : Pu P 12 [.int .i64 X, .int .i64 Y, .int .i64 n] (fun v => v = .tup [.int .i64 (hcell n X Y : Int), .int .i64 0]) := by
  refine g.pu (vf := v12) rfl rfl ?_
  have hp : 2 ^ n ≤ 2 ^ 16 := Nat.pow_le_pow_right (by decide) (by omega)
  have hp4 : 4 ^ n ≤ 4 ^ 16 := Nat.pow_le_pow_right (by decide) (by omega)
  have s3 : IntKind.i64.wrap (1 * 2 ^ min n 64) = ((2 ^ n : Nat) : Int) := shl_nat (by omega)
  have c1 : ¬ ((n : Int) < 1) := by omega
  have c2 : ¬ (16 < (n : Int)) := by omega
  have c3 : ¬ ((X : Int) < 0) := by omega
  have c4 : ¬ ((Y : Int) < 0) := by omega
  have c5 : ¬ (((2 ^ n : Nat) : Int) ≤ (X : Int)) := by omega
  have c6 : ¬ (((2 ^ n : Nat) : Int) ≤ (Y : Int)) := by omega
  have c0 : (0 : Int) ≤ (n : Int) := by omega
  have w1 : IntKind.i64.wrap ((n : Int) - 1) = (n : Int) - 1 := w64 (by omega) (by omega)
  simp only [v12, c0, w1, s3, c1, c2, c3, c4, c5, c6, R0, R1, R2, R3, R4, R5, R6, R7, R8, R9, VOp.fresh, bxC, bsC, AV.cells, un, most, callsOf, List.contains_nil, List.contains_cons, beq_iff_eq, List.getElem?_cons_zero, List.getElem?_cons_succ, seval, Int.reducePow, ↓reduceIte, Nat.reduceEqDiff, reduceCtorEq, and_self]
  refine cell_loop g n X Y 0 _ _ _ _ hn hX hY (by omega) (by omega) ?_ ?_ ?_ ?_ ?_
  · simp only [sg_set, Nat.reduceEqDiff, ↓reduceIte]
  · simp only [sg_set, Nat.reduceEqDiff, ↓reduceIte]
  · simp only [sg_set, Nat.reduceEqDiff, ↓reduceIte]
  · simp only [sg_set, Nat.reduceEqDiff, ↓reduceIte]
  · intro s' hs'
    simp +contextual (maxSteps := 2000000) (disch := omega) only [hs', R0, R1, R2, R3, R4, R5, R6, R7, R8, R9, VOp.fresh, bxC, bsC, AV.cells, un, most, callsOf, List.contains_nil, List.contains_cons, beq_iff_eq, List.getElem?_cons_zero, List.getElem?_cons_succ, seval, Int.reducePow, ↓reduceIte, Nat.reduceEqDiff, reduceCtorEq, and_self]
    simp

end
end Go.Proofs.Ytakibdcemgahaaa.VM
