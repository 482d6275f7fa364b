/- Part of a proof: what stands for the program, and its walk. No condition. -/
import Derived.Below
import Derived.ChangeArms
import Derived.ChangeMaps5
import Derived.Laws.Cells
import Derived.Laws.IdiomCopy
import Derived.MapKept
import Derived.OrdersIn
import Derived.RangeFuncLeaves
import Derived.RangeFuncRecord
import Derived.Shelf.GgSortFunc.RowK
import Derived.Shelf.SortM.Plain
import Derived.Shelf.SortM.SortNone
import Derived.Shelf.Spec.SlicesInsertGrow
import Derived.SizedLaws
import Derived.WalkKit
import Derived.WalkLawsBesides
import GoSem.Claim
import Derived.Test.YthmkenkjfmbkiaaMPe
set_option linter.unusedSimpArgs false
set_option linter.unusedVariables false
set_option linter.defProp false
set_option maxHeartbeats 1000000
namespace Go.Proofs.Ythmkenkjfmbkiaa.VM
open Go.Proofs.Ythmkenkjfmbkiaa.Hil
section
variable {P : Program}
def turnedOf (a b s rx ry : Nat) : Nat × Nat := if ry = 1 then (a, b) else if rx = 1 then (s - 1 - b, s - 1 - a) else (b, a)
theorem turned_pu (g : Pg P tab) {a b s rx ry : Nat} (ha : a < s) (hb : b < s) (hs : s ≤ 65536) :
    Pu P 120 [.int .i64 a, .int .i64 b, .int .i64 s, .int .i64 rx, .int .i64 ry] (fun v => v = .tup [.int .i64 ((turnedOf a b s rx ry).1 : Nat), .int .i64 ((turnedOf a b s rx ry).2 : Nat)]) := by
  refine g.pu (vf := v120) rfl rfl ?_
  simp +contextual (maxSteps := 2000000) (disch := omega) only [v120, RX, VOp.fresh, bxC, bsC, un, most, callsOf, seval, Int.reducePow, ↓reduceIte, Nat.reduceEqDiff, reduceCtorEq]
  unfold turnedOf
  refine ⟨fun h => ?_, fun h => ⟨fun h2 => ?_, fun h2 => ?_⟩⟩
  · rw [if_pos (by omega)]
  · rw [if_neg (by omega), if_pos (by omega)]
    simp only [AV.tup.injEq, List.cons.injEq, AV.int.injEq, true_and, and_true]
    omega
  · rw [if_neg (by omega), if_neg (by omega)]
theorem xor_dig : ∀ rx ry : Nat, rx < 2 → ry < 2 → bitsOf .xor .i64 (3 * (rx : Int)) (ry : Int) = (dig rx ry : Int) := by
  intro rx ry h1 h2
  have r : ry = 0 ∨ ry = 1 := by omega
  have q : rx = 0 ∨ rx = 1 := by omega
  rcases r with rfl | rfl <;> rcases q with rfl | rfl <;> decide +kernel
theorem cell_loop (g : Pg P tab) (n : Nat) : ∀ (X Y : Nat) (D : Int) (s : T AV) (h : Heap) (k : List Fr) (Q : Ex → T AV → Heap → Prop), n ≤ 16 → X < 2 ^ n → Y < 2 ^ n → 0 ≤ D → D + (4 ^ n : Nat) ≤ 4294967296 →
    sg s 0 = .int .i64 X → sg s 1 = .int .i64 Y → sg s 8 = .int .i64 D → sg s 9 = .int .i64 ((n : Int) - 1) → (∀ s', sg s' 8 = .int .i64 (D + (hcell n X Y : Int)) → Un P k Q (.exit 0) s' h) → Lp P b93_0 s h (Un P k Q) := by
  induction n with
  | zero =>
    intro X Y D s h k Q _ _ _ _ _ h0 h1 h8 h9 hK
    refine g.lpe b93_0.eq_1 ?_
    simp +contextual (maxSteps := 2000000) (disch := omega) only [h0, h1, h8, h9, RX, VOp.fresh, bxC, bsC, un, most, callsOf, seval, Int.reducePow, ↓reduceIte, Nat.reduceEqDiff, reduceCtorEq]
    refine hK _ ?_
    simp only [sg_set, seval, h8, hcell]
    simp
  | succ n ih =>
    intro X Y D s h k Q hn hX hY hD hD1 h0 h1 h8 h9 hK
    have h2 := two_pos n
    have hp : 2 ^ n ≤ 2 ^ 15 := Nat.pow_le_pow_right (by decide) (by omega)
    have hp4 : 4 ^ n ≤ 4 ^ 15 := Nat.pow_le_pow_right (by decide) (by omega)
    rw [Nat.pow_succ] at hX hY hD1
    refine g.lpe b93_0.eq_1 ?_
    have e9 : (((n + 1 : Nat) : Int) - 1) = (n : Int) := by omega
    rw [e9] at h9
    have s1 : (X : Int).fdiv (2 ^ min n 64) = ((X / 2 ^ n : Nat) : Int) := shr_nat (by omega)
    have s2 : (Y : Int).fdiv (2 ^ min n 64) = ((Y / 2 ^ n : Nat) : Int) := shr_nat (by omega)
    have s3 : IntKind.i64.wrap (1 * 2 ^ min n 64) = ((2 ^ n : Nat) : Int) := shl_nat (by omega)
    have c0 : (0 : Int) ≤ (n : Int) := by omega
    have a1 : bitsOf .and .i64 (X : Int) (((2 ^ n : Nat) : Int) - 1) = ((X % 2 ^ n : Nat) : Int) := and_low (by omega) (by omega)
    have a2 : bitsOf .and .i64 (Y : Int) (((2 ^ n : Nat) : Int) - 1) = ((Y % 2 ^ n : Nat) : Int) := and_low (by omega) (by omega)
    have a3 : bitsOf .and .i64 ((X / 2 ^ n : Nat) : Int) 1 = ((X / 2 ^ n % 2 : Nat) : Int) := and_one (Nat.lt_of_le_of_lt (Nat.div_le_self _ _) (by omega))
    have a4 : bitsOf .and .i64 ((Y / 2 ^ n : Nat) : Int) 1 = ((Y / 2 ^ n % 2 : Nat) : Int) := and_one (Nat.lt_of_le_of_lt (Nat.div_le_self _ _) (by omega))
    have x1 := xor_dig (X / 2 ^ n % 2) (Y / 2 ^ n % 2) (Nat.mod_lt _ (by decide)) (Nat.mod_lt _ (by decide))
    have hd := dig_lt (X / 2 ^ n % 2) (Y / 2 ^ n % 2)
    have q1 : (((2 ^ n : Nat) : Int) * ((2 ^ n : Nat) : Int)) = ((4 ^ n : Nat) : Int) := by
      rw [← Int.natCast_mul, ← Nat.mul_pow]
    have q2 : ((4 ^ n : Nat) : Int) * (dig (X / 2 ^ n % 2) (Y / 2 ^ n % 2) : Int) = ((4 ^ n * dig (X / 2 ^ n % 2) (Y / 2 ^ n % 2) : Nat) : Int) := by push_cast; rfl
    have q3 : 4 ^ n * dig (X / 2 ^ n % 2) (Y / 2 ^ n % 2) ≤ 4 ^ n * 3 := Nat.mul_le_mul_left _ (by omega)
    have w1 : IntKind.i64.wrap (3 * ((X / 2 ^ n % 2 : Nat) : Int)) = 3 * ((X / 2 ^ n % 2 : Nat) : Int) := w64 (by omega) (by omega)
    have w2 : IntKind.i64.wrap (((2 ^ n : Nat) : Int) - 1) = ((2 ^ n : Nat) : Int) - 1 := by
      generalize 2 ^ n = m at *
      exact w64 (by omega) (by omega)
    have w3 : IntKind.i64.wrap ((4 ^ n : Nat) : Int) = ((4 ^ n : Nat) : Int) := by
      generalize 4 ^ n = m at *
      exact w64 (by omega) (by omega)
    have w4 : IntKind.i64.wrap ((4 ^ n * dig (X / 2 ^ n % 2) (Y / 2 ^ n % 2) : Nat) : Int) = ((4 ^ n * dig (X / 2 ^ n % 2) (Y / 2 ^ n % 2) : Nat) : Int) := by
      generalize 4 ^ n * dig (X / 2 ^ n % 2) (Y / 2 ^ n % 2) = m at *
      exact w64 (by omega) (by omega)
    have w5 : IntKind.i64.wrap (D + ((4 ^ n * dig (X / 2 ^ n % 2) (Y / 2 ^ n % 2) : Nat) : Int)) = D + ((4 ^ n * dig (X / 2 ^ n % 2) (Y / 2 ^ n % 2) : Nat) : Int) := by
      generalize 4 ^ n * dig (X / 2 ^ n % 2) (Y / 2 ^ n % 2) = m at *
      exact w64 (by omega) (by omega)
    simp only [c0, h0, h1, h8, h9, s1, s2, s3, a3, a4, x1, q1, q2, w1, w2, w3, w4, w5, a1, a2, RX, VOp.fresh, bxC, bsC, un, most, callsOf, seval, Int.reducePow, ↓reduceIte, Nat.reduceEqDiff, reduceCtorEq]
    refine (turned_pu g (Nat.mod_lt _ h2) (Nat.mod_lt _ h2) (by omega)).go rfl ?_
    rintro v rfl
    simp +contextual (maxSteps := 2000000) (disch := omega) only [h0, h1, h8, h9, RX, VOp.fresh, bxC, bsC, un, most, callsOf, seval, Int.reducePow, ↓reduceIte, Nat.reduceEqDiff, reduceCtorEq]
    generalize hu : turnedOf (X % 2 ^ n) (Y % 2 ^ n) (2 ^ n) (X / 2 ^ n % 2) (Y / 2 ^ n % 2) = u
    have hu1 : u.1 < 2 ^ n ∧ u.2 < 2 ^ n ∧ hcell (n + 1) X Y = 4 ^ n * dig (X / 2 ^ n % 2) (Y / 2 ^ n % 2) + hcell n u.1 u.2 := by
      have l1 := Nat.mod_lt X h2
      have l2 := Nat.mod_lt Y h2
      rw [← hu, hcell_succ]
      unfold turnedOf
      have k1 : Y / 2 ^ n % 2 < 2 := Nat.mod_lt _ (by decide)
      have k2 : X / 2 ^ n % 2 < 2 := Nat.mod_lt _ (by decide)
      by_cases e1 : Y / 2 ^ n % 2 = 1
      · rw [if_pos e1, if_pos e1]; exact ⟨l1, l2, rfl⟩
      · rw [if_neg e1, if_neg e1]
        by_cases e2 : X / 2 ^ n % 2 = 1
        · rw [if_pos e2, if_pos e2]; exact ⟨by simp only; omega, by simp only; omega, rfl⟩
        · rw [if_neg e2, if_neg e2]; exact ⟨l2, l1, rfl⟩
    obtain ⟨u1, u2, u3⟩ := hu1
    refine ih u.1 u.2 (D + ((4 ^ n * dig (X / 2 ^ n % 2) (Y / 2 ^ n % 2) : Nat) : Int)) _ h k Q (by omega) u1 u2 (by omega) (by omega) ?_ ?_ ?_ ?_ ?_
    · simp only [sg_set, Nat.reduceEqDiff, ↓reduceIte]
    · simp only [sg_set, Nat.reduceEqDiff, ↓reduceIte]
    · simp only [sg_set, Nat.reduceEqDiff, ↓reduceIte]
    · simp only [sg_set, Nat.reduceEqDiff, ↓reduceIte]
    · intro s' hs'
      refine hK s' ?_
      rw [hs', u3]
      push_cast
      rw [Int.add_assoc]
theorem cell_pu (g : Pg P tab) {n X Y : Nat} (h1 : 1 ≤ n) (hn : n ≤ 16) (hX : X < 2 ^ n) (hY : Y < 2 ^ n) : Pu P 93 [.int .i64 X, .int .i64 Y, .int .i64 n] (fun v => v = .tup [.int .i64 (hcell n X Y : Int), .int .i64 0]) := by
  refine g.pu (vf := v93) rfl rfl ?_
  have hp : 2 ^ n ≤ 2 ^ 16 := Nat.pow_le_pow_right (by decide) (by omega)
  have hp4 : 4 ^ n ≤ 4 ^ 16 := Nat.pow_le_pow_right (by decide) (by omega)
  have s3 : IntKind.i64.wrap (1 * 2 ^ min n 64) = ((2 ^ n : Nat) : Int) := shl_nat (by omega)
  have c1 : ¬ ((n : Int) < 1) := by omega
  have c2 : ¬ (16 < (n : Int)) := by omega
  have c3 : ¬ ((X : Int) < 0) := by omega
  have c4 : ¬ ((Y : Int) < 0) := by omega
  have c5 : ¬ (((2 ^ n : Nat) : Int) ≤ (X : Int)) := by omega
  have c6 : ¬ (((2 ^ n : Nat) : Int) ≤ (Y : Int)) := by omega
  have c0 : (0 : Int) ≤ (n : Int) := by omega
  have w1 : IntKind.i64.wrap ((n : Int) - 1) = (n : Int) - 1 := w64 (by omega) (by omega)
  simp only [v93, c0, w1, s3, c1, c2, c3, c4, c5, c6, RX, VOp.fresh, bxC, bsC, un, most, callsOf, seval, Int.reducePow, ↓reduceIte, Nat.reduceEqDiff, reduceCtorEq]
  refine cell_loop g n X Y 0 _ _ _ _ hn hX hY (by omega) (by omega) ?_ ?_ ?_ ?_ ?_
  · simp only [sg_set, Nat.reduceEqDiff, ↓reduceIte]
  · simp only [sg_set, Nat.reduceEqDiff, ↓reduceIte]
  · simp only [sg_set, Nat.reduceEqDiff, ↓reduceIte]
  · simp only [sg_set, Nat.reduceEqDiff, ↓reduceIte]
  · intro s' hs'
    simp +contextual (maxSteps := 2000000) (disch := omega) only [hs', RX, VOp.fresh, bxC, bsC, un, most, callsOf, seval, Int.reducePow, ↓reduceIte, Nat.reduceEqDiff, reduceCtorEq]
    simp
theorem dcell_loop (g : Pg P tab) (n : Nat) : ∀ (X Y : Nat) (D : Int) (s : T AV) (h : Heap) (k : List Fr) (Q : Ex → T AV → Heap → Prop), n ≤ 16 → X < 2 ^ n → Y < 2 ^ n → 0 ≤ D → D + (4 ^ n : Nat) ≤ 4294967296 →
    sg s 0 = .int .i64 X → sg s 1 = .int .i64 Y → sg s 8 = .int .i64 D → sg s 9 = .int .i64 ((2 ^ n / 2 : Nat) : Int) → (∀ s', sg s' 8 = .int .i64 (D + (hcell n X Y : Int)) → Un P k Q (.exit 0) s' h) → Lp P b81_0 s h (Un P k Q) := by
  induction n with
  | zero =>
    intro X Y D s h k Q _ _ _ _ _ h0 h1 h8 h9 hK
    refine g.lpe b81_0.eq_1 ?_
    have c : ¬ (0 : Int) < ((2 ^ 0 / 2 : Nat) : Int) := by decide
    simp only [h0, h1, h8, h9, c, RX, VOp.fresh, bxC, bsC, un, most, callsOf, seval, Int.reducePow, ↓reduceIte, Nat.reduceEqDiff, reduceCtorEq]
    refine hK _ ?_
    simp only [sg_set, seval, h8, hcell]
    simp
  | succ n ih =>
    intro X Y D s h k Q hn hX hY hD hD1 h0 h1 h8 h9 hK
    have h2 := two_pos n
    have hp : 2 ^ n ≤ 2 ^ 15 := Nat.pow_le_pow_right (by decide) (by omega)
    have hp4 : 4 ^ n ≤ 4 ^ 15 := Nat.pow_le_pow_right (by decide) (by omega)
    rw [Nat.pow_succ] at hX hY hD1
    refine g.lpe b81_0.eq_1 ?_
    have e9 : (2 ^ (n + 1) / 2 : Nat) = 2 ^ n := by rw [Nat.pow_succ]; omega
    rw [e9] at h9
    have c0 : (0 : Int) < ((2 ^ n : Nat) : Int) := by omega
    have c00 := fun a : Int => bin_quo (k := .i64) (a := a) (b := ((2 ^ n : Nat) : Int)) (by omega)
    have c02 := fun a : Int => bin_quo (k := .i64) (a := a) (b := 2) (by decide)
    have d1 : (X : Int).tdiv ((2 ^ n : Nat) : Int) = ((X / 2 ^ n : Nat) : Int) := by rw [Int.tdiv_eq_ediv_of_nonneg (by omega)]; push_cast; rfl
    have d2 : (Y : Int).tdiv ((2 ^ n : Nat) : Int) = ((Y / 2 ^ n : Nat) : Int) := by rw [Int.tdiv_eq_ediv_of_nonneg (by omega)]; push_cast; rfl
    have wd1 : IntKind.i64.wrap ((X / 2 ^ n : Nat) : Int) = ((X / 2 ^ n : Nat) : Int) := by have := Nat.div_le_self X (2 ^ n); generalize X / 2 ^ n = z at *; exact w64 (by omega) (by omega)
    have wd2 : IntKind.i64.wrap ((Y / 2 ^ n : Nat) : Int) = ((Y / 2 ^ n : Nat) : Int) := by have := Nat.div_le_self Y (2 ^ n); generalize Y / 2 ^ n = z at *; exact w64 (by omega) (by omega)
    have d3 : IntKind.i64.wrap (((2 ^ n : Nat) : Int).tdiv 2) = ((2 ^ n / 2 : Nat) : Int) := by
      rw [Int.tdiv_eq_ediv_of_nonneg (by omega)]
      generalize 2 ^ n = m at *
      rw [w64 (by omega) (by omega)]; omega
    have a1 : bitsOf .and .i64 (X : Int) (((2 ^ n : Nat) : Int) - 1) = ((X % 2 ^ n : Nat) : Int) := and_low (by omega) (by omega)
    have a2 : bitsOf .and .i64 (Y : Int) (((2 ^ n : Nat) : Int) - 1) = ((Y % 2 ^ n : Nat) : Int) := and_low (by omega) (by omega)
    have a3 : bitsOf .and .i64 ((X / 2 ^ n : Nat) : Int) 1 = ((X / 2 ^ n % 2 : Nat) : Int) := and_one (Nat.lt_of_le_of_lt (Nat.div_le_self _ _) (by omega))
    have a4 : bitsOf .and .i64 ((Y / 2 ^ n : Nat) : Int) 1 = ((Y / 2 ^ n % 2 : Nat) : Int) := and_one (Nat.lt_of_le_of_lt (Nat.div_le_self _ _) (by omega))
    have x1 := xor_dig (X / 2 ^ n % 2) (Y / 2 ^ n % 2) (Nat.mod_lt _ (by decide)) (Nat.mod_lt _ (by decide))
    have hd := dig_lt (X / 2 ^ n % 2) (Y / 2 ^ n % 2)
    have q1 : (((2 ^ n : Nat) : Int) * ((2 ^ n : Nat) : Int)) = ((4 ^ n : Nat) : Int) := by
      rw [← Int.natCast_mul, ← Nat.mul_pow]
    have q2 : ((4 ^ n : Nat) : Int) * (dig (X / 2 ^ n % 2) (Y / 2 ^ n % 2) : Int) = ((4 ^ n * dig (X / 2 ^ n % 2) (Y / 2 ^ n % 2) : Nat) : Int) := by push_cast; rfl
    have q3 : 4 ^ n * dig (X / 2 ^ n % 2) (Y / 2 ^ n % 2) ≤ 4 ^ n * 3 := Nat.mul_le_mul_left _ (by omega)
    have w1 : IntKind.i64.wrap (3 * ((X / 2 ^ n % 2 : Nat) : Int)) = 3 * ((X / 2 ^ n % 2 : Nat) : Int) := w64 (by omega) (by omega)
    have w2 : IntKind.i64.wrap (((2 ^ n : Nat) : Int) - 1) = ((2 ^ n : Nat) : Int) - 1 := by
      generalize 2 ^ n = m at *
      exact w64 (by omega) (by omega)
    have w3 : IntKind.i64.wrap ((4 ^ n : Nat) : Int) = ((4 ^ n : Nat) : Int) := by
      generalize 4 ^ n = m at *
      exact w64 (by omega) (by omega)
    have w4 : IntKind.i64.wrap ((4 ^ n * dig (X / 2 ^ n % 2) (Y / 2 ^ n % 2) : Nat) : Int) = ((4 ^ n * dig (X / 2 ^ n % 2) (Y / 2 ^ n % 2) : Nat) : Int) := by
      generalize 4 ^ n * dig (X / 2 ^ n % 2) (Y / 2 ^ n % 2) = m at *
      exact w64 (by omega) (by omega)
    have w5 : IntKind.i64.wrap (D + ((4 ^ n * dig (X / 2 ^ n % 2) (Y / 2 ^ n % 2) : Nat) : Int)) = D + ((4 ^ n * dig (X / 2 ^ n % 2) (Y / 2 ^ n % 2) : Nat) : Int) := by
      generalize 4 ^ n * dig (X / 2 ^ n % 2) (Y / 2 ^ n % 2) = m at *
      exact w64 (by omega) (by omega)
    have l1 := Nat.mod_lt X h2
    have l2 := Nat.mod_lt Y h2
    have w6 : IntKind.i64.wrap (((2 ^ n : Nat) : Int) - 1 - ((X % 2 ^ n : Nat) : Int)) = ((2 ^ n - 1 - X % 2 ^ n : Nat) : Int) := by
      generalize X % 2 ^ n = z at *
      generalize 2 ^ n = m at *
      rw [w64 (by omega) (by omega)]; omega
    have w7 : IntKind.i64.wrap (((2 ^ n : Nat) : Int) - 1 - ((Y % 2 ^ n : Nat) : Int)) = ((2 ^ n - 1 - Y % 2 ^ n : Nat) : Int) := by
      generalize Y % 2 ^ n = z at *
      generalize 2 ^ n = m at *
      rw [w64 (by omega) (by omega)]; omega
    have k1 : Y / 2 ^ n % 2 < 2 := Nat.mod_lt _ (by decide)
    have k2 : X / 2 ^ n % 2 < 2 := Nat.mod_lt _ (by decide)
    have hs := hcell_succ n X Y
    have next : ∀ (u1 u2 : Nat) (s' : T AV), u1 < 2 ^ n → u2 < 2 ^ n → hcell (n + 1) X Y = 4 ^ n * dig (X / 2 ^ n % 2) (Y / 2 ^ n % 2) + hcell n u1 u2 → sg s' 0 = .int .i64 u1 → sg s' 1 = .int .i64 u2 → sg s' 8 = .int .i64 (D + ((4 ^ n * dig (X / 2 ^ n % 2) (Y / 2 ^ n % 2) : Nat) : Int)) → sg s' 9 = .int .i64 ((2 ^ n / 2 : Nat) : Int) → Lp P b81_0 s' h (Un P k Q) := fun u1 u2 s' b1 b2 e t0 t1 t8 t9 =>
      ih u1 u2 _ s' h k Q (by omega) b1 b2 (by omega) (by omega) t0 t1 t8 t9 fun s'' hs'' => hK s'' (by rw [hs'', e]; push_cast; rw [Int.add_assoc])
    by_cases e1 : Y / 2 ^ n % 2 = 0
    · have e1' : ((Y / 2 ^ n % 2 : Nat) : Int) = 0 := by omega
      by_cases e2 : X / 2 ^ n % 2 = 1
      · have e2' : ((X / 2 ^ n % 2 : Nat) : Int) = 1 := by omega
        rw [if_neg (by omega), if_pos e2] at hs
        simp only [h0, h1, h8, h9, c0, c00, c02, d1, d2, wd1, wd2, d3, a1, a2, a3, a4, x1, q1, q2, w1, w2, w3, w4, w5, w6, w7, eq_true e1', eq_true e2', RX, VOp.fresh, bxC, bsC, un, most, callsOf, seval, Int.reducePow, ↓reduceIte, Nat.reduceEqDiff, reduceCtorEq]
        refine next _ _ _ ?_ ?_ hs ?_ ?_ ?_ ?_
        · omega
        · omega
        · simp only [sg_set, Nat.reduceEqDiff, ↓reduceIte]
        · simp only [sg_set, Nat.reduceEqDiff, ↓reduceIte]
        · simp only [sg_set, Nat.reduceEqDiff, ↓reduceIte]
        · simp only [sg_set, Nat.reduceEqDiff, ↓reduceIte]
      · have e2' : ¬ ((X / 2 ^ n % 2 : Nat) : Int) = 1 := by omega
        rw [if_neg (by omega), if_neg e2] at hs
        simp only [h0, h1, h8, h9, c0, c00, c02, d1, d2, wd1, wd2, d3, a1, a2, a3, a4, x1, q1, q2, w1, w2, w3, w4, w5, w6, w7, eq_true e1', e2', RX, VOp.fresh, bxC, bsC, un, most, callsOf, seval, Int.reducePow, ↓reduceIte, Nat.reduceEqDiff, reduceCtorEq]
        refine next _ _ _ ?_ ?_ hs ?_ ?_ ?_ ?_
        · exact l2
        · exact l1
        · simp only [sg_set, Nat.reduceEqDiff, ↓reduceIte]
        · simp only [sg_set, Nat.reduceEqDiff, ↓reduceIte]
        · simp only [sg_set, Nat.reduceEqDiff, ↓reduceIte]
        · simp only [sg_set, Nat.reduceEqDiff, ↓reduceIte]
    · have e1' : ¬ ((Y / 2 ^ n % 2 : Nat) : Int) = 0 := by omega
      rw [if_pos (by omega)] at hs
      simp only [h0, h1, h8, h9, c0, c00, c02, d1, d2, wd1, wd2, d3, a1, a2, a3, a4, x1, q1, q2, w1, w2, w3, w4, w5, w6, w7, e1', RX, VOp.fresh, bxC, bsC, un, most, callsOf, seval, Int.reducePow, ↓reduceIte, Nat.reduceEqDiff, reduceCtorEq]
      refine next _ _ _ ?_ ?_ hs ?_ ?_ ?_ ?_
      · exact l1
      · exact l2
      · simp only [sg_set, Nat.reduceEqDiff, ↓reduceIte]
      · simp only [sg_set, Nat.reduceEqDiff, ↓reduceIte]
      · simp only [sg_set, Nat.reduceEqDiff, ↓reduceIte]
      · simp only [sg_set, Nat.reduceEqDiff, ↓reduceIte]
theorem dcell_pu (g : Pg P tab) {n X Y : Nat} (h1 : 1 ≤ n) (hn : n ≤ 16) (hX : X < 2 ^ n) (hY : Y < 2 ^ n) : Pu P 81 [.int .i64 X, .int .i64 Y, .int .i64 n] (fun v => v = .tup [.int .i64 (hcell n X Y : Int), .int .i64 0]) := by
  refine g.pu (vf := v81) rfl rfl ?_
  have hp : 2 ^ n ≤ 2 ^ 16 := Nat.pow_le_pow_right (by decide) (by omega)
  have hp4 : 4 ^ n ≤ 4 ^ 16 := Nat.pow_le_pow_right (by decide) (by omega)
  have s3 : IntKind.i64.wrap (1 * 2 ^ min n 64) = ((2 ^ n : Nat) : Int) := shl_nat (by omega)
  have s4 : IntKind.i64.wrap (1 * 2 ^ min (n - 1) 64) = ((2 ^ n / 2 : Nat) : Int) := by
    rw [shl_nat (by omega)]
    obtain ⟨m, rfl⟩ : ∃ m, n = m + 1 := ⟨n - 1, by omega⟩
    rw [Nat.pow_succ, Nat.add_sub_cancel, Nat.mul_div_cancel _ (by decide)]
  have c1 : ¬ ((n : Int) < 1) := by omega
  have c2 : ¬ (16 < (n : Int)) := by omega
  have c3 : ¬ ((X : Int) < 0) := by omega
  have c4 : ¬ ((Y : Int) < 0) := by omega
  have c5 : ¬ (((2 ^ n : Nat) : Int) ≤ (X : Int)) := by omega
  have c6 : ¬ (((2 ^ n : Nat) : Int) ≤ (Y : Int)) := by omega
  have c0 : (0 : Int) ≤ ((n - 1 : Nat) : Int) := by omega
  have c01 : (0 : Int) ≤ (n : Int) := by omega
  have w1 : IntKind.i64.wrap ((n : Int) - 1) = ((n - 1 : Nat) : Int) := by rw [w64 (by omega) (by omega)]; omega
  simp only [v81, c0, c01, w1, s3, s4, c1, c2, c3, c4, c5, c6, RX, VOp.fresh, bxC, bsC, un, most, callsOf, seval, Int.reducePow, ↓reduceIte, Nat.reduceEqDiff, reduceCtorEq]
  refine dcell_loop g n X Y 0 _ _ _ _ hn hX hY (by omega) (by omega) ?_ ?_ ?_ ?_ ?_
  · simp only [sg_set, Nat.reduceEqDiff, ↓reduceIte]
  · simp only [sg_set, Nat.reduceEqDiff, ↓reduceIte]
  · simp only [sg_set, Nat.reduceEqDiff, ↓reduceIte]
  · simp only [sg_set, Nat.reduceEqDiff, ↓reduceIte]
  · intro s' hs'
    simp only [hs', RX, VOp.fresh, bxC, bsC, un, most, callsOf, seval, Int.reducePow, ↓reduceIte, Nat.reduceEqDiff, reduceCtorEq]
    simp
end
end Go.Proofs.Ythmkenkjfmbkiaa.VM
namespace Go.Proofs.Ythmkenkjfmbkiaa.VM
open Go.Proofs.Ythmkenkjfmbkiaa.Hil
/-- m cells of a column, n columns -/
def colC (b x m : Nat) : List Int := (List.range m).map fun j => ((hcell 6 x (b + j) : Nat) : Int)
def gridC (a b m n : Nat) : List Int := ((List.range n).map fun i => colC b (a + i) m).flatten
theorem colC_succ (b x m : Nat) : colC b x (m + 1) = colC b x m ++ [((hcell 6 x (b + m) : Nat) : Int)] := by simp [colC, List.range_succ]
theorem gridC_succ (a b m n : Nat) : gridC a b m (n + 1) = gridC a b m n ++ colC b (a + n) m := by simp [gridC, List.range_succ]
theorem colC_len (b x m : Nat) : (colC b x m).length = m := by simp [colC]
theorem gridC_len (a b m n : Nat) : (gridC a b m n).length = n * m := by
  induction n with
  | zero => simp [gridC]
  | succ n ih => rw [gridC_succ, List.length_append, ih, colC_len, Nat.add_mul, Nat.one_mul]
theorem mem_grid {a b m n : Nat} {c : Int} : c ∈ gridC a b m n ↔ ∃ i j, i < n ∧ j < m ∧ c = ((hcell 6 (a + i) (b + j) : Nat) : Int) := by
  simp only [gridC, colC, List.mem_flatten, List.mem_map, List.mem_range]
  constructor
  · rintro ⟨_, ⟨i, hi, rfl⟩, hc⟩
    obtain ⟨j, hj, rfl⟩ := List.mem_map.1 hc
    exact ⟨i, j, hi, List.mem_range.1 hj, rfl⟩
  · rintro ⟨i, j, hi, hj, rfl⟩
    exact ⟨_, ⟨i, hi, rfl⟩, List.mem_map.2 ⟨j, List.mem_range.2 hj, rfl⟩⟩
theorem grid_nodup {a b m n : Nat} (ha : a + n ≤ 64) (hb : b + m ≤ 64) : (gridC a b m n).Nodup := by
  induction n with
  | zero => simp [gridC]
  | succ n ih =>
    rw [gridC_succ, List.nodup_append]
    refine ⟨ih (by omega), ?_, fun x hx y hy e => ?_⟩
    · unfold colC
      rw [List.nodup_iff_pairwise_ne, List.pairwise_map]
      refine List.Pairwise.imp_of_mem ?_ (List.nodup_iff_pairwise_ne.1 List.nodup_range)
      intro j k hj hk hne e
      have hj := List.mem_range.1 hj
      have hk := List.mem_range.1 hk
      have := (cell_inj (n := 6) (x := a + n) (y := b + j) (u := a + n) (v := b + k) (by omega) (by omega) (by omega) (by omega) (by omega)).2
      omega
    · subst e
      obtain ⟨i, j, hi, hj, e1⟩ := mem_grid.1 hx
      unfold colC at hy
      obtain ⟨k, hk, e2⟩ := List.mem_map.1 hy
      have hk := List.mem_range.1 hk
      have := (cell_inj (n := 6) (x := a + i) (y := b + j) (u := a + n) (v := b + k) (by omega) (by omega) (by omega) (by omega) (by omega)).1
      omega
theorem grid_lt {a b m n : Nat} {c : Int} (h : c ∈ gridC a b m n) : 0 ≤ c ∧ c < 4096 := by
  obtain ⟨i, j, _, _, rfl⟩ := mem_grid.1 h
  have := hcell_lt 6 (a + i) (b + j)
  omega
/-- stretches of cells, one behind the other -/
def covM (l : List Int) : Rgs := l.foldl (fun out c => addR out (c * 1048576, (c + 1) * 1048576)) []
theorem covM_snoc (l : List Int) (c : Int) : covM (l ++ [c]) = addR (covM l) (c * 1048576, (c + 1) * 1048576) := by simp [covM]
theorem addR_len : ∀ (l : Rgs) (r : Int × Int), (addR l r).length ≤ l.length + 1
  | [], _ => Nat.le_refl _
  | [q], r => by unfold addR; split <;> simp
  | q :: q' :: t, r => by rw [addR, List.length_cons, List.length_cons]; have := addR_len (q' :: t) r; omega
theorem covM_len (l : List Int) : (covM l).length ≤ l.length := by
  have : ∀ (l : List Int) (o : Rgs), (l.foldl (fun out c => addR out (c * 1048576, (c + 1) * 1048576)) o).length ≤ o.length + l.length := by
    intro l
    induction l with
    | nil => intro o; exact Nat.le_refl _
    | cons c l ih => intro o; rw [List.foldl_cons, List.length_cons]; have := ih (addR o (c * 1048576, (c + 1) * 1048576)); have := addR_len o (c * 1048576, (c + 1) * 1048576); omega
  simpa [covM] using this l []
def inCells (l : List Int) (d : Int) : Prop := d / 1048576 ∈ l
theorem cov_fold : ∀ (q : List Int) {out : Rgs} {a : Int} {L : List Int}, Upto out (a * 1048576) (inCells L) → 0 ≤ a → (∀ c ∈ q, a ≤ c ∧ c < 4096) → (∀ c, a ≤ c → (c ∈ L ↔ c ∈ q)) → q.Pairwise (· < ·) →
    ∃ e, Upto (q.foldl (fun out c => addR out (c * 1048576, (c + 1) * 1048576)) out) e (inCells L) ∧ ∀ d, e ≤ d → ¬ inCells L d
  | [], out, a, L, u, h0, _, h2, _ => ⟨a * 1048576, u, fun d hd h => by
      have := (h2 (d / 1048576) (by omega)).1 h
      simp at this⟩
  | c :: q, out, a, L, u, h0, h1, h2, hp => by
    rw [List.foldl_cons]
    have hc := h1 c (.head _)
    rw [List.pairwise_cons] at hp
    have u1 : Upto out (c * 1048576) (inCells L) := u.skip (by omega) fun d hd1 hd2 h => by
      have h3 := (h2 (d / 1048576) (by omega)).1 h
      rcases List.mem_cons.1 h3 with e | h3
      · omega
      · have := hp.1 _ h3; omega
    have u2 : Upto (addR out (c * 1048576, (c + 1) * 1048576)) ((c + 1) * 1048576) (inCells L) := u1.add (by omega) (by omega) (by omega) fun d hd1 hd2 => by
      have : d / 1048576 = c := by omega
      unfold inCells
      rw [this]
      exact (h2 c hc.1).2 (.head _)
    refine cov_fold q u2 (by omega) (fun x hx => ⟨by have := hp.1 x hx; omega, (h1 x (.tail _ hx)).2⟩) (fun x hx => ?_) hp.2
    rw [h2 x (by omega), List.mem_cons]
    constructor
    · rintro (e | h)
      · omega
      · exact h
    · exact .inr
theorem isort_perm (l : List Int) : (isort l).Perm l := List.mergeSort_perm _ _
theorem isort_le (l : List Int) : (isort l).Pairwise (· ≤ ·) := by
  have h := List.pairwise_mergeSort (le := fun (x y : Int) => decide (x ≤ y)) (fun a b c h1 h2 => by simp at *; omega) (fun a b => by simp; omega) l
  exact h.imp fun h => by simpa using h
theorem isort_lt {l : List Int} (h : l.Nodup) : (isort l).Pairwise (· < ·) := by
  have h1 := (isort_perm l).nodup_iff.2 h
  have h2 := isort_le l
  rw [List.nodup_iff_pairwise_ne] at h1
  exact (h1.and h2).imp fun ⟨a, b⟩ => by omega
/-- the stretches of a set of cells -/
theorem cov_of {l : List Int} (h : l.Nodup) (hb : ∀ c ∈ l, 0 ≤ c ∧ c < 4096) : Sep (-1) (covM (isort l)) ∧ ∀ d, rHas (covM (isort l)) d ↔ inCells l d := by
  have hm : ∀ c, c ∈ isort l ↔ c ∈ l := fun c => (isort_perm l).mem_iff
  obtain ⟨e, u, he⟩ := cov_fold (isort l) (out := []) (a := 0) (L := l) (by simpa using Upto.nil) (by omega) (fun c hc => hb c ((hm c).1 hc)) (fun c _ => (hm c).symm) (isort_lt h)
  refine ⟨u.1, fun d => ?_⟩
  have h3 := u.2.2 d
  unfold covM
  rw [h3]
  constructor
  · exact fun ⟨_, _, h⟩ => h
  · intro hd
    have h4 := hb _ hd
    refine ⟨by omega, ?_, hd⟩
    rcases Int.lt_or_le d e with c | c
    · exact c
    · exact absurd hd (he d c)
/-- a box that may be -/
def bxOk (a b c d : Int) : Prop := 0 ≤ a ∧ a ≤ 4294967295 ∧ 0 ≤ b ∧ b ≤ 4294967295 ∧ 0 ≤ c ∧ c ≤ 4294967295 ∧ 0 ≤ d ∧ d ≤ 4294967295 ∧ a ≤ c ∧ b ≤ d
instance (a b c d : Int) : Decidable (bxOk a b c d) := by unfold bxOk; infer_instance
/-- the cells of a box -/
def bxL (a b c d : Int) : List Int := gridC (a / 67108864).toNat (b / 67108864).toNat ((d / 67108864).toNat - (b / 67108864).toNat + 1) ((c / 67108864).toNat - (a / 67108864).toNat + 1)
theorem bx_nodup {a b c d : Int} (h : bxOk a b c d) : (bxL a b c d).Nodup := by
  obtain ⟨h1, h2, h3, h4, h5, h6, h7, h8, h9, h10⟩ := h
  exact grid_nodup (by omega) (by omega)
/-- the cover of a box -/
def bxCov (a b c d : Int) : Rgs := covM (isort (bxL a b c d))
theorem bxCov_of {a b c d : Int} (h : bxOk a b c d) : Sep (-1) (bxCov a b c d) ∧ ∀ k, rHas (bxCov a b c d) k ↔ inCells (bxL a b c d) k := cov_of (bx_nodup h) fun c hc => grid_lt hc
end Go.Proofs.Ythmkenkjfmbkiaa.VM
namespace Go.Proofs.Ythmkenkjfmbkiaa.VM
open Go.Proofs.Ythmkenkjfmbkiaa.Hil
attribute [local irreducible] Af Nx EvO Ev Un Gd Cd EvR EvQ EvC Nc Gc Lp EvM NxM AfM GdM EvMR EvMQ EvMD EvMC Nm Gm
/-- the sort of numbers, as the library has it -/
def SortI (P : Program) : Prop := (∀ {H : Heap} {b n cap e ver : Nat} {zs : List Int}, H.get b = some (.cells (zs.map (.int .i64)) e ver) → zs.length = n → 0 < n → n < 4611686018427387904 → OK P 64 [.sl b 0 n cap 1] H (.tup []) (H.put b (.cells ((isort zs).map (.int .i64)) e (ver + 1)))) ∧ ∀ {H : Heap}, OK P 64 [.nils] H (.tup []) H
section
variable {P : Program}
theorem coord6_pu (g : Pg P tab) (a : Int) : Pu P 119 [.int .i64 a] (fun v => v = .bool (decide (0 ≤ a ∧ a ≤ 4294967295))) := by
  refine g.pu (vf := v119) rfl rfl ?_
  simp +contextual (maxSteps := 2000000) (disch := omega) only [v119, RX, VOp.fresh, bxC, bsC, un, most, callsOf, seval, Int.reducePow, ↓reduceIte, Nat.reduceEqDiff, reduceCtorEq]
theorem boxMay_pu (g : Pg P tab) (a b c d : Int) : Pu P 92 [.agg [.int .i64 a, .int .i64 b, .int .i64 c, .int .i64 d]] (fun v => v = .bool (decide (bxOk a b c d))) := by
  refine g.pu (vf := v92) rfl rfl ?_
  simp only [v92, RX, VOp.fresh, bxC, bsC, un, most, callsOf, seval, Int.reducePow, ↓reduceIte, Nat.reduceEqDiff, reduceCtorEq]
  refine (coord6_pu g _).go rfl ?_
  rintro v rfl
  by_cases h1 : 0 ≤ a ∧ a ≤ 4294967295
  · simp only [h1, RX, VOp.fresh, bxC, bsC, un, most, callsOf, seval, Int.reducePow, ↓reduceIte, Nat.reduceEqDiff, reduceCtorEq]
    refine (coord6_pu g _).go rfl ?_
    rintro v rfl
    by_cases h2 : 0 ≤ b ∧ b ≤ 4294967295
    · simp only [h2, RX, VOp.fresh, bxC, bsC, un, most, callsOf, seval, Int.reducePow, ↓reduceIte, Nat.reduceEqDiff, reduceCtorEq]
      refine (coord6_pu g _).go rfl ?_
      rintro v rfl
      by_cases h3 : 0 ≤ c ∧ c ≤ 4294967295
      · simp only [h3, RX, VOp.fresh, bxC, bsC, un, most, callsOf, seval, Int.reducePow, ↓reduceIte, Nat.reduceEqDiff, reduceCtorEq]
        refine (coord6_pu g _).go rfl ?_
        rintro v rfl
        by_cases h4 : 0 ≤ d ∧ d ≤ 4294967295
        · simp +contextual (maxSteps := 2000000) only [h4, bxOk, h1, h2, h3, RX, VOp.fresh, bxC, bsC, un, most, callsOf, seval, Int.reducePow, ↓reduceIte, Nat.reduceEqDiff, reduceCtorEq]
        · have f : ¬ bxOk a b c d := fun z => by unfold bxOk at z; omega
          simp only [h4, f, RX, VOp.fresh, bxC, bsC, un, most, callsOf, seval, Int.reducePow, ↓reduceIte, Nat.reduceEqDiff, reduceCtorEq]
      · have f : ¬ bxOk a b c d := fun z => by unfold bxOk at z; omega
        simp only [h3, f, RX, VOp.fresh, bxC, bsC, un, most, callsOf, seval, Int.reducePow, ↓reduceIte, Nat.reduceEqDiff, reduceCtorEq]
    · have f : ¬ bxOk a b c d := fun z => by unfold bxOk at z; omega
      simp only [h2, f, RX, VOp.fresh, bxC, bsC, un, most, callsOf, seval, Int.reducePow, ↓reduceIte, Nat.reduceEqDiff, reduceCtorEq]
  · have f : ¬ bxOk a b c d := fun z => by unfold bxOk at z; omega
    simp only [h1, f, RX, VOp.fresh, bxC, bsC, un, most, callsOf, seval, Int.reducePow, ↓reduceIte, Nat.reduceEqDiff, reduceCtorEq]
/-- the row of cells grows by a column -/
theorem of_col (g : Pg P tab) {a b c d : Int} (ok : bxOk a b c d) {bb e0 v0 x b0 m : Nat} (hb0 : b0 = (b / 67108864).toNat) (hm : b0 + m = (d / 67108864).toNat + 1) (hx : x < 64) (n : Nat) :
    ∀ (j : Nat) (s : T AV) (h : Heap) (zs : List Int) (k : List Fr) (Q : Ex → T AV → Heap → Prop), j + n = m → Row h (sg s 4) 1 ((zs ++ colC b0 x j).map (.int .i64)) (zs.length + j) → zs.length + m ≤ 4096 → (∀ q ∈ blkOf (sg s 4), bb < q) → bb < h.next → h.get bb = some (.cells [.int .i64 a, .int .i64 b, .int .i64 c, .int .i64 d] e0 v0) →
      sg s 1 = .ptr bb 0 → sg s 5 = .int .i64 x → sg s 6 = .int .i64 ((b0 + j : Nat) : Int) →
      (∀ s' h', Row h' (sg s' 4) 1 ((zs ++ colC b0 x m).map (.int .i64)) (zs.length + m) → (∀ q ∈ blkOf (sg s' 4), bb < q) → bb < h'.next → h'.get bb = some (.cells [.int .i64 a, .int .i64 b, .int .i64 c, .int .i64 d] e0 v0) → sg s' 1 = .ptr bb 0 → sg s' 5 = .int .i64 x → Un P k Q (.exit 2) s' h') → Lp P b69_0 s h (Un P k Q) := by
  obtain ⟨o1, o2, o3, o4, o5, o6, o7, o8, o9, o10⟩ := id ok
  induction n with
  | zero =>
    intro j s h zs k Q hn r hz hq hbb hg t1 t5 t6 hQ
    obtain rfl : j = m := by omega
    refine g.lpe b69_0.eq_1 ?_
    have c1 : ¬ ((b0 + j : Nat) : Int) ≤ d / 67108864 := by omega
    simp only [t1, t6, hg, c1, RX, VOp.fresh, bxC, bsC, un, most, callsOf, seval, Int.reducePow, ↓reduceIte, Nat.reduceEqDiff, reduceCtorEq]
    refine hQ _ _ ?_ ?_ hbb hg ?_ ?_
    · simp only [sg_set, Nat.reduceEqDiff, ↓reduceIte]
      exact r
    · simp only [sg_set, Nat.reduceEqDiff, ↓reduceIte]
      exact hq
    · simp only [t1, sg_set, Nat.reduceEqDiff, ↓reduceIte]
    · simp only [t5, sg_set, Nat.reduceEqDiff, ↓reduceIte]
  | succ n ih =>
    intro j s h zs k Q hn r hz hq hbb hg t1 t5 t6 hQ
    refine g.lpe b69_0.eq_1 ?_
    have c1 : ((b0 + j : Nat) : Int) ≤ d / 67108864 := by omega
    have w1 : IntKind.i64.wrap (((b0 + j : Nat) : Int) + 1) = ((b0 + (j + 1) : Nat) : Int) := by rw [w64 (by omega) (by omega)]; push_cast; omega
    simp only [t1, t5, t6, hg, c1, RX, VOp.fresh, bxC, bsC, un, most, callsOf, seval, Int.reducePow, ↓reduceIte, Nat.reduceEqDiff, reduceCtorEq]
    refine (cell_pu g (n := 6) (X := x) (Y := b0 + j) (by decide) (by decide) (by omega) (by omega)).go rfl ?_
    rintro _ rfl
    have x2 := Ext.mk (h := h) (.cells [.int .i64 ((hcell 6 x (b0 + j) : Nat) : Int)] 3 0)
    have n2 : (h.mk' h.next (.cells [.int .i64 ((hcell 6 x (b0 + j) : Nat) : Int)] 3 0)).next = h.next + 1 := by rw [mk_next]; omega
    obtain ⟨h3, e3, r3, n3, k3⟩ := (r.ext x2).push (nb := h.next) (eb := 3) (vb := 0) (c := [.int .i64 ((hcell 6 x (b0 + j) : Nat) : Int)]) (by rw [Heap.get_mk, if_pos rfl]) rfl rfl (bytes := 8) (by unfold most2; omega) 3
    rw [show (zs ++ colC b0 x j).map (AV.int .i64) ++ [.int .i64 ((hcell 6 x (b0 + j) : Nat) : Int)] = (zs ++ colC b0 x (j + 1)).map (AV.int .i64) by rw [colC_succ]; simp, Nat.add_assoc] at r3
    have g3 : h3.get bb = some (.cells [.int .i64 a, .int .i64 b, .int .i64 c, .int .i64 d] e0 v0) := by rw [k3 bb (fun hc => by have := hq bb hc; omega) (by omega), x2.2 bb hbb]; exact hg
    simp only [t6, w1, e3, n2, RX, VOp.fresh, bxC, bsC, un, most, callsOf, seval, Int.reducePow, ↓reduceIte, Nat.reduceEqDiff, reduceCtorEq]
    refine ih (j + 1) _ h3 zs k Q (by omega) ?_ hz ?_ (by omega) g3 ?_ ?_ ?_ hQ
    · simp only [sg_set, Nat.reduceEqDiff, ↓reduceIte]
      rw [n2] at r3
      exact r3
    · simp only [sg_set, Nat.reduceEqDiff, ↓reduceIte]
      intro q hq
      simp only [blkOf, List.mem_singleton] at hq
      omega
    · simp only [t1, sg_set, Nat.reduceEqDiff, ↓reduceIte]
    · simp only [t5, sg_set, Nat.reduceEqDiff, ↓reduceIte]
    · simp only [sg_set, Nat.reduceEqDiff, ↓reduceIte]
theorem of_grid (g : Pg P tab) {a b c d : Int} (ok : bxOk a b c d) {bb e0 v0 a0 b0 m N : Nat} (ha0 : a0 = (a / 67108864).toNat) (hb0 : b0 = (b / 67108864).toNat) (hm : b0 + m = (d / 67108864).toNat + 1) (hN : a0 + N = (c / 67108864).toNat + 1) (n : Nat) :
    ∀ (i : Nat) (s : T AV) (h : Heap) (k : List Fr) (Q : Ex → T AV → Heap → Prop), i + n = N → Row h (sg s 4) 1 ((gridC a0 b0 m i).map (.int .i64)) (i * m) → (∀ q ∈ blkOf (sg s 4), bb < q) → bb < h.next → h.get bb = some (.cells [.int .i64 a, .int .i64 b, .int .i64 c, .int .i64 d] e0 v0) →
      sg s 1 = .ptr bb 0 → sg s 5 = .int .i64 ((a0 + i : Nat) : Int) →
      (∀ s' h', Row h' (sg s' 4) 1 ((gridC a0 b0 m N).map (.int .i64)) (N * m) → Un P k Q (.exit 0) s' h') → Lp P b69_1 s h (Un P k Q) := by
  obtain ⟨o1, o2, o3, o4, o5, o6, o7, o8, o9, o10⟩ := id ok
  have hbd : ∀ i, i < N → i * m + m ≤ 4096 := fun i hi => by
    have h1 : (i + 1) * m ≤ 64 * 64 := Nat.mul_le_mul (by omega) (by omega)
    rw [Nat.add_mul, Nat.one_mul] at h1
    exact h1
  induction n with
  | zero =>
    intro i s h k Q hn r hq hbb hg t1 t5 hQ
    obtain rfl : i = N := by omega
    refine g.lpe b69_1.eq_1 ?_
    have c1 : ¬ ((a0 + i : Nat) : Int) ≤ c / 67108864 := by omega
    simp only [t1, t5, hg, c1, RX, VOp.fresh, bxC, bsC, un, most, callsOf, seval, Int.reducePow, ↓reduceIte, Nat.reduceEqDiff, reduceCtorEq]
    refine hQ _ _ ?_
    simp only [sg_set, Nat.reduceEqDiff, ↓reduceIte]
    exact r
  | succ n ih =>
    intro i s h k Q hn r hq hbb hg t1 t5 hQ
    refine g.lpe b69_1.eq_1 ?_
    have c1 : ((a0 + i : Nat) : Int) ≤ c / 67108864 := by omega
    have w1 : IntKind.i64.wrap (((a0 + i : Nat) : Int) + 1) = ((a0 + (i + 1) : Nat) : Int) := by rw [w64 (by omega) (by omega)]; push_cast; omega
    simp only [t1, t5, hg, c1, RX, VOp.fresh, bxC, bsC, un, most, callsOf, seval, Int.reducePow, ↓reduceIte, Nat.reduceEqDiff, reduceCtorEq]
    refine of_col g ok (bb := bb) (e0 := e0) (v0 := v0) (x := a0 + i) hb0 hm (by omega) m 0 _ h (gridC a0 b0 m i) _ _ (by omega) ?_ ?_ ?_ hbb hg ?_ ?_ ?_ ?_
    · simp only [sg_set, Nat.reduceEqDiff, ↓reduceIte]
      rw [gridC_len]
      simpa [colC] using r
    · rw [gridC_len]; exact hbd i (by omega)
    · simp only [sg_set, Nat.reduceEqDiff, ↓reduceIte]
      exact hq
    · simp only [t1, sg_set, Nat.reduceEqDiff, ↓reduceIte]
    · simp only [t5, sg_set, Nat.reduceEqDiff, ↓reduceIte]
    · simp only [sg_set, Nat.reduceEqDiff, ↓reduceIte]
      rw [hb0, Nat.add_zero]
      congr 1; omega
    · intro s' h' r' hq' hbb' hg' t1' t5'
      simp only [t5', w1, RX, VOp.fresh, bxC, bsC, un, most, callsOf, seval, Int.reducePow, ↓reduceIte, Nat.reduceEqDiff, reduceCtorEq]
      refine ih (i + 1) _ h' k Q (by omega) ?_ ?_ hbb' hg' ?_ ?_ hQ
      · simp only [sg_set, Nat.reduceEqDiff, ↓reduceIte]
        rw [gridC_len, ← gridC_succ] at r'
        rw [Nat.add_mul, Nat.one_mul]
        exact r'
      · simp only [sg_set, Nat.reduceEqDiff, ↓reduceIte]
        exact hq'
      · simp only [t1', sg_set, Nat.reduceEqDiff, ↓reduceIte]
      · simp only [sg_set, Nat.reduceEqDiff, ↓reduceIte]
theorem of_cov (g : Pg P tab) {l : List Int} (hl : l.length ≤ 4096) (hb : ∀ c ∈ l, 0 ≤ c ∧ c < 4096) {rb e0 v0 N0 : Nat} (hrb : rb < N0) (n : Nat) : ∀ (i : Nat) (s : T AV) (h : Heap) (k : List Fr) (Q : Ex → T AV → Heap → Prop), i + n = l.length → Row h (sg s 9) 2 (rcells (covM (l.take i))) (covM (l.take i)).length → (∀ q ∈ blkOf (sg s 9), N0 ≤ q) → N0 ≤ h.next →
      h.get rb = some (.cells (l.map (.int .i64)) e0 v0) → sg s 47 = .sl rb 0 l.length l.length 1 → sg s 48 = .int .i64 l.length → sg s 49 = .int .i64 i →
      (∀ s' h', Row h' (sg s' 9) 2 (rcells (covM l)) (covM l).length → Un P k Q (.exit 4) s' h') → Lp P b69_2 s h (Un P k Q) := by
  induction n with
  | zero =>
    intro i s h k Q hn r hq hN hg t47 t48 t49 hQ
    obtain rfl : i = l.length := by omega
    refine g.lpe b69_2.eq_1 ?_
    have c1 : ¬ (l.length : Int) < (l.length : Int) := by omega
    simp only [t48, t49, c1, RX, VOp.fresh, bxC, bsC, un, most, callsOf, seval, Int.reducePow, ↓reduceIte, Nat.reduceEqDiff, reduceCtorEq]
    refine hQ _ _ ?_
    simp only [sg_set, Nat.reduceEqDiff, ↓reduceIte]
    rw [List.take_length] at r
    exact r
  | succ n ih =>
    intro i s h k Q hn r hq hN hg t47 t48 t49 hQ
    refine g.lpe b69_2.eq_1 ?_
    have c1 : (i : Int) < (l.length : Int) := by omega
    have hi : i < l.length := by omega
    have w1 : IntKind.i64.wrap ((i : Int) + 1) = ((i + 1 : Nat) : Int) := by rw [w64 (by omega) (by omega)]; push_cast; rfl
    have hc := hb l[i] (List.getElem_mem hi)
    have hia : ∀ (hh : Heap), iaV hh 1 none (.sl rb 0 l.length l.length 1) (.int .i64 (i : Int)) = .val (.ptr rb i) hh := fun hh => by
      rw [iaV_sl, if_pos ⟨by omega, by omega, rfl⟩, Int.toNat_natCast, Nat.mul_one, Nat.zero_add]
    have hp : part false (l.map (AV.int .i64)) i 1 = some (.int .i64 l[i]) := part_f (r := (l.drop (i + 1)).map (AV.int .i64)) (by rw [← List.map_drop, List.drop_eq_getElem_cons hi]; rfl)
    have ht : l.take (i + 1) = l.take i ++ [l[i]] := by rw [List.take_add_one, List.getElem?_eq_getElem hi]; rfl
    generalize l[i] = c at *
    have s1 : IntKind.i64.wrap (c * 1048576) = c * 1048576 := w64 (by omega) (by omega)
    have s2 : IntKind.i64.wrap ((c + 1) * 1048576) = (c + 1) * 1048576 := w64 (by omega) (by omega)
    have s3 : IntKind.i64.wrap (c + 1) = c + 1 := w64 (by omega) (by omega)
    simp only [t47, t48, t49, c1, hia, hg, hp, s1, s2, s3, RX, VOp.fresh, bxC, bsC, un, most, callsOf, seval, Int.reducePow, ↓reduceIte, Nat.reduceEqDiff, reduceCtorEq]
    have hlen := covM_len (l.take i)
    rw [List.length_take] at hlen
    refine add_cl g r (by omega) _ _ fun v' h' r' hn' hk hq' => ?_
    simp only [t49, w1, RX, VOp.fresh, bxC, bsC, un, most, callsOf, seval, Int.reducePow, ↓reduceIte, Nat.reduceEqDiff, reduceCtorEq]
    refine ih (i + 1) _ h' k Q (by omega) ?_ ?_ (by omega) ?_ ?_ ?_ ?_ hQ
    · simp only [sg_set, Nat.reduceEqDiff, ↓reduceIte]
      rw [ht, covM_snoc]
      exact r'
    · simp only [sg_set, Nat.reduceEqDiff, ↓reduceIte]
      intro q hq2
      rcases hq' q hq2 with h1 | h1
      · exact hq q h1
      · omega
    · rw [hk rb (fun hc => by have := hq rb hc; omega) (by omega)]; exact hg
    · simp only [t47, sg_set, Nat.reduceEqDiff, ↓reduceIte]
    · simp only [t48, sg_set, Nat.reduceEqDiff, ↓reduceIte]
    · simp only [sg_set, Nat.reduceEqDiff, ↓reduceIte]
theorem Row.tup {h : Heap} {v : AV} {l : Rgs} (r : Row h v 2 (rcells l) l.length) {e : Int} : Fz false h (.tup [v, .int .i64 e]) (.tup [tRgs l, .int .i64 e]) := by
  refine .tup (.cons ?_ (.cons (.int _ _) .nil))
  rcases r with ⟨rfl, e0, _⟩ | ⟨b, eb, vb, rfl, h0, h1, h2, h3⟩
  · unfold tRgs; rw [e0, cRow_z]; exact .nils
  · unfold tRgs; rw [cRow_s _ h0]
    have hc : cut (rcells l) 0 (l.length * 2) = some (rcells l) := by rw [cut_eq, List.drop_zero, ← h2, List.take_length, if_pos rfl]
    refine .sl h0 h3 hc ?_
    clear h3 h2 hc
    induction l with
    | nil => exact .nil
    | cons r l ih =>
      have : rcells (r :: l) = .int .i64 r.1 :: .int .i64 r.2 :: rcells l := rfl
      rw [this]
      rcases Nat.eq_zero_or_pos l.length with e | e
      · rw [List.eq_nil_of_length_eq_zero e]; exact .cons (.int _ _) (.cons (.int _ _) .nil)
      · exact .cons (.int _ _) (.cons (.int _ _) (ih e))
theorem of_pu (g : Pg P tab) (hs : SortI P) (a b c d : Int) : Pu P 69 [.agg [.int .i64 a, .int .i64 b, .int .i64 c, .int .i64 d]] (fun v => (¬ bxOk a b c d ∧ v = .tup [.nils, .int .i64 600]) ∨ (bxOk a b c d ∧ v = .tup [tRgs (bxCov a b c d), .int .i64 0])) := by
  refine g.pu (vf := v69) rfl rfl ?_
  simp only [v69, RW, RX, VOp.fresh, bxC, bsC, un, most, callsOf, seval, Int.reducePow, ↓reduceIte, Nat.reduceEqDiff, reduceCtorEq]
  refine (boxMay_pu g a b c d).go rfl ?_
  rintro _ rfl
  by_cases ok : bxOk a b c d
  · simp only [ok, RW, RX, VOp.fresh, bxC, bsC, un, most, callsOf, seval, Int.reducePow, ↓reduceIte, Nat.reduceEqDiff, reduceCtorEq]
    obtain ⟨o1, o2, o3, o4, o5, o6, o7, o8, o9, o10⟩ := id ok
    obtain ⟨N, hN⟩ : ∃ N, (a / 67108864).toNat + N = (c / 67108864).toNat + 1 := ⟨(c / 67108864).toNat + 1 - (a / 67108864).toNat, by omega⟩
    obtain ⟨m, hm⟩ : ∃ m, (b / 67108864).toNat + m = (d / 67108864).toNat + 1 := ⟨(d / 67108864).toNat + 1 - (b / 67108864).toNat, by omega⟩
    refine of_grid g ok (bb := 0) (e0 := 96) (v0 := 0) (m := m) (N := N) rfl rfl hm hN N 0 _ _ _ _ (by omega) ?_ ?_ ?_ ?_ ?_ ?_ fun s' h' r => ?_
    · simp only [sg_set, Nat.reduceEqDiff, ↓reduceIte]
      rw [Nat.zero_mul]
      exact .nil _ _
    · simp only [sg_set, Nat.reduceEqDiff, ↓reduceIte]
      intro q hq; simp [blkOf] at hq
    · rw [mk_next]; omega
    · rw [Heap.get_mk, if_pos rfl]
    · simp only [sg_set, Nat.reduceEqDiff, ↓reduceIte]
    · simp only [sg_set, Nat.reduceEqDiff, ↓reduceIte]
      congr 1; omega
    · have eL : gridC (a / 67108864).toNat (b / 67108864).toNat m N = bxL a b c d := by
        unfold bxL
        rw [show (d / 67108864).toNat - (b / 67108864).toNat + 1 = m by omega, show (c / 67108864).toNat - (a / 67108864).toNat + 1 = N by omega]
      have hlen := gridC_len (a / 67108864).toNat (b / 67108864).toNat m N
      rw [eL] at r hlen
      have hb : N * m ≤ 64 * 64 := Nat.mul_le_mul (by omega) (by omega)
      have h0 : 0 < N * m := Nat.mul_pos (by omega) (by omega)
      rcases r with ⟨_, e, _⟩ | ⟨rb, eb, vb, e4, _, hrb, _, hg⟩
      · omega
      have hs1 := hs.1 hg hlen h0 (by omega) (cap := N * m)
      simp only [e4, RX, VOp.fresh, bxC, bsC, un, most, callsOf, seval, Int.reducePow, ↓reduceIte, Nat.reduceEqDiff, reduceCtorEq]
      refine hs1.cl ?_
      simp only [e4, lnV_sl, RX, VOp.fresh, bxC, bsC, un, most, callsOf, seval, Int.reducePow, ↓reduceIte, Nat.reduceEqDiff, reduceCtorEq]
      have hl := (isort_perm (bxL a b c d)).length_eq
      refine of_cov g (l := isort (bxL a b c d)) (by omega) (fun c hc => grid_lt ((isort_perm _).mem_iff.1 hc)) (rb := rb) (e0 := eb) (v0 := vb + 1) (N0 := h'.next) hrb (isort (bxL a b c d)).length 0 _ _ _ _ (by omega) ?_ ?_ ?_ ?_ ?_ ?_ ?_ ?_
      · simp only [sg_set, Nat.reduceEqDiff, ↓reduceIte]
        exact .nil _ _
      · simp only [sg_set, Nat.reduceEqDiff, ↓reduceIte]
        intro q hq; simp [blkOf] at hq
      · rw [put_next]; exact Nat.le_refl _
      · rw [Heap.get_put, if_pos rfl]
      · simp only [sg_set, Nat.reduceEqDiff, ↓reduceIte]
        rw [hl, hlen]
      · simp only [sg_set, Nat.reduceEqDiff, ↓reduceIte]
        rw [hl, hlen]
      · simp only [sg_set, Nat.reduceEqDiff, ↓reduceIte]
        rfl
      · intro s2 h2 r2
        simp only [RX, VOp.fresh, bxC, bsC, un, most, callsOf, seval, Int.reducePow, ↓reduceIte, Nat.reduceEqDiff, reduceCtorEq]
        exact ⟨_, r2.tup, .inr rfl⟩
  · simp only [ok, RW, RX, VOp.fresh, bxC, bsC, un, most, callsOf, seval, Int.reducePow, ↓reduceIte, Nat.reduceEqDiff, reduceCtorEq]
    exact ⟨_, .tup (.cons .nils (.cons (.int _ _) .nil)), .inl rfl⟩
end
end Go.Proofs.Ythmkenkjfmbkiaa.VM
namespace Go.Proofs.Ythmkenkjfmbkiaa.VM
open Go.Proofs.Ythmkenkjfmbkiaa.Hil
attribute [local irreducible] Af Nx EvO Ev Un Gd Cd EvR EvQ EvC Nc Gc Lp EvM NxM AfM GdM EvMR EvMQ EvMD EvMC Nm Gm
def metC (zs : List Int) : List AV := (List.range 4096).map fun i => .bool (decide (((i : Nat) : Int) ∈ zs))
theorem metC_len (zs : List Int) : (metC zs).length = 4096 := by simp [metC]
theorem metC_set {zs : List Int} {d : Nat} (h : d < 4096) : (metC zs).set d (.bool true) = metC (zs ++ [(d : Int)]) := by
  apply List.ext_getElem
  · simp [metC]
  · intro i h1 h2
    rw [List.getElem_set]
    simp only [metC, List.getElem_map, List.getElem_range]
    by_cases e : d = i
    · subst e; simp
    · rw [if_neg e]
      have : ((i : Nat) : Int) ∈ zs ++ [(d : Int)] ↔ ((i : Nat) : Int) ∈ zs := by
        rw [List.mem_append, List.mem_singleton]
        constructor
        · rintro (h | h)
          · exact h
          · omega
        · exact .inl
      simp only [this]
theorem metC_nil : metC [] = List.replicate 4096 (.bool false) := by
  unfold metC
  rw [show (fun i : Nat => AV.bool (decide (((i : Nat) : Int) ∈ ([] : List Int)))) = fun _ => .bool false from funext fun i => by simp, List.map_const', List.length_range]
theorem metC_at {zs : List Int} {d : Nat} (h : d < 4096) : part false (metC zs) d 1 = some (.bool (decide ((d : Int) ∈ zs))) := by
  have hl : d < (metC zs).length := by rw [metC_len]; exact h
  rw [part_f (List.drop_eq_getElem_cons hl)]
  simp [metC]
section
variable {P : Program}
theorem dpoint_pu (g : Pg P tab) (x y : Int) : Pu P 100 [.agg [.int .i64 x, .int .i64 y]] (fun v => v = .bool (decide (0 ≤ x ∧ x ≤ 4294967295 ∧ 0 ≤ y ∧ y ≤ 4294967295))) := by
  refine g.pu (vf := v100) rfl rfl ?_
  simp +contextual (maxSteps := 2000000) (disch := omega) only [v100, RX, VOp.fresh, bxC, bsC, un, most, callsOf, seval, Int.reducePow, ↓reduceIte, Nat.reduceEqDiff, reduceCtorEq]
theorem dboxMay_pu (g : Pg P tab) (a b c d : Int) : Pu P 80 [.agg [.int .i64 a, .int .i64 b, .int .i64 c, .int .i64 d]] (fun v => v = .bool (decide (bxOk a b c d))) := by
  refine g.pu (vf := v80) rfl rfl ?_
  simp only [v80, RX, VOp.fresh, bxC, bsC, un, most, callsOf, seval, Int.reducePow, ↓reduceIte, Nat.reduceEqDiff, reduceCtorEq]
  refine (dpoint_pu g _ _).go rfl ?_
  rintro v rfl
  by_cases h1 : 0 ≤ a ∧ a ≤ 4294967295 ∧ 0 ≤ b ∧ b ≤ 4294967295
  · simp only [h1, RX, VOp.fresh, bxC, bsC, un, most, callsOf, seval, Int.reducePow, ↓reduceIte, Nat.reduceEqDiff, reduceCtorEq]
    refine (dpoint_pu g _ _).go rfl ?_
    rintro v rfl
    by_cases h2 : 0 ≤ c ∧ c ≤ 4294967295 ∧ 0 ≤ d ∧ d ≤ 4294967295
    · simp +contextual (maxSteps := 2000000) only [h1, h2, bxOk, RX, VOp.fresh, bxC, bsC, un, most, callsOf, seval, Int.reducePow, ↓reduceIte, Nat.reduceEqDiff, reduceCtorEq]
    · have f : ¬ bxOk a b c d := fun z => by unfold bxOk at z; omega
      simp only [h2, f, RX, VOp.fresh, bxC, bsC, un, most, callsOf, seval, Int.reducePow, ↓reduceIte, Nat.reduceEqDiff, reduceCtorEq]
  · have f : ¬ bxOk a b c d := fun z => by unfold bxOk at z; omega
    simp only [h1, f, RX, VOp.fresh, bxC, bsC, un, most, callsOf, seval, Int.reducePow, ↓reduceIte, Nat.reduceEqDiff, reduceCtorEq]
theorem dof_col (g : Pg P tab) {a b c d : Int} (ok : bxOk a b c d) {bb e0 v0 mb x b0 m K : Nat} (hne : mb ≠ bb) (hb0 : b0 = (b / 67108864).toNat) (hm : b0 + m = (d / 67108864).toNat + 1) (hx : x < 64) (n : Nat) :
    ∀ (j : Nat) (s : T AV) (h : Heap) (zs : List Int) (em vm : Nat) (k : List Fr) (Q : Ex → T AV → Heap → Prop), j + n = m → K ≤ h.next → h.get mb = some (.cells (metC (zs ++ colC b0 x j)) em vm) → h.get bb = some (.cells [.int .i64 a, .int .i64 b, .int .i64 c, .int .i64 d] e0 v0) →
      sg s 1 = .ptr bb 0 → sg s 4 = .ptr mb 0 → sg s 5 = .int .i64 67108864 → sg s 6 = .int .i64 x → sg s 7 = .int .i64 ((b0 + j : Nat) : Int) →
      (∀ s' h' vm', K ≤ h'.next → h'.get mb = some (.cells (metC (zs ++ colC b0 x m)) em vm') → h'.get bb = some (.cells [.int .i64 a, .int .i64 b, .int .i64 c, .int .i64 d] e0 v0) → sg s' 1 = .ptr bb 0 → sg s' 4 = .ptr mb 0 → sg s' 5 = .int .i64 67108864 → sg s' 6 = .int .i64 x → Un P k Q (.exit 2) s' h') → Lp P b54_0 s h (Un P k Q) := by
  obtain ⟨o1, o2, o3, o4, o5, o6, o7, o8, o9, o10⟩ := id ok
  have q1 : IntKind.i64.wrap (d.tdiv 67108864) = d / 67108864 := by rw [Int.tdiv_eq_ediv_of_nonneg o7]; exact w64 (by omega) (by omega)
  have q2 := fun a : Int => bin_quo (k := .i64) (a := a) (b := 67108864) (by decide)
  induction n with
  | zero =>
    intro j s h zs em vm k Q hn hK hg hgb t1 t4 t5 t6 t7 hQ
    obtain rfl : j = m := by omega
    refine g.lpe b54_0.eq_1 ?_
    have c1 : ¬ ((b0 + j : Nat) : Int) ≤ d / 67108864 := by omega
    simp only [t1, t5, t7, hgb, q1, q2, c1, RX, VOp.fresh, bxC, bsC, un, most, callsOf, seval, Int.reducePow, ↓reduceIte, Nat.reduceEqDiff, reduceCtorEq]
    refine hQ _ _ _ hK hg hgb ?_ ?_ ?_ ?_
    · simp only [t1, sg_set, Nat.reduceEqDiff, ↓reduceIte]
    · simp only [t4, sg_set, Nat.reduceEqDiff, ↓reduceIte]
    · simp only [t5, sg_set, Nat.reduceEqDiff, ↓reduceIte]
    · simp only [t6, sg_set, Nat.reduceEqDiff, ↓reduceIte]
  | succ n ih =>
    intro j s h zs em vm k Q hn hK hg hgb t1 t4 t5 t6 t7 hQ
    refine g.lpe b54_0.eq_1 ?_
    have c1 : ((b0 + j : Nat) : Int) ≤ d / 67108864 := by omega
    have w1 : IntKind.i64.wrap (((b0 + j : Nat) : Int) + 1) = ((b0 + (j + 1) : Nat) : Int) := by rw [w64 (by omega) (by omega)]; push_cast; omega
    simp only [t1, t5, t6, t7, hgb, q1, q2, c1, RX, VOp.fresh, bxC, bsC, un, most, callsOf, seval, Int.reducePow, ↓reduceIte, Nat.reduceEqDiff, reduceCtorEq]
    refine (dcell_pu g (n := 6) (X := x) (Y := b0 + j) (by decide) (by decide) (by omega) (by omega)).go rfl ?_
    rintro _ rfl
    have hlt : hcell 6 x (b0 + j) < 4096 := hcell_lt 6 _ _
    have hc := colC_succ b0 x j
    generalize hcell 6 x (b0 + j) = z at *
    have hia : ∀ hh : Heap, iaV hh 1 (some 4096) (.ptr mb 0) (.int .i64 (z : Int)) = .val (.ptr mb z) hh := fun hh => by
      simp only [iaV]
      rw [if_pos ⟨by omega, by omega⟩, Int.toNat_natCast, Nat.mul_one, Nat.zero_add]
    have hw := wr_at hg (j := z) (by rw [metC_len]; exact hlt) (x := .bool true) rfl
    rw [metC_set hlt, List.append_assoc, ← hc] at hw
    simp only [t4, t7, w1, hia, hw, RW, RX, VOp.fresh, bxC, bsC, un, most, callsOf, seval, Int.reducePow, ↓reduceIte, Nat.reduceEqDiff, reduceCtorEq]
    refine ih (j + 1) _ _ zs em (vm + 1) k Q (by omega) (by rw [put_next]; exact hK) (by rw [Heap.get_put, if_pos rfl]) (by rw [Heap.get_put, if_neg (Ne.symm hne)]; exact hgb) ?_ ?_ ?_ ?_ ?_ hQ
    · simp only [t1, sg_set, Nat.reduceEqDiff, ↓reduceIte]
    · simp only [t4, sg_set, Nat.reduceEqDiff, ↓reduceIte]
    · simp only [t5, sg_set, Nat.reduceEqDiff, ↓reduceIte]
    · simp only [t6, sg_set, Nat.reduceEqDiff, ↓reduceIte]
    · simp only [sg_set, Nat.reduceEqDiff, ↓reduceIte]
theorem dof_grid (g : Pg P tab) {a b c d : Int} (ok : bxOk a b c d) {bb e0 v0 mb a0 b0 m N K : Nat} (hne : mb ≠ bb) (ha0 : a0 = (a / 67108864).toNat) (hb0 : b0 = (b / 67108864).toNat) (hm : b0 + m = (d / 67108864).toNat + 1) (hN : a0 + N = (c / 67108864).toNat + 1) (n : Nat) :
    ∀ (i : Nat) (s : T AV) (h : Heap) (em vm : Nat) (k : List Fr) (Q : Ex → T AV → Heap → Prop), i + n = N → K ≤ h.next → h.get mb = some (.cells (metC (gridC a0 b0 m i)) em vm) → h.get bb = some (.cells [.int .i64 a, .int .i64 b, .int .i64 c, .int .i64 d] e0 v0) →
      sg s 1 = .ptr bb 0 → sg s 4 = .ptr mb 0 → sg s 5 = .int .i64 67108864 → sg s 6 = .int .i64 ((a0 + i : Nat) : Int) →
      (∀ s' h' vm', K ≤ h'.next → h'.get mb = some (.cells (metC (gridC a0 b0 m N)) em vm') → sg s' 4 = .ptr mb 0 → Un P k Q (.exit 0) s' h') → Lp P b54_1 s h (Un P k Q) := by
  obtain ⟨o1, o2, o3, o4, o5, o6, o7, o8, o9, o10⟩ := id ok
  have q1 : IntKind.i64.wrap (c.tdiv 67108864) = c / 67108864 := by rw [Int.tdiv_eq_ediv_of_nonneg o5]; exact w64 (by omega) (by omega)
  have q3 : IntKind.i64.wrap (b.tdiv 67108864) = b / 67108864 := by rw [Int.tdiv_eq_ediv_of_nonneg o3]; exact w64 (by omega) (by omega)
  have q2 := fun a : Int => bin_quo (k := .i64) (a := a) (b := 67108864) (by decide)
  induction n with
  | zero =>
    intro i s h em vm k Q hn hK hg hgb t1 t4 t5 t6 hQ
    obtain rfl : i = N := by omega
    refine g.lpe b54_1.eq_1 ?_
    have c1 : ¬ ((a0 + i : Nat) : Int) ≤ c / 67108864 := by omega
    simp only [t1, t5, t6, hgb, q1, q2, c1, RX, VOp.fresh, bxC, bsC, un, most, callsOf, seval, Int.reducePow, ↓reduceIte, Nat.reduceEqDiff, reduceCtorEq]
    refine hQ _ _ _ hK hg ?_
    simp only [t4, sg_set, Nat.reduceEqDiff, ↓reduceIte]
  | succ n ih =>
    intro i s h em vm k Q hn hK hg hgb t1 t4 t5 t6 hQ
    refine g.lpe b54_1.eq_1 ?_
    have c1 : ((a0 + i : Nat) : Int) ≤ c / 67108864 := by omega
    have w1 : IntKind.i64.wrap (((a0 + i : Nat) : Int) + 1) = ((a0 + (i + 1) : Nat) : Int) := by rw [w64 (by omega) (by omega)]; push_cast; omega
    simp only [t1, t5, t6, hgb, q1, q2, q3, c1, RX, VOp.fresh, bxC, bsC, un, most, callsOf, seval, Int.reducePow, ↓reduceIte, Nat.reduceEqDiff, reduceCtorEq]
    refine dof_col g ok (bb := bb) (e0 := e0) (v0 := v0) (mb := mb) (x := a0 + i) hne hb0 hm (by omega) m 0 _ h (gridC a0 b0 m i) em vm _ _ (by omega) hK (by simpa [colC] using hg) hgb ?_ ?_ ?_ ?_ ?_ ?_
    · simp only [t1, sg_set, Nat.reduceEqDiff, ↓reduceIte]
    · simp only [t4, sg_set, Nat.reduceEqDiff, ↓reduceIte]
    · simp only [t5, sg_set, Nat.reduceEqDiff, ↓reduceIte]
    · simp only [t6, sg_set, Nat.reduceEqDiff, ↓reduceIte]
    · simp only [sg_set, Nat.reduceEqDiff, ↓reduceIte]
      rw [hb0, Nat.add_zero]
      congr 1; omega
    · intro s' h' vm' hK' hg' hgb' t1' t4' t5' t6'
      simp only [t6', w1, RX, VOp.fresh, bxC, bsC, un, most, callsOf, seval, Int.reducePow, ↓reduceIte, Nat.reduceEqDiff, reduceCtorEq]
      refine ih (i + 1) _ h' em vm' k Q (by omega) hK' (by rw [gridC_succ]; exact hg') hgb' ?_ ?_ ?_ ?_ hQ
      · simp only [t1', sg_set, Nat.reduceEqDiff, ↓reduceIte]
      · simp only [t4', sg_set, Nat.reduceEqDiff, ↓reduceIte]
      · simp only [t5', sg_set, Nat.reduceEqDiff, ↓reduceIte]
      · simp only [sg_set, Nat.reduceEqDiff, ↓reduceIte]
/-- the cells that are met, as far as a place -/
def metL (zs : List Int) (i : Nat) : List Int := ((List.range i).map fun j => ((j : Nat) : Int)).filter fun c => decide (c ∈ zs)
theorem metL_succ (zs : List Int) (i : Nat) : metL zs (i + 1) = if (i : Int) ∈ zs then metL zs i ++ [(i : Int)] else metL zs i := by
  unfold metL
  rw [List.range_succ, List.map_append, List.filter_append]
  by_cases h : (i : Int) ∈ zs
  · rw [if_pos h]; simp [h]
  · rw [if_neg h]; simp [h]
theorem metL_mem {zs : List Int} {i : Nat} {c : Int} : c ∈ metL zs i ↔ c ∈ zs ∧ 0 ≤ c ∧ c < i := by
  unfold metL
  rw [List.mem_filter, List.mem_map]
  constructor
  · rintro ⟨⟨j, hj, rfl⟩, h⟩
    have := List.mem_range.1 hj
    exact ⟨by simpa using h, by omega, by omega⟩
  · rintro ⟨h1, h2, h3⟩
    exact ⟨⟨c.toNat, List.mem_range.2 (by omega), by omega⟩, by simpa using h1⟩
theorem metL_inc (zs : List Int) (i : Nat) : (metL zs i).Pairwise (· < ·) := by
  unfold metL
  refine List.Pairwise.filter _ ?_
  rw [List.pairwise_map]
  exact List.pairwise_lt_range.imp fun h => by omega
theorem metL_len (zs : List Int) (i : Nat) : (metL zs i).length ≤ i := by
  unfold metL
  have := List.length_filter_le (fun c => decide (c ∈ zs)) ((List.range i).map fun j => ((j : Nat) : Int))
  simpa using this
theorem addR_last : ∀ (l : Rgs) (r : Int × Int), ∃ m x, addR l r = m ++ [(x, r.2)]
  | [], r => ⟨[], r.1, rfl⟩
  | [q], r => by
    unfold addR
    split
    · exact ⟨[], q.1, rfl⟩
    · exact ⟨[q], r.1, rfl⟩
  | q :: q' :: t, r => by
    obtain ⟨m, x, e⟩ := addR_last (q' :: t) r
    exact ⟨q :: m, x, by rw [addR, e]; rfl⟩
/-- where the last stretch ends -/
theorem covM_end (zs : List Int) : ∀ i : Nat, covM (metL zs i) = [] ∨ ∃ (m : Rgs) (x c : Int), covM (metL zs i) = m ++ [(x, (c + 1) * 1048576)] ∧ 0 ≤ c ∧ c < i ∧ (c + 1 = i ↔ (c ∈ zs ∧ c + 1 = i)) ∧ (((i : Int) - 1) ∈ zs → c + 1 = i)
  | 0 => .inl rfl
  | i + 1 => by
    rw [metL_succ]
    by_cases h : (i : Int) ∈ zs
    · rw [if_pos h, covM_snoc]
      obtain ⟨m, x, e⟩ := addR_last (covM (metL zs i)) ((i : Int) * 1048576, ((i : Int) + 1) * 1048576)
      exact .inr ⟨m, x, i, e, by omega, by omega, ⟨fun e => ⟨h, e⟩, fun e => e.2⟩, fun _ => by omega⟩
    · rw [if_neg h]
      rcases covM_end zs i with e | ⟨m, x, c, e, h0, h1, h2, h3⟩
      · exact .inl e
      · exact .inr ⟨m, x, c, e, h0, by omega, ⟨fun q => by omega, fun q => q.2⟩, fun q => absurd q (by rw [show ((i + 1 : Nat) : Int) - 1 = (i : Int) by omega]; exact h)⟩
theorem covM_nil_met {zs : List Int} {i : Nat} (h : covM (metL zs i) = []) : metL zs i = [] := by
  rcases List.eq_nil_or_concat (metL zs i) with e | ⟨m, q, e⟩
  · exact e
  · exfalso
    rw [e, List.concat_eq_append, covM_snoc] at h
    obtain ⟨m', x, e'⟩ := addR_last (covM m) (q * 1048576, (q + 1) * 1048576)
    rw [e'] at h
    simp at h
theorem cov_inc {q L : List Int} (hq : q.Pairwise (· < ·)) (hb : ∀ c ∈ q, 0 ≤ c ∧ c < 4096) (hL : ∀ c, c ∈ L ↔ c ∈ q) : Sep (-1) (covM q) ∧ ∀ d, rHas (covM q) d ↔ inCells L d := by
  obtain ⟨e, u, he⟩ := cov_fold q (out := []) (a := 0) (L := L) (by simpa using Upto.nil) (by omega) hb (fun c _ => hL c) hq
  refine ⟨u.1, fun d => ?_⟩
  have h3 := u.2.2 d
  unfold covM
  rw [h3]
  constructor
  · exact fun ⟨_, _, h⟩ => h
  · intro hd
    have h4 := hb _ ((hL _).1 hd)
    refine ⟨by omega, ?_, hd⟩
    rcases Int.lt_or_le d e with c | c
    · exact c
    · exact absurd hd (he d c)
theorem cov_met {a b c d : Int} (ok : bxOk a b c d) {N : Nat} (hN : N = 4096) : covM (metL (bxL a b c d) N) = bxCov a b c d := by
  obtain ⟨h1, h2⟩ := bxCov_of ok
  obtain ⟨h3, h4⟩ := cov_inc (L := bxL a b c d) (metL_inc (bxL a b c d) N) (fun c hc => by have := metL_mem.1 hc; omega) fun c => by
    rw [metL_mem]
    exact ⟨fun h => ⟨h, by have := grid_lt h; omega⟩, fun h => h.1⟩
  exact h3.uniq h1 fun d => by rw [h4, h2]
end
end Go.Proofs.Ythmkenkjfmbkiaa.VM
namespace Go.Proofs.Ythmkenkjfmbkiaa.VM
open Go.Proofs.Ythmkenkjfmbkiaa.Hil
attribute [local irreducible] Af Nx EvO Ev Un Gd Cd EvR EvQ EvC Nc Gc Lp EvM NxM AfM GdM EvMR EvMQ EvMD EvMC Nm Gm
section
variable {P : Program}
theorem dof_out (g : Pg P tab) {zs : List Int} {mb em vm N0 : Nat} (hmb : mb < N0) (n : Nat) :
    ∀ (i : Nat) (s : T AV) (h : Heap) (k : List Fr) (Q : Ex → T AV → Heap → Prop), i + n = 4096 → h.get mb = some (.cells (metC zs) em vm) → Row h (sg s 10) 2 (rcells (covM (metL zs i))) (covM (metL zs i)).length → (∀ q ∈ blkOf (sg s 10), N0 ≤ q) → N0 ≤ h.next →
      sg s 4 = .ptr mb 0 → sg s 11 = .int .i64 1048576 → sg s 12 = .int .i64 i →
      (∀ s' h', Row h' (sg s' 10) 2 (rcells (covM (metL zs (i + n)))) (covM (metL zs (i + n))).length → Un P k Q (.exit 4) s' h') → Lp P b54_2 s h (Un P k Q) := by
  induction n with
  | zero =>
    intro i s h k Q hn hg r hq hN t4 t11 t12 hQ
    refine g.lpe b54_2.eq_1 ?_
    have c1 : ¬ (i : Int) < 4096 := by omega
    simp only [t12, c1, RX, VOp.fresh, bxC, bsC, un, most, callsOf, seval, Int.reducePow, ↓reduceIte, Nat.reduceEqDiff, reduceCtorEq]
    refine hQ _ _ ?_
    simp only [sg_set, Nat.reduceEqDiff, ↓reduceIte]
    exact r
  | succ n ih =>
    intro i s h k Q hn hg r hq hN t4 t11 t12 hQ
    refine g.lpe b54_2.eq_1 ?_
    have c1 : (i : Int) < 4096 := by omega
    have w1 : IntKind.i64.wrap ((i : Int) + 1) = ((i + 1 : Nat) : Int) := by rw [w64 (by omega) (by omega)]; push_cast; rfl
    have hia : ∀ hh : Heap, iaV hh 1 (some 4096) (.ptr mb 0) (.int .i64 (i : Int)) = .val (.ptr mb i) hh := fun hh => by
      simp only [iaV]
      rw [if_pos ⟨by omega, by omega⟩, Int.toNat_natCast, Nat.mul_one, Nat.zero_add]
    have hp := metC_at (zs := zs) (d := i) (by omega)
    have hms := metL_succ zs i
    rw [show i + (n + 1) = (i + 1) + n by omega] at hQ
    by_cases hm : (i : Int) ∈ zs
    · rw [if_pos hm] at hms
      have s1 : IntKind.i64.wrap ((i : Int) * 1048576) = (i : Int) * 1048576 := w64 (by omega) (by omega)
      have s2 : IntKind.i64.wrap (((i + 1 : Nat) : Int) * 1048576) = ((i : Int) + 1) * 1048576 := by rw [w64 (by omega) (by omega)]; push_cast; rfl
      have hcl := covM_len (metL zs i)
      have hml := metL_len zs i
      have hlen := r.len
      have hlt := r.lt
      have hend := covM_end zs i
      have hnm := covM_nil_met (zs := zs) (i := i)
      have hsn := covM_snoc (metL zs i) (i : Int)
      rw [← hms] at hsn
      have ihx := fun s h => ih (i + 1) s h k Q (by omega)
      rw [hsn] at ihx
      generalize covM (metL zs i) = out at *
      -- one more behind
      have x2 := Ext.mk (h := h) (.cells [.int .i64 ((i : Int) * 1048576), .int .i64 (((i : Int) + 1) * 1048576)] 104 0)
      have n3 : (h.mk' h.next (.cells [.int .i64 ((i : Int) * 1048576), .int .i64 (((i : Int) + 1) * 1048576)] 104 0)).next = h.next + 1 := by rw [mk_next]; omega
      obtain ⟨h3, e3, r3, n4, k3⟩ := (r.ext x2).push (nb := h.next) (eb := 104) (vb := 0) (c := rcell ((i : Int) * 1048576, ((i : Int) + 1) * 1048576)) (by rw [Heap.get_mk, if_pos rfl]; rfl) rfl rfl (bytes := 16) (by unfold most2; omega) 104
      rw [← rcells_snoc] at r3
      rw [n3] at e3 r3 n4 k3
      have g3 : h3.get mb = some (.cells (metC zs) em vm) := by rw [k3 mb (fun hc => by have := hq mb hc; omega) (by omega), x2.2 mb (by omega)]; exact hg
      have behind : addR out ((i : Int) * 1048576, ((i : Int) + 1) * 1048576) = out ++ [((i : Int) * 1048576, ((i : Int) + 1) * 1048576)] → ∀ s', sg s' 10 = .sl (h.next + 1) 0 (out.length + 1) (out.length + 1) 2 → sg s' 4 = .ptr mb 0 → sg s' 11 = .int .i64 1048576 → sg s' 12 = .int .i64 ((i + 1 : Nat) : Int) → Lp P b54_2 s' h3 (Un P k Q) := fun e s' a10 a4 a11 a12 => by
        refine ihx s' h3 g3 ?_ ?_ (by omega) a4 a11 a12 hQ
        · rw [a10, e, List.length_append]; exact r3
        · rw [a10]; intro q hq; simp only [blkOf, List.mem_singleton] at hq; omega
      by_cases i0 : i = 0
      · have c2 : ¬ (0 : Int) < (i : Int) := by omega
        have e0 : out = [] := by
          rcases hend with e | ⟨m, x, c, e, h0, h1, _⟩
          · exact e
          · omega
        simp only [t4, t11, t12, c1, c2, w1, hia, hg, hp, hm, s1, s2, n3, e3, RX, VOp.fresh, bxC, bsC, un, most, callsOf, seval, Int.reducePow, ↓reduceIte, Nat.reduceEqDiff, reduceCtorEq]
        refine behind (by rw [e0]; rfl) _ ?_ ?_ ?_ ?_
        · simp only [sg_set, Nat.reduceEqDiff, ↓reduceIte]
        · simp only [t4, sg_set, Nat.reduceEqDiff, ↓reduceIte]
        · simp only [t11, sg_set, Nat.reduceEqDiff, ↓reduceIte]
        · simp only [sg_set, Nat.reduceEqDiff, ↓reduceIte]
      · have c2 : (0 : Int) < (i : Int) := by omega
        have w2 : IntKind.i64.wrap ((i : Int) - 1) = ((i - 1 : Nat) : Int) := by rw [w64 (by omega) (by omega)]; omega
        have hia2 : ∀ hh : Heap, iaV hh 1 (some 4096) (.ptr mb 0) (.int .i64 ((i - 1 : Nat) : Int)) = .val (.ptr mb (i - 1)) hh := fun hh => by
          simp only [iaV]
          rw [if_pos ⟨by omega, by omega⟩, Int.toNat_natCast, Nat.mul_one, Nat.zero_add]
        have hp2 := metC_at (zs := zs) (d := i - 1) (by omega)
        by_cases hm2 : ((i - 1 : Nat) : Int) ∈ zs
        · rcases hend with e | ⟨m, x, c, e, h0, h1, h2, h4⟩
          · exfalso
            have := hnm e
            have h5 : ((i - 1 : Nat) : Int) ∈ metL zs i := metL_mem.2 ⟨hm2, by omega, by omega⟩
            rw [this] at h5
            simp at h5
          · have hc := h4 (by rw [show (i : Int) - 1 = ((i - 1 : Nat) : Int) by omega]; exact hm2)
            subst e
            have c0 : (((m ++ [(x, (c + 1) * 1048576)]).length : Nat) : Int) ≤ 4096 := by omega
            have w3 : IntKind.i64.wrap ((((m ++ [(x, (c + 1) * 1048576)]).length : Nat) : Int) - 1) = (m.length : Int) := by rw [List.length_append, List.length_singleton] at *; rw [w64 (by omega) (by omega)]; omega
            obtain ⟨bb, eb, vb, hv8, hgr, hbn, hiar⟩ := r.at (i := m.length) (by simp)
            have hw := wr_at hgr (j := m.length * 2 + 1) (by rw [rcells_len, List.length_append, List.length_singleton]; omega) (x := .int .i64 (((i : Int) + 1) * 1048576)) rfl
            rw [rcells_set] at hw
            have hbq := hq bb (by rw [hv8]; simp [blkOf])
            simp only [t4, t11, t12, c1, c2, w1, w2, w3, hia, hia2, hg, hp, hp2, hm, hm2, s2, hlen, hiar, hw, RW, RX, VOp.fresh, bxC, bsC, un, most, callsOf, seval, Int.reducePow, ↓reduceIte, Nat.reduceEqDiff, reduceCtorEq]
            refine ihx _ _ ?_ ?_ ?_ ?_ ?_ ?_ ?_ hQ
            · rw [Heap.get_put, if_neg (by omega)]; exact hg
            · simp only [sg_set, Nat.reduceEqDiff, ↓reduceIte]
              rw [addR_snoc, if_pos (show (c + 1) * 1048576 = (i : Int) * 1048576 by rw [hc])]
              refine .inr ⟨bb, eb, vb + 1, ?_, by simp, by rw [put_next]; omega, by rw [rcells_len], by rw [Heap.get_put, if_pos rfl]⟩
              rw [hv8]; simp
            · simp only [sg_set, Nat.reduceEqDiff, ↓reduceIte]
              exact hq
            · rw [put_next]; exact hN
            · simp only [t4, sg_set, Nat.reduceEqDiff, ↓reduceIte]
            · simp only [t11, sg_set, Nat.reduceEqDiff, ↓reduceIte]
            · simp only [sg_set, Nat.reduceEqDiff, ↓reduceIte]
        · simp only [t4, t11, t12, c1, c2, w1, w2, hia, hia2, hg, hp, hp2, hm, hm2, s1, s2, n3, e3, RX, VOp.fresh, bxC, bsC, un, most, callsOf, seval, Int.reducePow, ↓reduceIte, Nat.reduceEqDiff, reduceCtorEq]
          refine behind ?_ _ ?_ ?_ ?_ ?_
          · rcases hend with e | ⟨m, x, c, e, h0, h1, h2, h4⟩
            · rw [e]; rfl
            · rw [e, addR_snoc, if_neg]
              intro q
              have q : (c + 1) * 1048576 = (i : Int) * 1048576 := q
              have := (h2.1 (by omega)).1
              exact hm2 (by rw [show ((i - 1 : Nat) : Int) = c by omega]; exact this)
          · simp only [sg_set, Nat.reduceEqDiff, ↓reduceIte]
          · simp only [t4, sg_set, Nat.reduceEqDiff, ↓reduceIte]
          · simp only [t11, sg_set, Nat.reduceEqDiff, ↓reduceIte]
          · simp only [sg_set, Nat.reduceEqDiff, ↓reduceIte]
    · rw [if_neg hm] at hms
      simp only [t4, t12, c1, w1, hia, hg, hp, hm, RX, VOp.fresh, bxC, bsC, un, most, callsOf, seval, Int.reducePow, ↓reduceIte, Nat.reduceEqDiff, reduceCtorEq]
      refine ih (i + 1) _ h k Q (by omega) hg ?_ ?_ hN ?_ ?_ ?_ hQ
      · simp only [sg_set, Nat.reduceEqDiff, ↓reduceIte]
        rw [hms]; exact r
      · simp only [sg_set, Nat.reduceEqDiff, ↓reduceIte]
        exact hq
      · simp only [t4, sg_set, Nat.reduceEqDiff, ↓reduceIte]
      · simp only [t11, sg_set, Nat.reduceEqDiff, ↓reduceIte]
      · simp only [sg_set, Nat.reduceEqDiff, ↓reduceIte]
theorem dof_pu (g : Pg P tab) (a b c d : Int) : Pu P 54 [.agg [.int .i64 a, .int .i64 b, .int .i64 c, .int .i64 d]] (fun v => (¬ bxOk a b c d ∧ v = .tup [.nils, .int .i64 600]) ∨ (bxOk a b c d ∧ v = .tup [tRgs (bxCov a b c d), .int .i64 0])) := by
  refine g.pu (vf := v54) rfl rfl ?_
  have e0 : v54.body = .seq (blk 0 v54.body) (.seq (blk 1 v54.body) (.seq (blk 2 v54.body) (rst 3 v54.body))) := rfl
  rw [e0]
  generalize hR : rst 3 v54.body = R
  simp only [v54, blk, RW, RX, VOp.fresh, bxC, bsC, un, most, callsOf, seval, Int.reducePow, ↓reduceIte, Nat.reduceEqDiff, reduceCtorEq, -List.reduceReplicate]
  refine (dboxMay_pu g a b c d).go rfl ?_
  rintro _ rfl
  by_cases ok : bxOk a b c d
  · obtain ⟨o1, o2, o3, o4, o5, o6, o7, o8, o9, o10⟩ := id ok
    have q1 : IntKind.i64.wrap (a.tdiv 67108864) = a / 67108864 := by rw [Int.tdiv_eq_ediv_of_nonneg o1]; exact w64 (by omega) (by omega)
    have q2 := fun a : Int => bin_quo (k := .i64) (a := a) (b := 67108864) (by decide)
    rw [← metC_nil]
    generalize hz : metC [] = mz
    simp only [ok, RW, RX, VOp.fresh, bxC, bsC, un, most, callsOf, seval, Int.reducePow, ↓reduceIte, Nat.reduceEqDiff, reduceCtorEq, -List.reduceReplicate]
    subst hR
    simp only [v54, rst, q1, q2, RW, RX, VOp.fresh, bxC, bsC, un, most, callsOf, seval, Int.reducePow, ↓reduceIte, Nat.reduceEqDiff, reduceCtorEq, -List.reduceReplicate]
    obtain ⟨N, hN⟩ : ∃ N, (a / 67108864).toNat + N = (c / 67108864).toNat + 1 := ⟨(c / 67108864).toNat + 1 - (a / 67108864).toNat, by omega⟩
    obtain ⟨m, hm⟩ : ∃ m, (b / 67108864).toNat + m = (d / 67108864).toNat + 1 := ⟨(d / 67108864).toNat + 1 - (b / 67108864).toNat, by omega⟩
    refine dof_grid g ok (bb := 0) (e0 := 96) (v0 := 0) (mb := 1) (m := m) (N := N) (K := 2) (by decide) rfl rfl hm hN N 0 _ _ 129 0 _ _ (by omega) (by rw [mk_next, mk_next]; omega) ?_ ?_ ?_ ?_ ?_ ?_ fun s' h' vm' hK hg t4 => ?_
    · rw [Heap.get_mk, if_pos rfl, ← hz]; rfl
    · rw [Heap.get_mk, if_neg (by decide), Heap.get_mk, if_pos rfl]
    · simp only [sg_set, Nat.reduceEqDiff, ↓reduceIte]
    · simp only [sg_set, Nat.reduceEqDiff, ↓reduceIte]
    · simp only [sg_set, Nat.reduceEqDiff, ↓reduceIte]
    · simp only [sg_set, Nat.reduceEqDiff, ↓reduceIte]
      refine congrArg (AV.int .i64) ?_
      omega
    · have eL : gridC (a / 67108864).toNat (b / 67108864).toNat m N = bxL a b c d := by
        unfold bxL
        rw [show (d / 67108864).toNat - (b / 67108864).toNat + 1 = m by omega, show (c / 67108864).toNat - (a / 67108864).toNat + 1 = N by omega]
      rw [eL] at hg
      simp only [RX, VOp.fresh, bxC, bsC, un, most, callsOf, seval, Int.reducePow, ↓reduceIte, Nat.reduceEqDiff, reduceCtorEq]
      obtain ⟨M, hM⟩ : ∃ M : Nat, M = 4096 := ⟨_, rfl⟩
      refine dof_out g (zs := bxL a b c d) (mb := 1) (em := 129) (vm := vm') (N0 := 2) (by decide) M 0 _ h' _ _ (by omega) hg ?_ ?_ ?_ ?_ ?_ ?_ fun s2 h2 r2 => ?_
      · simp only [sg_set, Nat.reduceEqDiff, ↓reduceIte]
        exact .nil _ _
      · simp only [sg_set, Nat.reduceEqDiff, ↓reduceIte]
        intro q hq; simp [blkOf] at hq
      · exact hK
      · simp only [t4, sg_set, Nat.reduceEqDiff, ↓reduceIte]
      · simp only [sg_set, Nat.reduceEqDiff, ↓reduceIte]
      · simp only [sg_set, Nat.reduceEqDiff, ↓reduceIte]
        rfl
      · simp only [RX, VOp.fresh, bxC, bsC, un, most, callsOf, seval, Int.reducePow, ↓reduceIte, Nat.reduceEqDiff, reduceCtorEq]
        rw [Nat.zero_add, cov_met ok hM] at r2
        exact ⟨_, r2.tup, .inr rfl⟩
  · simp only [ok, RW, RX, VOp.fresh, bxC, bsC, un, most, callsOf, seval, Int.reducePow, ↓reduceIte, Nat.reduceEqDiff, reduceCtorEq, -List.reduceReplicate]
    exact ⟨_, .tup (.cons .nils (.cons (.int _ _) .nil)), .inl rfl⟩
end
end Go.Proofs.Ythmkenkjfmbkiaa.VM
namespace Go.Proofs.Ythmkenkjfmbkiaa.VM
attribute [local irreducible] Af Nx EvO Ev Un Gd Cd EvR EvQ EvC Nc Gc Lp EvM NxM AfM GdM EvMR EvMQ EvMD EvMC Nm Gm
theorem cat_rcells : ∀ {l : Rgs} {c : List AV}, Cat RRg l c → c = rcells l
  | _, _, .nil => rfl
  | _, _, .cons (a := a) (l := l) h t => by rw [cat_rcells t, h.1]; rfl
theorem rg_row {w : AV} {x : Rgs} (h : IsL 16 RRg w x) : lenV w = some x.length ∧ ∀ hh : Heap, cellsOf hh 2 x.length w = some (rcells x) := by
  rcases h.2 with ⟨rfl, rfl⟩ | ⟨c, rfl, hc⟩
  · exact ⟨rfl, fun hh => rfl⟩
  · rw [cat_rcells hc]
    refine ⟨rfl, fun hh => ?_⟩
    show cut (rcells x) 0 (x.length * 2) = _
    rw [cut_eq, List.drop_zero, ← rcells_len, List.take_length, if_pos rfl]
def tRs (l : Rgs) : AV := .rs (rcells l) l.length
theorem tRs_is {w : AV} {x : Rgs} (h : IsL 16 RRg w x) : IsL 16 RRg (tRs x) x := isL_rs (rcells_cat h.rgs64) h.1
def mark7 : List AV := [.int .i64 77777, .int .i64 0, .int .i64 77777, .int .i64 0]
theorem lent_fz {h : Heap} {b e ver : Nat} {l : Rgs} (hg : h.get b = some (.cells (rcells l ++ mark7) e ver)) : Fz true h (.sl b 0 l.length (l.length + 2) 2) (tRs l) := by
  unfold tRs
  by_cases h0 : l.length = 0
  · rw [h0, List.eq_nil_of_length_eq_zero h0]; exact .sl0
  · refine .sl (by omega) hg (cs := rcells l) ?_ (Fzs.refl (rcells_told l))
    rw [cut_eq, List.drop_zero, ← rcells_len, List.take_left, if_pos rfl]
section
variable {P : Program}
theorem lend_cl (g : Pg P tab) {w : AV} {x : Rgs} (hw : IsL 16 RRg w x) {h : Heap} {Q : AV → Heap → Prop}
    (q : ∀ b h' e ver, h'.get b = some (.cells (rcells x ++ mark7) e ver) → h.next ≤ b → b < h'.next → Ext h h' → Q (.sl b 0 x.length (x.length + 2) 2) h') : Cl P 37 [w] h Q := by
  obtain ⟨r1, r2⟩ := rg_row hw
  have hbd := hw.1
  have e0 : reachBytes = 140737488351232 := rfl
  rw [e0] at hbd
  have hln := hw.len
  refine g.cl (vf := v37) rfl rfl ?_
  simp only [v37, RX, VOp.fresh, bxC, bsC, un, most, callsOf, seval, Int.reducePow, ↓reduceIte, Nat.reduceEqDiff, reduceCtorEq]
  refine Cl.mono (Q := fun v h1 => SRow h1 v 2 (rcells x) x.length ∧ Ext h h1 ∧ (∀ c ∈ blkOf v, h.next ≤ c) ∧ v ≠ .nils) ?_ fun v h1 hq => ?_
  · refine g.cl (vf := v62) rfl rfl ?_
    have x1 := Ext.mk (h := h) (.cells [] 104 0)
    have n1 : (h.mk' h.next (.cells [] 104 0)).next = h.next + 1 := by rw [mk_next]; omega
    have s0 : SRow (h.mk' h.next (.cells [] 104 0)) (.sl h.next 0 0 0 2) 2 [] 0 := .inr ⟨h.next, 104, 0, rfl, by omega, by rw [Heap.get_mk, if_pos rfl], rfl, rfl⟩
    obtain ⟨v', h3, e3, s3, hn, hb, hk⟩ := s0.app (r2 _) r1 (rcells_len x) (rcells_one x) (bytes := 16) (by unfold most2; omega) 104
    rw [List.nil_append, Nat.zero_add] at s3
    simp only [v62, e3, RX, VOp.fresh, bxC, bsC, un, most, callsOf, seval, Int.reducePow, ↓reduceIte, Nat.reduceEqDiff, reduceCtorEq]
    refine ⟨s3, ⟨by omega, fun c hc => by rw [hk c (by omega) (fun hm => by simp only [blkOf, List.mem_singleton] at hm; omega), x1.2 c hc]⟩, fun c hc => ?_, ?_⟩
    · rcases hb c hc with h1 | h1
      · simp only [blkOf, List.mem_singleton] at h1; omega
      · omega
    · intro e
      subst e
      simp only [appendV, r1, r2] at e3
      split at e3
      · simp only [Nat.beq_refl, cond_true] at e3
        split at e3
        · split at e3 <;> cases e3
        · split at e3
          · split at e3 <;> cases e3
          · cases e3
      · cases e3
  · obtain ⟨s3, x3, hb3, hv⟩ := hq
    have x4 := Ext.mk (h := h1) (.cells mark7 104 0)
    have n4 : (h1.mk' h1.next (.cells mark7 104 0)).next = h1.next + 1 := by rw [mk_next]; omega
    have g4 : (h1.mk' h1.next (.cells mark7 104 0)).get h1.next = some (.cells mark7 104 0) := by rw [Heap.get_mk, if_pos rfl]
    obtain ⟨v', h5, e5, s5, hn5, hb5, hk5⟩ := (s3.ext x4).app (x := .sl h1.next 0 2 2 2) (m := 2) (cells_of g4 rfl 2) rfl rfl rfl (bytes := 16) (by unfold most2; omega) 104
    rcases s5 with ⟨_, h0, _⟩ | ⟨b, eb, vb, rfl, hbn, hg, _⟩
    · omega
    have sl := slVhi (sz := 2) (b := b) (off := 0) (len := x.length + 2) (cap := x.length + 2) (hi := x.length) (k2 := .i64) (by omega)
    have hbb : h.next ≤ b := by
      rcases hb5 b (by simp [blkOf]) with h1 | h1
      · exact hb3 b h1
      · have := x3.1; omega
    have e5' : appendV (h1.mk' h1.next (.cells [.int .i64 77777, .int .i64 0, .int .i64 77777, .int .i64 0] 104 0)) 2 16 104 v (.sl h1.next 0 2 2 2) = some (.sl b 0 (x.length + 2) (x.length + 2) 2, h5) := e5
    simp only [hln, e5', sl, RX, VOp.fresh, bxC, bsC, un, most, callsOf, seval, Int.reducePow, ↓reduceIte, Nat.reduceEqDiff, reduceCtorEq]
    refine q b h5 eb vb hg hbb hbn ⟨by have := x3.1; omega, fun c hc => ?_⟩
    have := x3.1
    rw [hk5 c (by omega) (fun hm => by have := hb3 c hm; omega), x4.2 c (by omega), x3.2 c hc]
theorem kept_cl (g : Pg P tab) {w : AV} {x : Rgs} (hw : IsL 16 RRg w x) {h : Heap} {b e ver : Nat} (hg : h.get b = some (.cells (rcells x ++ mark7) e ver)) {Q : AV → Heap → Prop} (q : Q (.bool true) h) : Cl P 44 [.sl b 0 x.length (x.length + 2) 2, w] h Q := by
  have hbd := hw.bound (by decide)
  have hln := hw.len
  have w1 : IntKind.i64.wrap ((x.length : Int) + 2) = ((x.length + 2 : Nat) : Int) := by rw [w64 (by omega) (by omega)]; push_cast; rfl
  have w2 : IntKind.i64.wrap ((x.length : Int) + 1) = ((x.length + 1 : Nat) : Int) := by rw [w64 (by omega) (by omega)]; push_cast; rfl
  have sl := slVhi (sz := 2) (b := b) (off := 0) (len := x.length) (cap := x.length + 2) (hi := x.length + 2) (k2 := .i64) (by omega)
  have ia1 : ∀ hh : Heap, iaV hh 2 none (.sl b 0 (x.length + 2) (x.length + 2) 2) (.int .i64 (x.length : Int)) = .val (.ptr b (x.length * 2)) hh := fun hh => by
    rw [iaV_sl, if_pos ⟨by omega, by omega, rfl⟩, Int.toNat_natCast, Nat.zero_add]
  have ia2 : ∀ hh : Heap, iaV hh 2 none (.sl b 0 (x.length + 2) (x.length + 2) 2) (.int .i64 ((x.length + 1 : Nat) : Int)) = .val (.ptr b ((x.length + 1) * 2)) hh := fun hh => by
    rw [iaV_sl, if_pos ⟨by omega, by omega, rfl⟩, Int.toNat_natCast, Nat.zero_add]
  have d1 : (rcells x ++ mark7).drop (x.length * 2) = mark7 := List.drop_left' (rcells_len x)
  have d2 : (rcells x ++ mark7).drop ((x.length + 1) * 2) = [.int .i64 77777, .int .i64 0] := by
    rw [show (x.length + 1) * 2 = x.length * 2 + 2 by omega, ← List.drop_drop, d1]; rfl
  have p1 : part true (rcells x ++ mark7) (x.length * 2) 2 = some (.agg [.int .i64 77777, .int .i64 0]) := by simp only [part, cut, d1]; rfl
  have p2 : part true (rcells x ++ mark7) ((x.length + 1) * 2) 2 = some (.agg [.int .i64 77777, .int .i64 0]) := by simp only [part, cut, d2]; rfl
  refine g.cl (vf := v44) rfl rfl ?_
  simp only [v44, w1, sl, RX, VOp.fresh, bxC, bsC, un, most, callsOf, seval, Int.reducePow, ↓reduceIte, Nat.reduceEqDiff, reduceCtorEq]
  refine (same_pu g (tRs_is hw) hw).cl (.cons (lent_fz hg) (.cons (Fz.refl (hw.told tRg)) .nil)) ?_
  rintro _ rfl
  simp only [hln, ia1, ia2, hg, p1, p2, w2, flat2, RX, VOp.fresh, bxC, bsC, un, most, callsOf, seval, Int.reducePow, ↓reduceIte, Nat.reduceEqDiff, reduceCtorEq]
  exact q
end
end Go.Proofs.Ythmkenkjfmbkiaa.VM
namespace Go.Proofs.Ythmkenkjfmbkiaa.VM
attribute [local irreducible] Af Nx EvO Ev Un Gd Cd EvR EvQ EvC Nc Gc Lp EvM NxM AfM GdM EvMR EvMQ EvMD EvMC Nm Gm
section
variable {P : Program}
def aPt (p : Pt) : AV := .agg [.int .i64 p.x, .int .i64 p.y]
/-- what lay there lies there still -/
theorem pt_loop (g : Pg P tab) {ring : List Pt} {rv : AV} (hv : IsL 16 RPt rv ring) {yb : Nat} {J : List Pt → Heap → Prop} {Jx : Heap → Prop} (hJ : ∀ {pre h h'}, J pre h → Ext h h' → J pre h') (pre : List Pt)
    (hY : ∀ i h, i < ring.length → J (pre ++ ring.take i) h → Cl P (yf yb) [aPt (ring.getD i ⟨0, 0⟩)] h fun w h' => (w = .bool true ∧ J (pre ++ ring.take (i + 1)) h') ∨ (w = .bool false ∧ Jx h')) {v10 : AV} {i12 : Int} {n11 : Int} (n : Nat) :
    ∀ (j : Nat) (s : T AV) (h : Heap) (k : List Fr) (Q : Ex → T AV → Heap → Prop), j + n = ring.length → sg s 0 = .yld yb → sg s 16 = rv → sg s 17 = .int .i64 ring.length → sg s 18 = .int .i64 j → sg s 10 = v10 → sg s 11 = .int .i64 n11 → sg s 12 = .int .i64 i12 →
    J (pre ++ ring.take j) h →
    (∀ s' h', sg s' 0 = .yld yb → sg s' 10 = v10 → sg s' 11 = .int .i64 n11 → sg s' 12 = .int .i64 i12 → J (pre ++ ring) h' → Un P k Q (.exit 2) s' h') → (∀ s' h', Jx h' → Un P k Q .ret s' h') → Lp P b118_0 s h (Un P k Q) := by
  have hbd := hv.bound (by decide)
  induction n with
  | zero =>
    intro j s h k Q hn t0 t16 t17 t18 t10 t11 t12 hj hK hR
    refine g.lpe b118_0.eq_1 ?_
    have c1 : ¬ ((j : Int) < (ring.length : Int)) := by omega
    simp only [t17, t18, c1, RX, VOp.fresh, bxC, bsC, un, most, callsOf, seval, Int.reducePow, ↓reduceIte, Nat.reduceEqDiff, reduceCtorEq]
    rw [List.take_of_length_le (by omega)] at hj
    refine hK _ _ ?_ ?_ ?_ ?_ hj
    · simp only [t0, sg_set, Nat.reduceEqDiff, ↓reduceIte]
    · simp only [t10, sg_set, Nat.reduceEqDiff, ↓reduceIte]
    · simp only [t11, sg_set, Nat.reduceEqDiff, ↓reduceIte]
    · simp only [t12, sg_set, Nat.reduceEqDiff, ↓reduceIte]
  | succ n ih =>
    intro j s h k Q hn t0 t16 t17 t18 t10 t11 t12 hj hK hR
    refine g.lpe b118_0.eq_1 ?_
    have c1 : (j : Int) < (ring.length : Int) := by omega
    have w1 : IntKind.i64.wrap ((j : Int) + 1) = ((j + 1 : Nat) : Int) := by rw [w64 (by omega) (by omega)]; push_cast; rfl
    obtain ⟨r1, _, g1⟩ := getPt hv j (by omega)
    simp only [t0, t16, t17, t18, c1, g1, RW, RX, VOp.fresh, bxC, bsC, un, most, callsOf, seval, Int.reducePow, ↓reduceIte, Nat.reduceEqDiff, reduceCtorEq]
    have x1 : Ext h ((h.mk' h.next (.cells [.int .i64 0, .int .i64 0] 61 0)).put h.next (.cells [.int .i64 (ring.getD j ⟨0, 0⟩).x, .int .i64 (ring.getD j ⟨0, 0⟩).y] 61 1)) := ⟨by rw [put_next, mk_next]; omega, fun b hb => by rw [Heap.get_put, if_neg (by omega), Heap.get_mk, if_neg (by omega)]⟩
    refine (hY j _ (by omega) (hJ hj x1)).mono ?_
    rintro w h2 (⟨rfl, hj2⟩ | ⟨rfl, hx⟩)
    · simp only [t18, w1, RX, VOp.fresh, bxC, bsC, un, most, callsOf, seval, Int.reducePow, ↓reduceIte, Nat.reduceEqDiff, reduceCtorEq]
      refine ih (j + 1) _ _ k Q (by omega) ?_ ?_ ?_ ?_ ?_ ?_ ?_ hj2 hK hR
      · simp only [t0, sg_set, Nat.reduceEqDiff, ↓reduceIte]
      · simp only [t16, sg_set, Nat.reduceEqDiff, ↓reduceIte]
      · simp only [t17, sg_set, Nat.reduceEqDiff, ↓reduceIte]
      · simp only [sg_set, Nat.reduceEqDiff, ↓reduceIte]
      · simp only [t10, sg_set, Nat.reduceEqDiff, ↓reduceIte]
      · simp only [t11, sg_set, Nat.reduceEqDiff, ↓reduceIte]
      · simp only [t12, sg_set, Nat.reduceEqDiff, ↓reduceIte]
    · simp only [RX, VOp.fresh, bxC, bsC, un, most, callsOf, seval, Int.reducePow, ↓reduceIte, Nat.reduceEqDiff, reduceCtorEq]
      exact hR _ _ hx
theorem pts_loop (g : Pg P tab) {rs : List (List Pt)} {v : AV} (hv : IsL 24 RRing v rs) {yb : Nat} {J : List Pt → Heap → Prop} {Jx : Heap → Prop} (hJ : ∀ {pre h h'}, J pre h → Ext h h' → J pre h')
    (hY : ∀ pre p h, pre ++ [p] <+: rs.flatten → J pre h → Cl P (yf yb) [aPt p] h fun w h' => (w = .bool true ∧ J (pre ++ [p]) h') ∨ (w = .bool false ∧ Jx h')) (n : Nat) :
    ∀ (i : Nat) (s : T AV) (h : Heap) (k : List Fr) (Q : Ex → T AV → Heap → Prop), i + n = rs.length → sg s 0 = .yld yb → sg s 10 = v → sg s 11 = .int .i64 rs.length → sg s 12 = .int .i64 i →
    J (rs.take i).flatten h → (∀ s' h', J rs.flatten h' → Un P k Q (.exit 0) s' h') → (∀ s' h', Jx h' → Un P k Q .ret s' h') → Lp P b118_1 s h (Un P k Q) := by
  have hbd := hv.bound (by decide)
  induction n with
  | zero =>
    intro i s h k Q hn t0 t10 t11 t12 hj hK hR
    refine g.lpe b118_1.eq_1 ?_
    have c1 : ¬ ((i : Int) < (rs.length : Int)) := by omega
    simp only [t11, t12, c1, RX, VOp.fresh, bxC, bsC, un, most, callsOf, seval, Int.reducePow, ↓reduceIte, Nat.reduceEqDiff, reduceCtorEq]
    rw [List.take_of_length_le (by omega)] at hj
    exact hK _ _ hj
  | succ n ih =>
    intro i s h k Q hn t0 t10 t11 t12 hj hK hR
    refine g.lpe b118_1.eq_1 ?_
    have c1 : (i : Int) < (rs.length : Int) := by omega
    have w1 : IntKind.i64.wrap ((i : Int) + 1) = ((i + 1 : Nat) : Int) := by rw [w64 (by omega) (by omega)]; push_cast; rfl
    obtain ⟨rv, r1, hrv, _, g1⟩ := getRing hv i (by omega)
    have hi : i < rs.length := by omega
    have e1 : rs.getD i [] = rs[i] := getD_ring hi
    have ef : (rs.take (i + 1)).flatten = (rs.take i).flatten ++ rs.getD i [] := by
      rw [List.take_succ_eq_append_getElem hi, List.flatten_append, e1]; simp
    have eg : rs.flatten = (rs.take (i + 1)).flatten ++ (rs.drop (i + 1)).flatten := by
      rw [← List.flatten_append, List.take_append_drop]
    simp only [t0, t10, t11, t12, c1, g1, hrv.len, RX, VOp.fresh, bxC, bsC, un, most, callsOf, seval, Int.reducePow, ↓reduceIte, Nat.reduceEqDiff, reduceCtorEq]
    refine pt_loop g hrv (yb := yb) (J := J) (Jx := Jx) hJ (rs.take i).flatten (v10 := v) (i12 := i) (n11 := rs.length) (fun j h hjl hj => ?_) (rs.getD i []).length 0 _ _ _ _ (by omega) ?_ ?_ ?_ ?_ ?_ ?_ ?_ (by simpa using hj) (fun s' h' u0 u10 u11 u12 hj' => ?_) (fun s' h' hx => ?_)
    · have et : (rs.getD i []).take (j + 1) = (rs.getD i []).take j ++ [(rs.getD i []).getD j ⟨0, 0⟩] := by
        rw [List.take_succ_eq_append_getElem hjl, getP hjl]
      rw [et, ← List.append_assoc]
      refine hY _ _ h ?_ hj
      rw [List.append_assoc, ← et, eg, ef]
      exact ⟨(rs.getD i []).drop (j + 1) ++ (rs.drop (i + 1)).flatten, by rw [List.append_assoc, ← List.append_assoc ((rs.getD i []).take (j + 1)), List.take_append_drop, List.append_assoc]⟩
    · simp only [t0, sg_set, Nat.reduceEqDiff, ↓reduceIte]
    · simp only [sg_set, Nat.reduceEqDiff, ↓reduceIte]
    · simp only [sg_set, Nat.reduceEqDiff, ↓reduceIte]
    · simp only [sg_set, Nat.reduceEqDiff, ↓reduceIte]
      rfl
    · simp only [t10, sg_set, Nat.reduceEqDiff, ↓reduceIte]
    · simp only [t11, sg_set, Nat.reduceEqDiff, ↓reduceIte]
    · simp only [t12, sg_set, Nat.reduceEqDiff, ↓reduceIte]
    · simp only [u12, w1, RX, VOp.fresh, bxC, bsC, un, most, callsOf, seval, Int.reducePow, ↓reduceIte, Nat.reduceEqDiff, reduceCtorEq]
      refine ih (i + 1) _ _ k Q (by omega) ?_ ?_ ?_ ?_ (by rw [ef]; exact hj') hK hR
      · simp only [u0, sg_set, Nat.reduceEqDiff, ↓reduceIte]
      · simp only [u10, sg_set, Nat.reduceEqDiff, ↓reduceIte]
      · simp only [u11, sg_set, Nat.reduceEqDiff, ↓reduceIte]
      · simp only [sg_set, Nat.reduceEqDiff, ↓reduceIte]
    · simp only [RX, VOp.fresh, bxC, bsC, un, most, callsOf, seval, Int.reducePow, ↓reduceIte, Nat.reduceEqDiff, reduceCtorEq]
      exact hR _ _ hx
/-- the iterator over all points -/
theorem pts_cl (g : Pg P tab) {rs : List (List Pt)} {v a0 a1 : AV} (hv : IsL 24 RRing v rs) {yb bb fb e1 e2 n1 n2 : Nat} {J : List Pt → Heap → Prop} {Jx : Heap → Prop} (hJ : ∀ {pre h h'}, J pre h → Ext h h' → J pre h')
    (hY : ∀ pre p h, pre ++ [p] <+: rs.flatten → J pre h → Cl P (yf yb) [aPt p] h fun w h' => (w = .bool true ∧ J (pre ++ [p]) h') ∨ (w = .bool false ∧ Jx h'))
    {h : Heap} (g1 : h.get bb = some (.cells [.ptr fb 0] e1 n1)) (g2 : h.get fb = some (.cells [a0, a1, v] e2 n2)) (hj : J [] h) :
    Cl P 118 [.yld yb, .ptr bb 0] h fun _ h' => J rs.flatten h' ∨ Jx h' := by
  refine g.cl (vf := v118) rfl rfl ?_
  simp only [v118, g1, g2, hv.len, RX, VOp.fresh, bxC, bsC, un, most, callsOf, seval, Int.reducePow, ↓reduceIte, Nat.reduceEqDiff, reduceCtorEq]
  refine pts_loop g hv (J := J) (Jx := Jx) hJ hY rs.length 0 _ _ _ _ (by omega) ?_ ?_ ?_ ?_ (by simpa using hj) (fun s' h' hj' => ?_) (fun s' h' hx => ?_)
  · simp only [sg_set, Nat.reduceEqDiff, ↓reduceIte]
  · simp only [sg_set, Nat.reduceEqDiff, ↓reduceIte]
  · simp only [sg_set, Nat.reduceEqDiff, ↓reduceIte]
  · simp only [sg_set, Nat.reduceEqDiff, ↓reduceIte]
    rfl
  · simp only [v118, RX, VOp.fresh, bxC, bsC, un, most, callsOf, seval, Int.reducePow, ↓reduceIte, Nat.reduceEqDiff, reduceCtorEq]
    exact .inl hj'
  · simp only [v118, RX, VOp.fresh, bxC, bsC, un, most, callsOf, seval, Int.reducePow, ↓reduceIte, Nat.reduceEqDiff, reduceCtorEq]
    exact .inr hx
theorem pts_mk (g : Pg P tab) {fb : Nat} {h : Heap} : Cl P 90 [.ptr fb 0] h fun w h' => w = .fn 118 [.ptr h.next 0] ∧ h' = h.mk' h.next (.cells [.ptr fb 0] 139 0) := by
  refine g.cl (vf := v90) rfl rfl ?_
  simp only [v90, RX, VOp.fresh, bxC, bsC, un, most, callsOf, seval, Int.reducePow, ↓reduceIte, Nat.reduceEqDiff, reduceCtorEq]
end
end Go.Proofs.Ythmkenkjfmbkiaa.VM
namespace Go.Proofs.Ythmkenkjfmbkiaa.VM
attribute [local irreducible] Af Nx EvO Ev Un Gd Cd EvR EvQ EvC Nc Gc Lp EvM NxM AfM GdM EvMR EvMQ EvMD EvMC Nm Gm
def aBx (b : Bx) : AV := .agg [.int .i64 b.x0, .int .i64 b.y0, .int .i64 b.x1, .int .i64 b.y1]
def imn (x y : Int) : Int := if y < x then y else x
def imx (x y : Int) : Int := if y > x then y else x
def bxPt (p : Pt) : Bx := ⟨p.x, p.y, p.x, p.y⟩
def bxJ (a b : Bx) : Bx := ⟨imn a.x0 b.x0, imn a.y0 b.y0, imx a.x1 b.x1, imx a.y1 b.y1⟩
def bxAll (l : List Pt) (b : Bx) : Bx := l.foldl (fun b p => bxJ b (bxPt p)) b
def fPts (f : Feat) : List Pt := f.rings.flatten
def fBox (f : Feat) : Bx := bxAll (fPts f) (bxPt ((f.rings.getD 0 []).getD 0 ⟨0, 0⟩))
def bOk (b : Bx) : Prop := bxOk b.x0 b.y0 b.x1 b.y1
instance (b : Bx) : Decidable (bOk b) := by unfold bOk; infer_instance
theorem imn_le (x y : Int) : imn x y ≤ x ∧ imn x y ≤ y ∧ (imn x y = x ∨ imn x y = y) := by unfold imn; split <;> omega
theorem imx_le (x y : Int) : x ≤ imx x y ∧ y ≤ imx x y ∧ (imx x y = x ∨ imx x y = y) := by unfold imx; split <;> omega
theorem bxJ_ok {a b : Bx} (h : bOk a) (k : bOk b) : bOk (bxJ a b) := by
  unfold bOk bxOk at *
  have h1 := imn_le a.x0 b.x0
  have h2 := imn_le a.y0 b.y0
  have h3 := imx_le a.x1 b.x1
  have h4 := imx_le a.y1 b.y1
  simp only [bxJ]
  omega
theorem bxPt_ok {p : Pt} (h : ptOk p) : bOk (bxPt p) := by
  unfold bOk bxOk bxPt
  unfold ptOk coordOk at h
  simp only
  omega
theorem featOk.first {f : Feat} (h : featOk f) : 0 < f.rings.length ∧ 0 < (f.rings.getD 0 []).length := by
  obtain ⟨_, _, h1, _, h2⟩ := h
  refine ⟨by omega, ?_⟩
  rcases h2 with ⟨_, _, h3, _⟩ | ⟨_, _, h3⟩ | ⟨_, h3⟩
  · omega
  · have := h3.1; omega
  · have := (h3 0 (by omega)).1; omega
theorem featOk.pts {f : Feat} (h : featOk f) : ∀ p ∈ fPts f, ptOk p := by
  intro p hp
  obtain ⟨_, _, h1, _, h2⟩ := h
  obtain ⟨r, hr, hp⟩ := List.mem_flatten.1 hp
  obtain ⟨i, hi, rfl⟩ := List.getElem_of_mem hr
  obtain ⟨j, hj, rfl⟩ := List.getElem_of_mem hp
  have e : f.rings.getD i [] = f.rings[i] := getD_ring hi
  rcases h2 with ⟨_, h3, h4, h5⟩ | ⟨_, h3, h4⟩ | ⟨_, h3⟩
  · obtain rfl : i = 0 := by omega
    rw [e] at h4 h5
    obtain rfl : j = 0 := by omega
    rwa [getP hj] at h5
  · obtain rfl : i = 0 := by omega
    rw [e] at h4
    have := (h4.2.2 j hj).1
    rwa [getP hj] at this
  · have h4 := h3 i hi
    rw [e] at h4
    have := (h4.2.2 j hj).1
    rwa [getP hj] at this
theorem fmin {k : IntKind} {x y : Int} : foldO min2 (.int k x) [.int k y] = some (.int k (imn x y)) := rfl
theorem fmax {k : IntKind} {x y : Int} : foldO max2 (.int k x) [.int k y] = some (.int k (imx x y)) := rfl
section
variable {P : Program}
theorem between_pu (g : Pg P tab) (p q : Pt) : Pu P 89 [aPt p, aPt q] (fun v => v = aBx ⟨imn p.x q.x, imn p.y q.y, imx p.x q.x, imx p.y q.y⟩) := by
  refine g.pu (vf := v89) rfl rfl ?_
  simp only [v89, aPt, aBx, fmin, fmax, RW, RX, VOp.fresh, bxC, bsC, un, most, callsOf, seval, Int.reducePow, ↓reduceIte, Nat.reduceEqDiff, reduceCtorEq]
  exact ⟨_, .agg (scals_fz rfl), rfl⟩
theorem join_pu (g : Pg P tab) (a b : Bx) : Pu P 91 [aBx a, aBx b] (fun v => v = if bOk a ∧ bOk b then .tup [aBx (bxJ a b), .int .i64 0] else .tup [aBx ⟨0, 0, 0, 0⟩, .int .i64 300]) := by
  refine g.pu (vf := v91) rfl rfl ?_
  simp only [v91, aBx, RW, RX, VOp.fresh, bxC, bsC, un, most, callsOf, seval, Int.reducePow, ↓reduceIte, Nat.reduceEqDiff, reduceCtorEq]
  refine (boxMay_pu g a.x0 a.y0 a.x1 a.y1).go rfl ?_
  rintro _ rfl
  by_cases ha : bOk a
  · have ha' : decide (bxOk a.x0 a.y0 a.x1 a.y1) = true := decide_eq_true ha
    rw [ha']
    simp only [RX, VOp.fresh, bxC, bsC, un, most, callsOf, seval, Int.reducePow, ↓reduceIte, Nat.reduceEqDiff, reduceCtorEq]
    refine (boxMay_pu g b.x0 b.y0 b.x1 b.y1).go rfl ?_
    rintro _ rfl
    by_cases hb : bOk b
    · have hb' : decide (bxOk b.x0 b.y0 b.x1 b.y1) = true := decide_eq_true hb
      rw [hb']
      simp only [fmin, fmax, bxJ, ha, hb, RW, RX, VOp.fresh, bxC, bsC, un, most, callsOf, seval, Int.reducePow, ↓reduceIte, Nat.reduceEqDiff, reduceCtorEq]
      exact ⟨_, .tup (.cons (.agg (scals_fz rfl)) (.cons (.int _ _) .nil)), rfl⟩
    · have hb' : decide (bxOk b.x0 b.y0 b.x1 b.y1) = false := decide_eq_false hb
      rw [hb']
      simp only [ha, hb, RW, RX, VOp.fresh, bxC, bsC, un, most, callsOf, seval, Int.reducePow, ↓reduceIte, Nat.reduceEqDiff, reduceCtorEq]
      exact ⟨_, .tup (.cons (.agg (scals_fz rfl)) (.cons (.int _ _) .nil)), rfl⟩
  · have ha' : decide (bxOk a.x0 a.y0 a.x1 a.y1) = false := decide_eq_false ha
    rw [ha']
    simp only [ha, RW, RX, VOp.fresh, bxC, bsC, un, most, callsOf, seval, Int.reducePow, ↓reduceIte, Nat.reduceEqDiff, reduceCtorEq]
    exact ⟨_, .tup (.cons (.agg (scals_fz rfl)) (.cons (.int _ _) .nil)), rfl⟩
theorem bxAll_ok : ∀ {l : List Pt} {b : Bx}, (∀ p ∈ l, ptOk p) → bOk b → bOk (bxAll l b)
  | [], _, _, h => h
  | p :: l, b, hl, h => bxAll_ok (l := l) (fun q hq => hl q (.tail _ hq)) (bxJ_ok h (bxPt_ok (hl p (.head _))))
theorem bxAll_snoc (l : List Pt) (p : Pt) (b : Bx) : bxAll (l ++ [p]) b = bxJ (bxAll l b) (bxPt p) := by simp [bxAll]
/-- where the rounds stand -/
structure BoxJ (r : LoopB) (N ob tb : Nat) (b0 : Bx) (pre : List Pt) (h : Heap) : Prop where
  lt : N < h.next ∧ ob < N ∧ tb < N ∧ ob ≠ tb
  lp : h.get N = some (.loop r)
  out : ∃ ver, h.get ob = some (.cells [.int .i64 0, .int .i64 0, .int .i64 0, .int .i64 0] 96 ver)
  box : ∃ ver, h.get tb = some (.cells [.int .i64 (bxAll pre b0).x0, .int .i64 (bxAll pre b0).y0, .int .i64 (bxAll pre b0).x1, .int .i64 (bxAll pre b0).y1] 96 ver)
theorem BoxJ.ext {r : LoopB} {N ob tb : Nat} {b0 : Bx} {pre : List Pt} {h h' : Heap} (j : BoxJ r N ob tb b0 pre h) (x : Ext h h') : BoxJ r N ob tb b0 pre h' := by
  obtain ⟨h1, h2, h3, h4⟩ := j.lt
  refine ⟨⟨Nat.lt_of_lt_of_le h1 x.1, h2, h3, h4⟩, by rw [x.2 _ h1]; exact j.lp, ?_, ?_⟩
  · obtain ⟨v, e⟩ := j.out
    exact ⟨v, by rw [x.2 _ (by omega)]; exact e⟩
  · obtain ⟨v, e⟩ := j.box
    exact ⟨v, by rw [x.2 _ (by omega)]; exact e⟩
theorem box_round (g : Pg P tab) {s : T AV} {N ob tb : Nat} (t4 : sg s 4 = .ptr tb 0) {b0 : Bx} (hb0 : bOk b0) {pre : List Pt} {p : Pt} (hpre : ∀ q ∈ pre, ptOk q) (hp : ptOk p) {r : LoopB} (hr : r = ⟨P, s, [24], b68_0, b68_1, 0, none⟩) {h : Heap} (j : BoxJ r N ob tb b0 pre h) :
    Cl P (yf N) [aPt p] h fun w h' => (w = .bool true ∧ BoxJ r N ob tb b0 (pre ++ [p]) h') ∨ (w = .bool false ∧ False) := by
  obtain ⟨l1, l2, l3, l4⟩ := j.lt
  refine yield_cl g.hm j.lp (by rw [hr]) (by rw [hr]) (by rw [hr]) (by rw [hr]; rfl) (by rw [hr]; rfl) (by rw [hr]; rfl) ?_
  rw [show r.asg = b68_0 by rw [hr], show r.body = b68_1 by rw [hr], show setps r.ps [aPt p] r.s = s.set 24 (aPt p) by rw [hr]; rfl]
  simp only [b68_0, aPt, RW, RX, VOp.fresh, bxC, bsC, un, most, callsOf, seval, Int.reducePow, ↓reduceIte, Nat.reduceEqDiff, reduceCtorEq]
  have e1 : ¬ N = h.next := by omega
  have e2 : ¬ tb = h.next := by omega
  have e3 : ¬ tb = N := by omega
  have e4 : ¬ h.next = N := by omega
  obtain ⟨vo, go⟩ := j.out
  obtain ⟨vb, gb⟩ := j.box
  refine ⟨by simp only [e1, if_false]; exact j.lp, ?_⟩
  obtain ⟨h1, eh1⟩ : ∃ h1, h1 = (((h.mk' h.next (.cells [.int .i64 0, .int .i64 0] 61 0)).put h.next (.cells [.int .i64 p.x, .int .i64 p.y] 61 1)).put N (.loop r.busy)) := ⟨_, rfl⟩
  have k1 : h1.get h.next = some (.cells [.int .i64 p.x, .int .i64 p.y] 61 1) := by rw [eh1, Heap.get_put, if_neg e4, Heap.get_put, if_pos rfl]
  have k2 : h1.get tb = h.get tb := by rw [eh1, Heap.get_put, if_neg e3, Heap.get_put, if_neg e2, Heap.get_mk, if_neg e2]
  have k3 : h1.get N = some (.loop r.busy) := by rw [eh1, Heap.get_put, if_pos rfl]
  rw [← eh1]
  have ie : ∀ x : Int, imn x x = x ∧ imx x x = x := fun x => by unfold imn imx; constructor <;> split <;> rfl
  have hB := bxAll_ok hpre hb0
  generalize hBe : bxAll pre b0 = B at gb hB
  have o89 : OK P 89 [.agg [.int .i64 p.x, .int .i64 p.y], .agg [.int .i64 p.x, .int .i64 p.y]] h1 (.agg [.int .i64 p.x, .int .i64 p.y, .int .i64 p.x, .int .i64 p.y]) h1 := by
    have := (between_pu g p p).exact (h := h1) rfl
    rwa [(ie p.x).1, (ie p.x).2, (ie p.y).1, (ie p.y).2] at this
  have o91 : OK P 91 [.agg [.int .i64 B.x0, .int .i64 B.y0, .int .i64 B.x1, .int .i64 B.y1], .agg [.int .i64 p.x, .int .i64 p.y, .int .i64 p.x, .int .i64 p.y]] h1 (.tup [.agg [.int .i64 (bxJ B (bxPt p)).x0, .int .i64 (bxJ B (bxPt p)).y0, .int .i64 (bxJ B (bxPt p)).x1, .int .i64 (bxJ B (bxPt p)).y1], .int .i64 0]) h1 := by
    have := (join_pu g B (bxPt p)).exact (h := h1) rfl
    rwa [if_pos ⟨hB, bxPt_ok hp⟩] at this
  obtain ⟨c, c1, c2⟩ : ∃ c : Nat → List AV → Heap → AV × Heap, (∀ a h, c 89 a h = (.agg [.int .i64 p.x, .int .i64 p.y, .int .i64 p.x, .int .i64 p.y], h)) ∧ (∀ a h, c 91 a h = (.tup [.agg [.int .i64 (bxJ B (bxPt p)).x0, .int .i64 (bxJ B (bxPt p)).y0, .int .i64 (bxJ B (bxPt p)).x1, .int .i64 (bxJ B (bxPt p)).y1], .int .i64 0], h)) :=
    ⟨fun f _ h => if f = 89 then (.agg [.int .i64 p.x, .int .i64 p.y, .int .i64 p.x, .int .i64 p.y], h) else (.tup [.agg [.int .i64 (bxJ B (bxPt p)).x0, .int .i64 (bxJ B (bxPt p)).y0, .int .i64 (bxJ B (bxPt p)).x1, .int .i64 (bxJ B (bxPt p)).y1], .int .i64 0], h), fun _ _ => rfl, fun _ _ => rfl⟩
  simp only [b68_1, RW, RX, VOp.fresh, bxC, bsC, un, most, callsOf, seval, Int.reducePow, ↓reduceIte, Nat.reduceEqDiff, reduceCtorEq]
  refine EvD.sameN 5 c rfl ?_
  simp only [t4, k1, k2, gb, c1, c2, o89, o91, RW, RX, VOp.fresh, bxC, bsC, un, most, callsOf, seval, Int.reducePow, ↓reduceIte, Nat.reduceEqDiff, reduceCtorEq]
  have hn1 : h1.next = h.next + 1 := by rw [eh1, put_next, put_next, mk_next]; omega
  have ko : h1.get ob = h.get ob := by rw [eh1, Heap.get_put, if_neg (by omega), Heap.get_put, if_neg (by omega), Heap.get_mk, if_neg (by omega)]
  refine ⟨by rw [if_neg (fun e => e3 e.symm)]; exact k3, .inl ⟨rfl, ⟨?_, ?_, ⟨vo, ?_⟩, ⟨vb + 1, ?_⟩⟩⟩⟩
  · rw [put_next, put_next, hn1]; omega
  · rw [Heap.get_put, if_pos rfl]
  · rw [Heap.get_put, if_neg (by omega), Heap.get_put, if_neg l4, ko]; exact go
  · rw [Heap.get_put, if_neg e3, Heap.get_put, if_pos rfl, bxAll_snoc, hBe]
theorem box_go (g : Pg P tab) {f : Feat} {v a0 a1 : AV} (hv : IsL 24 RRing v f.rings) (ho : featOk f) {s : T AV} {N M fb ob tb e1 n1 e2 n2 n3 n4 : Nat} (t4 : sg s 4 = .ptr tb 0) {h : Heap} (hN : h.next = N) (gM : h.get M = some (.cells [.ptr fb 0] e1 n1)) (gf : h.get fb = some (.cells [a0, a1, v] e2 n2))
    (l0 : M < N ∧ fb < N ∧ ob < N ∧ tb < N ∧ ob ≠ tb) (go1 : h.get ob = some (.cells [.int .i64 0, .int .i64 0, .int .i64 0, .int .i64 0] 96 n3)) {b0 : Bx} (hb0 : bOk b0) (gb : h.get tb = some (.cells [.int .i64 b0.x0, .int .i64 b0.y0, .int .i64 b0.x1, .int .i64 b0.y1] 96 n4)) {Q : Ex → T AV → Heap → Prop}
    (hQ : ∀ h' v1 v2, h'.get ob = some (.cells [.int .i64 0, .int .i64 0, .int .i64 0, .int .i64 0] 96 v1) → h'.get tb = some (.cells [.int .i64 (bxAll (fPts f) b0).x0, .int .i64 (bxAll (fPts f) b0).y0, .int .i64 (bxAll (fPts f) b0).x1, .int .i64 (bxAll (fPts f) b0).y1] 96 v2) → Q .normal s h') :
    118 < YB ∧ Cl P 118 [.yld N, .ptr M 0] (h.mk' N (.loop ⟨P, s, [24], b68_0, b68_1, 0, none⟩)) fun _ h2 => LoopEnd N s h2 Q := by
  obtain ⟨q1, q2, q3, q4, q5⟩ := l0
  refine ⟨by decide, ?_⟩
  obtain ⟨r, hr⟩ : ∃ r : LoopB, r = ⟨P, s, [24], b68_0, b68_1, 0, none⟩ := ⟨_, rfl⟩
  rw [← hr]
  refine (pts_cl g hv (bb := M) (fb := fb) (e1 := e1) (n1 := n1) (e2 := e2) (n2 := n2) (a0 := a0) (a1 := a1) (J := BoxJ r N ob tb b0) (Jx := fun _ => False) (fun j x => j.ext x) (fun pre p h hpre j => ?_) ?_ ?_ ?_).mono fun _ h2 hj => ?_
  · have hm : ∀ q ∈ pre ++ [p], ptOk q := fun q hq => ho.pts q (hpre.subset hq)
    exact box_round g t4 hb0 (fun q hq => hm q (List.mem_append_left _ hq)) (hm p (by simp)) hr j
  · rw [Heap.get_mk, if_neg (by omega)]; exact gM
  · rw [Heap.get_mk, if_neg (by omega)]; exact gf
  · refine ⟨⟨by rw [← hN, mk_next]; omega, q3, q4, q5⟩, by rw [Heap.get_mk, if_pos rfl], ⟨n3, ?_⟩, ⟨n4, ?_⟩⟩
    · rw [Heap.get_mk, if_neg (by omega)]; exact go1
    · rw [Heap.get_mk, if_neg (by omega)]; exact gb
  · rcases hj with j | hf
    · unfold LoopEnd
      rw [j.lp]
      obtain ⟨v1, g1⟩ := j.out
      obtain ⟨v2, g2⟩ := j.box
      have hfin : Q .normal s (h2.put N .dead) := hQ _ v1 v2 (by rw [Heap.get_put, if_neg (by omega)]; exact g1) (by rw [Heap.get_put, if_neg (by omega)]; exact g2)
      rw [hr]
      exact ⟨rfl, hfin⟩
    · exact hf.elim
/-- the rounds: each point joined -/
theorem box_pu (g : Pg P tab) {f : Feat} {v : AV} (hv : IsL 24 RRing v f.rings) : Pu P 68 [.agg [.int .i64 f.id, .int .i64 f.shape, v]] (fun w => (¬ featOk f ∧ w = .tup [aBx ⟨0, 0, 0, 0⟩, .int .i64 400]) ∨ (featOk f ∧ w = .tup [aBx (fBox f), .int .i64 0])) := by
  refine g.pu (vf := v68) rfl rfl ?_
  simp only [v68, RW, RX, VOp.fresh, bxC, bsC, un, most, callsOf, seval, Int.reducePow, ↓reduceIte, Nat.reduceEqDiff, reduceCtorEq]
  refine (shapeMay_pu g hv).go (by simp [AV.tolds, AV.told, hv.told tRing]) ?_
  rintro _ ⟨b, rfl, hb⟩
  cases b with
  | false =>
    have ho : ¬ featOk f := fun h => by have := hb.2 h; cases this
    simp only [RW, RX, VOp.fresh, bxC, bsC, un, most, callsOf, seval, Int.reducePow, ↓reduceIte, Nat.reduceEqDiff, reduceCtorEq]
    exact ⟨_, .tup (.cons (.agg (scals_fz rfl)) (.cons (.int _ _) .nil)), .inl ⟨ho, rfl⟩⟩
  | true =>
    have ho : featOk f := hb.1 rfl
    obtain ⟨h0, h1⟩ := ho.first
    obtain ⟨rv, r1, hrv, t1, g1⟩ := getRing hv 0 h0
    obtain ⟨r2, t2, g2⟩ := getPt hrv 0 h1
    simp only [Int.natCast_zero, Int.ofNat_zero, Int.ofNat_eq_natCast] at g1 g2
    simp only [g1, g2, RW, RX, VOp.fresh, bxC, bsC, un, most, callsOf, seval, Int.reducePow, ↓reduceIte, Nat.reduceEqDiff, reduceCtorEq]
    obtain ⟨p0, hp0⟩ : ∃ p0, (f.rings.getD 0 []).getD 0 ⟨0, 0⟩ = p0 := ⟨_, rfl⟩
    rw [hp0]
    refine (between_pu g p0 p0).go rfl ?_
    rintro _ rfl
    have ie : ∀ x : Int, imn x x = x ∧ imx x x = x := fun x => by unfold imn imx; constructor <;> split <;> rfl
    simp only [(ie p0.x).1, (ie p0.x).2, (ie p0.y).1, (ie p0.y).2, aBx]
    simp only [RW, RX, VOp.fresh, bxC, bsC, un, most, callsOf, seval, Int.reducePow, ↓reduceIte, Nat.reduceEqDiff, reduceCtorEq]
    refine (pts_mk g).mono ?_
    rintro _ _ ⟨rfl, rfl⟩
    simp only [RW, RX, VOp.fresh, bxC, bsC, un, most, callsOf, seval, Int.reducePow, ↓reduceIte, Nat.reduceEqDiff, reduceCtorEq]
    refine box_go g (f := f) (a0 := .int .i64 f.id) (a1 := .int .i64 f.shape) (ob := 1) (tb := 15) (fb := 0) (b0 := bxPt p0) hv ho ?_ ?_ (e1 := 139) (n1 := 0) ?_ (e2 := 50) (n2 := 0) ?_ (by decide) (n3 := 0) ?_ (bxPt_ok (ho.pts p0 ?_)) (n4 := 1) ?_ fun h' v1 v2 k1 k2 => ?_
    · simp only [sg_set, Nat.reduceEqDiff, ↓reduceIte]
    · rfl
    · rfl
    · rfl
    · rfl
    · rw [← hp0]
      exact List.mem_flatten.2 ⟨f.rings.getD 0 [], by rw [getD_ring h0]; exact List.getElem_mem h0, by rw [getP h1]; exact List.getElem_mem h1⟩
    · rfl
    · simp only [k1, k2, RW, RX, VOp.fresh, bxC, bsC, un, most, callsOf, seval, Int.reducePow, ↓reduceIte, Nat.reduceEqDiff, reduceCtorEq]
      exact ⟨_, .tup (.cons (.agg (scals_fz rfl)) (.cons (.int _ _) .nil)), .inr ⟨ho, by unfold fBox; rw [hp0]⟩⟩
end
end Go.Proofs.Ythmkenkjfmbkiaa.VM
namespace Go.Proofs.Ythmkenkjfmbkiaa.VM
attribute [local irreducible] Af Nx EvO Ev Un Gd Cd EvR EvQ EvC Nc Gc Lp EvM NxM AfM GdM EvMR EvMQ EvMD EvMC Nm Gm
def Le (s : List Int) : Prop := ∀ i, i + 1 < s.length → s.getD i 0 ≤ s.getD (i + 1) 0
/-- what the first i of a sorted row are without their doubles -/
structure CW (s : List Int) (i : Nat) (W : List Int) : Prop where
  inc : W.Pairwise (· < ·)
  mem : ∀ x, x ∈ W ↔ x ∈ s.take i
  pos : 0 < W.length
  le : W.length ≤ i
  last : W.getD (W.length - 1) 0 = s.getD (i - 1) 0
theorem getD_app_r {a b : List Int} {i : Nat} (h : a.length ≤ i) : (a ++ b).getD i 0 = b.getD (i - a.length) 0 := by
  simp [List.getD_eq_getElem?_getD, List.getElem?_append_right h]
theorem getD_drop {a : List Int} {k i : Nat} : (a.drop k).getD i 0 = a.getD (k + i) 0 := by simp [List.getD_eq_getElem?_getD]
theorem take_snoc {s : List Int} {i : Nat} (h : i < s.length) : s.take (i + 1) = s.take i ++ [s.getD i 0] := by
  rw [List.take_succ_eq_append_getElem h]; simp [List.getD_eq_getElem?_getD, List.getElem?_eq_getElem h]
theorem pw_le {W : List Int} (h : W.Pairwise (· < ·)) (x : Int) (hx : x ∈ W) : x ≤ W.getD (W.length - 1) 0 := by
  obtain ⟨j, hj, rfl⟩ := List.getElem_of_mem hx
  rw [List.pairwise_iff_getElem] at h
  have e : W.getD (W.length - 1) 0 = W[W.length - 1]'(by omega) := by simp [List.getD_eq_getElem?_getD, List.getElem?_eq_getElem (show W.length - 1 < W.length by omega)]
  rw [e]
  rcases Nat.lt_or_ge j (W.length - 1) with c | c
  · exact Int.le_of_lt (h j (W.length - 1) hj (by omega) c)
  · have : j = W.length - 1 := by omega
    subst this
    exact Int.le_refl _
theorem CW.one {s : List Int} (h : 0 < s.length) : CW s 1 [s.getD 0 0] := by
  refine ⟨List.pairwise_singleton _ _, fun x => ?_, by simp, by simp, by simp⟩
  have := take_snoc (s := s) (i := 0) h
  rw [this]; simp
theorem CW.new {s : List Int} (hs : Le s) {i : Nat} {W : List Int} (c : CW s i W) (hi : i < s.length) (hne : s.getD i 0 ≠ s.getD (i - 1) 0) : CW s (i + 1) (W ++ [s.getD i 0]) := by
  have h0 := c.pos
  have h1 := c.le
  have hle := hs (i - 1) (by omega)
  rw [show i - 1 + 1 = i by omega] at hle
  refine ⟨?_, fun x => ?_, by simp, by simp; omega, ?_⟩
  · rw [List.pairwise_append]
    refine ⟨c.inc, List.pairwise_singleton _ _, fun a ha b hb => ?_⟩
    rw [List.mem_singleton.1 hb]
    have := pw_le c.inc a ha
    rw [c.last] at this
    omega
  · rw [take_snoc hi, List.mem_append, List.mem_append, c.mem]
  · simp
theorem CW.old {s : List Int} {i : Nat} {W : List Int} (c : CW s i W) (hi : i < s.length) (he : s.getD i 0 = s.getD (i - 1) 0) : CW s (i + 1) W := by
  have h0 := c.pos
  have h1 := c.le
  refine ⟨c.inc, fun x => ?_, c.pos, by omega, by rw [c.last, ← he]; rfl⟩
  rw [take_snoc hi, List.mem_append, c.mem]
  refine ⟨.inl, fun h => h.elim id fun h => ?_⟩
  rw [List.mem_singleton.1 h, he, ← c.last, ← c.mem]
  have e : W.getD (W.length - 1) 0 = W[W.length - 1]'(by omega) := by simp [List.getD_eq_getElem?_getD, List.getElem?_eq_getElem (show W.length - 1 < W.length by omega)]
  rw [e]
  exact List.getElem_mem _
def kc (l : List Int) : List AV := l.map (.int .i64)
theorem kc_at {l : List Int} {i : Nat} (h : i < l.length) : part false (kc l) i 1 = some (.int .i64 (l.getD i 0)) := by
  refine part_f (r := kc (l.drop (i + 1))) ?_
  unfold kc
  rw [← List.map_drop, List.drop_eq_getElem_cons h]
  simp only [List.map_cons, List.getD_eq_getElem?_getD, List.getElem?_eq_getElem h, Option.getD_some]
section
variable {P : Program}
/-- where the copying stands: W is kept, the rest as it lay -/
def cpL (s W : List Int) : List Int := W ++ s.drop W.length
theorem cpL_len {s W : List Int} (h : W.length ≤ s.length) : (cpL s W).length = s.length := by simp [cpL]; omega
theorem cpL_at {s W : List Int} {i : Nat} (h : W.length ≤ i) : (cpL s W).getD i 0 = s.getD i 0 := by
  rw [cpL, getD_app_r h, getD_drop]; congr 1; omega
theorem cpL_set {s W : List Int} (h : W.length < s.length) (x : Int) : (cpL s W).set W.length x = cpL s (W ++ [x]) := by
  unfold cpL
  rw [List.set_append_right _ _ (Nat.le_refl _), Nat.sub_self, List.drop_eq_getElem_cons h, List.set_cons_zero, List.length_append, List.length_singleton, List.append_assoc]
  rfl
theorem kc_set {l : List Int} {i : Nat} {x : Int} : (kc l).set i (.int .i64 x) = kc (l.set i x) := by simp [kc]
theorem kc_len {l : List Int} : (kc l).length = l.length := by simp [kc]
theorem cmp_in (g : Pg P tab) {s : List Int} (hs : Le s) (hsm : s.length < 4611686018427387904) {b e k0 : Nat} (hk0 : 0 < k0) (m : Nat) : ∀ (k2 : Nat) (W : List Int) (ver : Nat) (t : T AV) (h : Heap) (k : List Fr) (Q : Ex → T AV → Heap → Prop),
    k0 + k2 + m = s.length → 1 ≤ k2 → W.length + 1 ≤ k0 + k2 → CW s (k0 + k2) W → sg t 0 = .sl b 0 s.length s.length 1 → sg t 3 = .int .i64 W.length → sg t 4 = .sl b k0 (s.length - k0) (s.length - k0) 1 → sg t 5 = .int .i64 k2 →
    h.get b = some (.cells (kc (cpL s W)) e ver) →
    (∀ W t' h' ver', W.length < s.length → CW s s.length W → sg t' 0 = .sl b 0 s.length s.length 1 → sg t' 3 = .int .i64 W.length → h'.next = h.next → (∀ c, c ≠ b → h'.get c = h.get c) → h'.get b = some (.cells (kc (cpL s W)) e ver') → Un P k Q (.exit 2) t' h') →
    Lp P b65_0 t h (Un P k Q) := by
  induction m with
  | zero =>
    intro k2 W ver t h k Q hm h1 hW c t0 t3 t4 t5 hg hK
    refine g.lpe b65_0.eq_1 ?_
    have c1 : ¬ ((k2 : Int) < ((s.length - k0 : Nat) : Int)) := by omega
    simp only [t4, t5, c1, RX, VOp.fresh, bxC, bsC, un, most, callsOf, seval, Int.reducePow, ↓reduceIte, Nat.reduceEqDiff, reduceCtorEq]
    rw [show k0 + k2 = s.length by omega] at c
    refine hK W _ h ver (by omega) c ?_ ?_ rfl (fun _ _ => rfl) hg
    · simp only [t0, sg_set, Nat.reduceEqDiff, ↓reduceIte]
    · simp only [t3, sg_set, Nat.reduceEqDiff, ↓reduceIte]
  | succ m ih =>
    intro k2 W ver t h k Q hm h1 hW c t0 t3 t4 t5 hg hK
    refine g.lpe b65_0.eq_1 ?_
    have c1 : ((k2 : Int) < ((s.length - k0 : Nat) : Int)) := by omega
    have w1 : IntKind.i64.wrap ((k2 : Int) - 1) = ((k2 - 1 : Nat) : Int) := by rw [w64 (by omega) (by omega)]; omega
    have w2 : IntKind.i64.wrap ((k2 : Int) + 1) = ((k2 + 1 : Nat) : Int) := by rw [w64 (by omega) (by omega)]; omega
    have w3 : IntKind.i64.wrap ((W.length : Int) + 1) = ((W.length + 1 : Nat) : Int) := by rw [w64 (by omega) (by omega)]; omega
    have i1 : (0 ≤ (k2 : Int) ∧ (k2 : Int) < ((s.length - k0 : Nat) : Int) ∧ True) := ⟨by omega, c1, trivial⟩
    have i2 : (0 ≤ ((k2 - 1 : Nat) : Int) ∧ ((k2 - 1 : Nat) : Int) < ((s.length - k0 : Nat) : Int) ∧ True) := ⟨by omega, by omega, trivial⟩
    have a1 : part false (kc (cpL s W)) (k0 + k2) 1 = some (.int .i64 (s.getD (k0 + k2) 0)) := by
      rw [kc_at (by rw [cpL_len (by omega)]; omega), cpL_at (by omega)]
    have a2 : part false (kc (cpL s W)) (k0 + (k2 - 1)) 1 = some (.int .i64 (s.getD (k0 + k2 - 1) 0)) := by
      rw [kc_at (by rw [cpL_len (by omega)]; omega), cpL_at (by omega)]; congr 3; omega
    by_cases he : s.getD (k0 + k2) 0 = s.getD (k0 + k2 - 1) 0
    · simp only [t0, t3, t4, t5, c1, w1, w2, i1, i2, hg, a1, a2, he, iaV_sl, Int.toNat_natCast, Nat.mul_one, RX, VOp.fresh, bxC, bsC, un, most, callsOf, seval, Int.reducePow, ↓reduceIte, Nat.reduceEqDiff, reduceCtorEq]
      refine ih (k2 + 1) W ver _ h k Q (by omega) (by omega) (by omega) (c.old (by omega) he) ?_ ?_ ?_ ?_ hg hK
      · simp only [t0, sg_set, Nat.reduceEqDiff, ↓reduceIte]
      · simp only [t3, sg_set, Nat.reduceEqDiff, ↓reduceIte]
      · simp only [t4, sg_set, Nat.reduceEqDiff, ↓reduceIte]
      · simp only [sg_set, Nat.reduceEqDiff, ↓reduceIte]
    · have i3 : (0 ≤ (W.length : Int) ∧ (W.length : Int) < (s.length : Int) ∧ True) := ⟨by omega, by omega, trivial⟩
      have hw := wr_at hg (j := W.length) (by rw [kc_len, cpL_len (by omega)]; omega) (x := .int .i64 (s.getD (k0 + k2) 0)) rfl
      rw [kc_set, cpL_set (by omega)] at hw
      simp only [t0, t3, t4, t5, c1, w1, w2, w3, i1, i2, i3, hg, a1, a2, he, hw, iaV_sl, Int.toNat_natCast, Nat.mul_one, RX, VOp.fresh, bxC, bsC, un, most, callsOf, seval, Int.reducePow, ↓reduceIte, Nat.reduceEqDiff, reduceCtorEq]
      refine ih (k2 + 1) (W ++ [s.getD (k0 + k2) 0]) (ver + 1) _ _ k Q (by omega) (by omega) (by simp; omega) (c.new hs (by omega) he) ?_ ?_ ?_ ?_ (by rw [Heap.get_put, if_pos rfl]) fun W' t' h' ver' q1 q2 q3 q4 q5 q6 q7 => hK W' t' h' ver' q1 q2 q3 q4 (by rw [q5, put_next]) (fun d hd => by rw [q6 d hd, Heap.get_put, if_neg hd]) q7
      · simp only [t0, sg_set, Nat.reduceEqDiff, ↓reduceIte]
      · simp only [sg_set, Nat.reduceEqDiff, ↓reduceIte]
        simp
      · simp only [t4, sg_set, Nat.reduceEqDiff, ↓reduceIte]
      · simp only [sg_set, Nat.reduceEqDiff, ↓reduceIte]
def zs0 (n : Nat) : List AV := (List.replicate n [AV.int .i64 0]).flatten
theorem clr {h : Heap} {b e ver n : Nat} {s W : List Int} (hn : s.length = n) (hl : W.length ≤ n) (hg : h.get b = some (.cells (kc (cpL s W)) e ver)) : writeAt h b W.length (zs0 (n - W.length)) = some (h.put b (.cells (kc W ++ zs0 (n - W.length)) e (ver + 1))) := by
  have hz : (zs0 (n - W.length)).length = n - W.length := by simp [zs0]
  rw [writeAt_go, hg, wrB_some, if_pos ⟨by rw [hz, kc_len, cpL_len (by omega)]; omega, by simp [zs0, List.all_flatten, AV.one]⟩]
  have e1 : (kc (cpL s W)).take W.length = kc W := by unfold kc cpL; rw [List.map_append, List.take_left' (by simp)]
  have e2 : (kc (cpL s W)).drop (W.length + (zs0 (n - W.length)).length) = [] := List.drop_of_length_le (by rw [hz, kc_len, cpL_len (by omega)]; omega)
  rw [e1, e2, List.append_nil]
/-- the first stretch: no doubles yet -/
theorem cmp_out (g : Pg P tab) {s : List Int} (hs : Le s) (hsm : s.length < 4611686018427387904) {b e ver : Nat} {h : Heap} (hg : h.get b = some (.cells (kc s) e ver)) (m : Nat) : ∀ (i : Nat) (t : T AV) (k : List Fr) (Q : Ex → T AV → Heap → Prop),
    i + m = s.length → 0 < i → CW s i (s.take i) → sg t 0 = .sl b 0 s.length s.length 1 → sg t 3 = .int .i64 i →
    (∀ t', CW s s.length s → sg t' 0 = .sl b 0 s.length s.length 1 → Un P k Q (.exit 0) t' h) →
    (∀ W t' h' ver' z, CW s s.length W → W.length < s.length → sg t' 2 = .sl b 0 W.length s.length 1 → h'.next = h.next → (∀ c, c ≠ b → h'.get c = h.get c) → h'.get b = some (.cells (kc W ++ z) e ver') → Un P k Q .ret t' h') →
    Lp P b65_1 t h (Un P k Q) := by
  induction m with
  | zero =>
    intro i t k Q hm h1 c t0 t3 hK hR
    refine g.lpe b65_1.eq_1 ?_
    have c1 : ¬ ((i : Int) < (s.length : Int)) := by omega
    simp only [t0, t3, c1, RX, VOp.fresh, bxC, bsC, un, most, callsOf, seval, Int.reducePow, ↓reduceIte, Nat.reduceEqDiff, reduceCtorEq]
    rw [List.take_of_length_le (by omega), show i = s.length by omega] at c
    refine hK _ c ?_
    simp only [t0, sg_set, Nat.reduceEqDiff, ↓reduceIte]
  | succ m ih =>
    intro i t k Q hm h1 c t0 t3 hK hR
    refine g.lpe b65_1.eq_1 ?_
    have c1 : (i : Int) < (s.length : Int) := by omega
    have w1 : IntKind.i64.wrap ((i : Int) - 1) = ((i - 1 : Nat) : Int) := by rw [w64 (by omega) (by omega)]; omega
    have w2 : IntKind.i64.wrap ((i : Int) + 1) = ((i + 1 : Nat) : Int) := by rw [w64 (by omega) (by omega)]; omega
    have i1 : (0 ≤ (i : Int) ∧ (i : Int) < (s.length : Int) ∧ True) := ⟨by omega, c1, trivial⟩
    have i2 : (0 ≤ ((i - 1 : Nat) : Int) ∧ ((i - 1 : Nat) : Int) < (s.length : Int) ∧ True) := ⟨by omega, by omega, trivial⟩
    have a1 : part false (kc s) i 1 = some (.int .i64 (s.getD i 0)) := kc_at (by omega)
    have a2 : part false (kc s) (i - 1) 1 = some (.int .i64 (s.getD (i - 1) 0)) := kc_at (by omega)
    by_cases he : s.getD i 0 = s.getD (i - 1) 0
    · have e1 : sliceV 1 (.sl b 0 s.length s.length 1) (some (.int .i64 (i : Int))) none none = some (.sl b i (s.length - i) (s.length - i) 1) := by
        rw [slVlo (by omega), Nat.zero_add, Nat.mul_one]
      simp only [t0, t3, c1, w1, i1, i2, hg, a1, a2, he, e1, iaV_sl, Int.toNat_natCast, Nat.mul_one, Nat.zero_add, RX, VOp.fresh, bxC, bsC, un, most, callsOf, seval, Int.reducePow, ↓reduceIte, Nat.reduceEqDiff, reduceCtorEq]
      have hli : (s.take i).length = i := by rw [List.length_take]; omega
      refine cmp_in g hs hsm (b := b) (e := e) h1 m 1 (s.take i) ver _ h _ _ (by omega) (Nat.le_refl _) (by omega) (c.old (by omega) he) ?_ ?_ ?_ ?_ ?_ fun W t' h' ver' q1 q2 q3 q4 q5 q6 q7 => ?_
      · simp only [t0, sg_set, Nat.reduceEqDiff, ↓reduceIte]
      · simp only [t3, sg_set, Nat.reduceEqDiff, ↓reduceIte]
        rw [hli]
      · simp only [sg_set, Nat.reduceEqDiff, ↓reduceIte]
      · simp only [sg_set, Nat.reduceEqDiff, ↓reduceIte]
        rfl
      · unfold cpL
        rw [hli, List.take_append_drop]
        exact hg
      · have e2 : sliceV 1 (.sl b 0 s.length s.length 1) (some (.int .i64 (W.length : Int))) none none = some (.sl b W.length (s.length - W.length) (s.length - W.length) 1) := by
          rw [slVlo (by omega), Nat.zero_add, Nat.mul_one]
        have e3 : sliceV 1 (.sl b 0 s.length s.length 1) none (some (.int .i64 (W.length : Int))) none = some (.sl b 0 W.length s.length 1) := slVhi (by omega)
        have e4 := clS_go (z := [.int .i64 0]) (cap := s.length - W.length) (sz := 1) (len := s.length - W.length) (by omega) (clr rfl (by omega) q7)
        simp only [q3, q4, e2, e3, vop_clearS, e4, RX, VOp.fresh, bxC, bsC, un, most, callsOf, seval, Int.reducePow, ↓reduceIte, Nat.reduceEqDiff, reduceCtorEq]
        refine hR W _ _ (ver' + 1) (zs0 (s.length - W.length)) q2 q1 ?_ ?_ ?_ ?_
        · simp only [sg_set, Nat.reduceEqDiff, ↓reduceIte]
        · rw [put_next, q5]
        · exact fun d hd => by rw [Heap.get_put, if_neg hd, q6 d hd]
        · rw [Heap.get_put, if_pos rfl]
    · simp only [t0, t3, c1, w1, w2, i1, i2, hg, a1, a2, he, iaV_sl, Int.toNat_natCast, Nat.mul_one, Nat.zero_add, RX, VOp.fresh, bxC, bsC, un, most, callsOf, seval, Int.reducePow, ↓reduceIte, Nat.reduceEqDiff, reduceCtorEq]
      refine ih (i + 1) _ k Q (by omega) (by omega) ?_ ?_ ?_ hK hR
      · have := c.new hs (by omega) he
        rwa [← take_snoc (by omega)] at this
      · simp only [t0, sg_set, Nat.reduceEqDiff, ↓reduceIte]
      · simp only [sg_set, Nat.reduceEqDiff, ↓reduceIte]
/-- the row as it is told: what is kept, each once -/
def UpL (s W : List Int) : Prop := W.Pairwise (· < ·) ∧ ∀ x, x ∈ W ↔ x ∈ s
theorem CW.up {s W : List Int} (c : CW s s.length W) : UpL s W := ⟨c.inc, fun x => by rw [c.mem, List.take_length]⟩
theorem pw_ge : ∀ {W : List Int} {a : Int}, W.Pairwise (· < ·) → (∀ x ∈ W, a ≤ x ∧ x < 8) → a ≤ 8 → (W.length : Int) ≤ 8 - a
  | [], a, _, _, h => by simp; omega
  | x :: W, a, hp, hb, h => by
    rw [List.pairwise_cons] at hp
    have h1 := hb x (.head _)
    have := pw_ge (a := x + 1) hp.2 (fun y hy => ⟨by have := hp.1 y hy; omega, (hb y (.tail _ hy)).2⟩) (by omega)
    simp only [List.length_cons]; omega
theorem kc_cat : ∀ {l : List Int}, (∀ x ∈ l, I64 x) → Cat RInt l (kc l)
  | [], _ => .nil
  | x :: l, h => .cons (c := [.int .i64 x]) ⟨rfl, h x (.head _)⟩ (kc_cat fun y hy => h y (.tail _ hy))
theorem up_is {s W : List Int} (u : UpL s W) (hs : ∀ x ∈ s, 0 ≤ x ∧ x < 8) : IsL 8 RInt (.rs (kc W) W.length) W := by
  have hb : ∀ x ∈ W, 0 ≤ x ∧ x < 8 := fun x hx => hs x ((u.2 x).1 hx)
  have hl := pw_ge u.1 hb (by decide)
  refine isL_rs (kc_cat fun x hx => ?_) ?_
  · have := hb x hx; constructor <;> omega
  · rw [show reachBytes = 140737488351232 from rfl]; omega
theorem compact_cl (g : Pg P tab) {s : List Int} (hs : Le s) (h8 : ∀ x ∈ s, 0 ≤ x ∧ x < 8) (hsm : s.length < 4611686018427387904) {v : AV} {h : Heap} (r : SRow h v 1 (kc s) s.length) : Cl P 65 [v] h fun w h' => ∃ W u, UpL s W ∧ Fz false h' w u ∧ IsL 8 RInt u W := by
  have e0 : s = [] → UpL s [] := fun e => ⟨List.Pairwise.nil, fun x => by rw [e]⟩
  have told : ∀ {W : List Int} {z : List AV} {b e ver cap : Nat} {h' : Heap}, h'.get b = some (.cells (kc W ++ z) e ver) → UpL s W → ∃ W' u, UpL s W' ∧ Fz false h' (.sl b 0 W.length cap 1) u ∧ IsL 8 RInt u W' := by
    intro W z b e ver cap h' hg u
    refine ⟨W, .rs (kc W) W.length, u, ?_, up_is u h8⟩
    by_cases hz : W.length = 0
    · rw [hz]
      have : kc W = [] := List.eq_nil_of_length_eq_zero (by rw [kc_len, hz])
      rw [this]
      exact .sl0
    · refine .sl (by omega) hg (cs := kc W) ?_ (scals_fz (by simp [kc, scal1]))
      rw [cut_eq, List.drop_zero, Nat.mul_one, ← kc_len, List.take_left' rfl, if_pos rfl]
  refine g.cl (vf := v65) rfl rfl ?_
  rcases r with ⟨rfl, h0, _⟩ | ⟨b, e, ver, rfl, hb, hg, hl, _⟩
  · simp only [v65, RX, VOp.fresh, bxC, bsC, un, most, callsOf, seval, Int.reducePow, ↓reduceIte, Nat.reduceEqDiff, reduceCtorEq]
    exact ⟨[], .nils, e0 (List.eq_nil_of_length_eq_zero h0), .nils, isL_nil _ _⟩
  · have up : CW s s.length s → UpL s s := fun c => c.up
    have one : s.length < 2 → UpL s s := fun h => by
      match s, h with
      | [], _ => exact ⟨List.Pairwise.nil, fun x => Iff.rfl⟩
      | [y], _ => exact ⟨List.pairwise_singleton _ _, fun x => Iff.rfl⟩
    by_cases h2 : (s.length : Int) < 2
    · simp only [v65, h2, RX, VOp.fresh, bxC, bsC, un, most, callsOf, seval, Int.reducePow, ↓reduceIte, Nat.reduceEqDiff, reduceCtorEq]
      exact told (z := []) (by rw [List.append_nil]; exact hg) (one (by omega))
    · simp only [v65, h2, RX, VOp.fresh, bxC, bsC, un, most, callsOf, seval, Int.reducePow, ↓reduceIte, Nat.reduceEqDiff, reduceCtorEq]
      refine cmp_out g hs hsm hg (s.length - 1) 1 _ _ _ (by omega) (by decide) ?_ ?_ ?_ (fun t' c t0 => ?_) (fun W t' h' ver' z c hlt t2 hn hk hgb => ?_)
      · rw [show s.take 1 = [s.getD 0 0] by rw [take_snoc (i := 0) (by omega)]; simp]
        exact CW.one (by omega)
      · simp only [sg_set, Nat.reduceEqDiff, ↓reduceIte]
      · simp only [sg_set, Nat.reduceEqDiff, ↓reduceIte]
        rfl
      · simp only [t0, RX, VOp.fresh, bxC, bsC, un, most, callsOf, seval, Int.reducePow, ↓reduceIte, Nat.reduceEqDiff, reduceCtorEq]
        exact told (z := []) (by rw [List.append_nil]; exact hg) c.up
      · simp only [t2, RX, VOp.fresh, bxC, bsC, un, most, callsOf, seval, Int.reducePow, ↓reduceIte, Nat.reduceEqDiff, reduceCtorEq]
        exact told hgb c.up
end
end Go.Proofs.Ythmkenkjfmbkiaa.VM
namespace Go.Proofs.Ythmkenkjfmbkiaa.VM
attribute [local irreducible] Af Nx EvO Ev Un Gd Cd EvR EvQ EvC Nc Gc Lp EvM NxM AfM GdM EvMR EvMQ EvMD EvMC Nm Gm
open Classical in
noncomputable def ixC (l : List Int) (d : Int) : Nat := if h : ∃ k, IxAt l d k then h.choose else 0
theorem ixC_ok {l : List Int} {d : Int} (h : ∃ k, IxAt l d k) : IxAt l d (ixC l d) := by unfold ixC; rw [dif_pos h]; exact h.choose_spec
theorem ix_mono {l : List Int} (hr : Rise l) {d d' : Int} {a b : Nat} (x : IxAt l d a) (y : IxAt l d' b) (h : d ≤ d') : a ≤ b := by
  rcases Nat.lt_or_ge b a with c | c
  · exfalso
    have h1 := x.1
    have h2 := y.2.2 (by omega)
    have h3 := x.2.1
    rcases Nat.lt_or_ge (b + 1) a with e | e
    · have := hr.lt e h1; omega
    · have : a = b + 1 := by omega
      subst this
      omega
  · exact c
theorem mpOk.ix {m : Mp} (ok : mpOk 8 m) {d : Int} (h : 0 ≤ d) : IxAt m.starts d (ixC m.starts d) := ixC_ok (ixAt_ex ok.rise (by have := ok.2.2.2.2.1; omega) (by rw [ok.2.2.2.2.2.2.2.1]; exact h))
noncomputable def ownP (m : Mp) (r : Int × Int) : List Int := (m.owners.drop (ixC m.starts r.1)).take (ixC m.starts (r.2 - 1) + 1 - ixC m.starts r.1)
noncomputable def ownsL (m : Mp) (l : Rgs) : List Int := (l.map (ownP m)).flatten
theorem ownsL_snoc (m : Mp) (l : Rgs) (r : Int × Int) : ownsL m (l ++ [r]) = ownsL m l ++ ownP m r := by simp [ownsL]
theorem ownP_len {m : Mp} (ok : mpOk 8 m) {r : Int × Int} (h0 : 0 ≤ r.1) (h1 : r.1 < r.2) : (ownP m r).length = ixC m.starts (r.2 - 1) + 1 - ixC m.starts r.1 ∧ ixC m.starts r.1 ≤ ixC m.starts (r.2 - 1) ∧ ixC m.starts (r.2 - 1) + 1 ≤ m.owners.length := by
  have x := ok.ix (d := r.1) h0
  have y := ok.ix (d := r.2 - 1) (by omega)
  have e := ok.2.2.2.2.2.2.1
  have hm := ix_mono ok.rise x y (by omega)
  refine ⟨?_, hm, by have := y.1; omega⟩
  unfold ownP
  rw [List.length_take, List.length_drop]
  have := y.1
  omega
theorem sep_at : ∀ {l : Rgs} {a : Int}, Sep a l → ∀ i, i < l.length → a < (l.getD i (0, 0)).1 ∧ (l.getD i (0, 0)).1 < (l.getD i (0, 0)).2 ∧ (l.getD i (0, 0)).2 ≤ 4294967296 ∧ (0 < i → (l.getD (i - 1) (0, 0)).2 < (l.getD i (0, 0)).1)
  | [], _, _, i, h => by simp at h
  | r :: t, a, s, 0, h => ⟨s.1, s.2.1, s.2.2.1, fun h => absurd h (Nat.lt_irrefl _)⟩
  | r :: t, a, s, i + 1, h => by
    have := sep_at s.2.2.2 i (by simpa using h)
    refine ⟨?_, this.2.1, this.2.2.1, fun _ => ?_⟩
    · have h1 := s.1; have h2 := s.2.1; have h3 := this.1
      show a < (t.getD i (0, 0)).1
      omega
    · cases i with
      | zero => exact this.1
      | succ i => exact this.2.2.2 (by omega)
theorem rtake_snoc {l : Rgs} {i : Nat} (h : i < l.length) : l.take (i + 1) = l.take i ++ [l.getD i (0, 0)] := by
  rw [List.take_succ_eq_append_getElem h]; simp [List.getD_eq_getElem?_getD, List.getElem?_eq_getElem h]
theorem owns_len {m : Mp} (ok : mpOk 8 m) {l : Rgs} (hl : Sep (-1) l) : ∀ i, i ≤ l.length → (ownsL m (l.take i)).length ≤ i + (if i = 0 then 0 else ixC m.starts ((l.getD (i - 1) (0, 0)).2 - 1))
  | 0, _ => by simp [ownsL]
  | i + 1, h => by
    have ih := owns_len ok hl i (by omega)
    obtain ⟨a1, a2, a3, a4⟩ := sep_at hl i (by omega)
    obtain ⟨b1, b2, b3⟩ := ownP_len ok (r := l.getD i (0, 0)) (by omega) a2
    rw [rtake_snoc (by omega), ownsL_snoc, List.length_append, b1, if_neg (by omega), Nat.add_sub_cancel]
    by_cases h0 : i = 0
    · rw [if_pos h0] at ih; omega
    · rw [if_neg h0] at ih
      have h4 := a4 (by omega)
      obtain ⟨c1, c2, _⟩ := sep_at hl (i - 1) (by omega)
      have x := ok.ix (d := (l.getD (i - 1) (0, 0)).2 - 1) (by omega)
      have y := ok.ix (d := (l.getD i (0, 0)).1) (by omega)
      have := ix_mono ok.rise x y (by omega)
      omega
theorem owns_lt {m : Mp} (ok : mpOk 8 m) {l : Rgs} (hl : Sep (-1) l) {i : Nat} (h : i ≤ l.length) : (ownsL m (l.take i)).length ≤ i + 31 := by
  have h1 := owns_len ok hl i h
  by_cases h0 : i = 0
  · rw [if_pos h0] at h1; omega
  · rw [if_neg h0] at h1
    obtain ⟨c1, c2, _⟩ := sep_at hl (i - 1) (by omega)
    have x := ok.ix (d := (l.getD (i - 1) (0, 0)).2 - 1) (by omega)
    have := x.1
    have := ok.2.2.2.2.2.1
    omega
theorem owns_8 {m : Mp} (ok : mpOk 8 m) {l : Rgs} : ∀ x ∈ ownsL m l, 0 ≤ x ∧ x < 8 := by
  intro x hx
  obtain ⟨s, hs, hx⟩ := List.mem_flatten.1 hx
  obtain ⟨r, _, rfl⟩ := List.mem_map.1 hs
  have hx := List.mem_of_mem_drop (List.mem_of_mem_take hx)
  obtain ⟨j, hj, rfl⟩ := List.getElem_of_mem hx
  have := ok.2.2.2.2.2.2.2.2 j (by have := ok.2.2.2.2.2.2.1; omega)
  unfold mpAt at this
  have e : m.owners.getD j 0 = m.owners[j] := getN hj
  rw [e] at this
  exact this.2.2
section
variable {P : Program}
theorem own_loop (g : Pg P tab) {m : Mp} {v u : AV} (hv : IsL 8 RInt v m.starts) (hu : IsL 8 RInt u m.owners) (ok : mpOk 8 m) {l : Rgs} {w : AV} (hw : IsL 16 RRg w l) (hl : Sep (-1) l) {mb e2 v2 : Nat} (n : Nat) :
    ∀ (i : Nat) (o : AV) (t : T AV) (h : Heap) (k : List Fr) (Q : Ex → T AV → Heap → Prop), i + n = l.length → sg t 2 = .ptr mb 0 → sg t 17 = w → sg t 18 = .int .i64 l.length → sg t 19 = .int .i64 i → sg t 6 = o → SRow h o 1 (kc (ownsL m (l.take i))) (ownsL m (l.take i)).length → (∀ c ∈ blkOf o, mb < c) → mb < h.next → (i = 0 → o = .nils) →
    h.get mb = some (.cells [.int .i64 m.epoch, v, u] e2 v2) →
    (∀ t' h' o', sg t' 6 = o' → SRow h' o' 1 (kc (ownsL m l)) (ownsL m l).length → (l.length = 0 → o' = .nils) → Un P k Q (.exit 0) t' h') → Lp P b39_0 t h (Un P k Q) := by
  have hbd := hw.1
  rw [show reachBytes = 140737488351232 from rfl] at hbd
  induction n with
  | zero =>
    intro i o t h k Q hn t2 t17 t18 t19 t6 r hb hm h0 hg hK
    refine g.lpe b39_0.eq_1 ?_
    have c1 : ¬ ((i : Int) < (l.length : Int)) := by omega
    simp only [t18, t19, c1, RX, VOp.fresh, bxC, bsC, un, most, callsOf, seval, Int.reducePow, ↓reduceIte, Nat.reduceEqDiff, reduceCtorEq]
    rw [List.take_of_length_le (by omega)] at r
    refine hK _ _ _ ?_ r fun e => h0 (by omega)
    simp only [t6, sg_set, Nat.reduceEqDiff, ↓reduceIte]
  | succ n ih =>
    intro i o t h k Q hn t2 t17 t18 t19 t6 r hb hm h0 hg hK
    refine g.lpe b39_0.eq_1 ?_
    have c1 : ((i : Int) < (l.length : Int)) := by omega
    have w1 : IntKind.i64.wrap ((i : Int) + 1) = ((i + 1 : Nat) : Int) := by rw [w64 (by omega) (by omega)]; push_cast; rfl
    obtain ⟨r1, _, g1⟩ := atRg hw i (by omega)
    simp only [t17, t18, t19, c1, g1, RW, RX, VOp.fresh, bxC, bsC, un, most, callsOf, seval, Int.reducePow, ↓reduceIte, Nat.reduceEqDiff, reduceCtorEq]
    obtain ⟨a1, a2, a3, a4⟩ := sep_at hl i (by omega)
    obtain ⟨p1, p2, p3⟩ := ownP_len ok (r := l.getD i (0, 0)) (by omega) a2
    have hlt := owns_lt ok hl (i := i + 1) (by omega)
    rw [rtake_snoc (by omega), ownsL_snoc, List.length_append] at hlt
    have hst := rtake_snoc (l := l) (i := i) (by omega)
    generalize hr : l.getD i (0, 0) = rg at a1 a2 a3 p1 p2 p3 hlt hst
    have x1 : Ext h ((h.mk' h.next (.cells [.int .i64 0, .int .i64 0] 104 0)).put h.next (.cells [.int .i64 rg.1, .int .i64 rg.2] 104 1)) := ⟨by rw [put_next, mk_next]; omega, fun b hb => by rw [Heap.get_put, if_neg (by omega), Heap.get_mk, if_neg (by omega)]⟩
    obtain ⟨h1, eh1⟩ : ∃ h1, h1 = ((h.mk' h.next (.cells [.int .i64 0, .int .i64 0] 104 0)).put h.next (.cells [.int .i64 rg.1, .int .i64 rg.2] 104 1)) := ⟨_, rfl⟩
    have k8 : h1.get h.next = some (.cells [.int .i64 rg.1, .int .i64 rg.2] 104 1) := by rw [eh1, Heap.get_put, if_pos rfl]
    rw [← eh1] at x1 ⊢
    have kg : h1.get mb = some (.cells [.int .i64 m.epoch, v, u] e2 v2) := by rw [x1.2 mb hm]; exact hg
    have oA : OK P 58 [.ptr mb 0, .int .i64 rg.1] h1 (.int .i64 (ixC m.starts rg.1)) h1 := at_ok g hv ok.rise (ok.ix (by omega)) kg
    have oB : OK P 58 [.ptr mb 0, .int .i64 (rg.2 - 1)] h1 (.int .i64 (ixC m.starts (rg.2 - 1))) h1 := at_ok g hv ok.rise (ok.ix (by omega)) kg
    have w2 : IntKind.i64.wrap (rg.2 - 1) = rg.2 - 1 := w64 (by omega) (by omega)
    have o32 : m.owners.length ≤ 32 := by have := ok.2.2.2.2.2.1; have := ok.2.2.2.2.2.2.1; omega
    have w3 : IntKind.i64.wrap ((ixC m.starts (rg.2 - 1) : Int) + 1) = ((ixC m.starts (rg.2 - 1) + 1 : Nat) : Int) := by rw [w64 (by omega) (by omega)]; push_cast; rfl
    obtain ⟨c, cc⟩ : ∃ c : Nat → List AV → Heap → AV × Heap, ∀ x d h, c 58 [x, .int .i64 d] h = (.int .i64 (ixC m.starts d), h) :=
      ⟨fun _ args h => match args with | [_, .int _ d] => (.int .i64 (ixC m.starts d), h) | _ => (.undef, h), fun _ _ _ => rfl⟩
    have eu : u = .rs (ic m.owners) m.owners.length := by
      rcases hu.2 with ⟨_, e⟩ | ⟨c, e, hc⟩
      · rw [e] at p3; simp at p3
      · rw [e, cat_int hc]
    have es : sliceV 1 u (some (.int .i64 (ixC m.starts rg.1 : Int))) (some (.int .i64 ((ixC m.starts (rg.2 - 1) + 1 : Nat) : Int))) none = some (.rs (ic (ownP m rg)) (ownP m rg).length) := by
      rw [eu, p1]
      simp only [sliceV, bounds, Option.isSome_none, Bool.false_eq_true, if_false, nat_of (show ixC m.starts (rg.2 - 1) + 1 ≤ m.owners.length by omega), nat_of (show ixC m.starts rg.1 ≤ ixC m.starts (rg.2 - 1) + 1 by omega), Nat.mul_one]
      unfold ic ownP
      rw [List.map_take, List.map_drop]
    obtain ⟨o2, h2, ea, r2, n2, b2, f2⟩ := (r.ext x1).app (x := .rs (ic (ownP m rg)) (ownP m rg).length) (m := (ownP m rg).length) (c := ic (ownP m rg)) (by show cut _ 0 _ = _; rw [cut_eq, List.drop_zero, Nat.mul_one, ← ic_len, List.take_length, if_pos rfl]) rfl (by rw [ic_len, Nat.mul_one]) (ic_one _) (bytes := 8) (by unfold most2; omega) 3
    refine EvD.sameN 13 c rfl ?_
    simp only [t2, t6, t19, k8, kg, cc, oA, oB, w2, w3, es, ea, w1, RW, RX, VOp.fresh, bxC, bsC, un, most, callsOf, seval, Int.reducePow, ↓reduceIte, Nat.reduceEqDiff, reduceCtorEq]
    have hbo : ∀ c ∈ blkOf o, c ≠ mb := fun c hc e => by have := hb c hc; omega
    refine ih (i + 1) o2 _ h2 k Q (by omega) ?_ ?_ ?_ ?_ ?_ ?_ ?_ ?_ (fun e => by omega) ?_ hK
    · simp only [t2, sg_set, Nat.reduceEqDiff, ↓reduceIte]
    · simp only [t17, sg_set, Nat.reduceEqDiff, ↓reduceIte]
    · simp only [t18, sg_set, Nat.reduceEqDiff, ↓reduceIte]
    · simp only [sg_set, Nat.reduceEqDiff, ↓reduceIte]
    · simp only [sg_set, Nat.reduceEqDiff, ↓reduceIte]
    · rw [hst, ownsL_snoc, List.length_append]
      unfold kc at r2 ⊢
      rw [List.map_append]
      exact r2
    · intro c hc
      rcases b2 c hc with e | e
      · exact hb c e
      · have := x1.1; omega
    · have := x1.1; omega
    · rw [f2 mb (by have := x1.1; omega) (fun hc => hbo mb hc rfl)]
      exact kg
/-- what ranges' owners are: each once, rising -/
def OwnsR (m : Mp) (l : Rgs) (W : List Int) : Prop := UpL (ownsL m l) W
theorem isort_Le {zs : List Int} : Le (isort zs) := by
  intro i hi
  have hp : (isort zs).Pairwise (fun x y => x ≤ y) := by
    have := List.pairwise_mergeSort (le := fun x y : Int => decide (x ≤ y)) (fun a b c h1 h2 => by simp at *; omega) (fun a b => by simp; omega) zs
    exact this.imp fun h => by simpa using h
  rw [List.pairwise_iff_getElem] at hp
  rw [getN (show i < (isort zs).length by omega), getN hi]
  exact hp i (i + 1) (by omega) hi (by omega)
theorem isort_mem {zs : List Int} {x : Int} : x ∈ isort zs ↔ x ∈ zs := by unfold isort; exact (List.mergeSort_perm _ _).mem_iff
theorem isort_len {zs : List Int} : (isort zs).length = zs.length := by unfold isort; simp
theorem owners_pu (g : Pg P tab) (hs : SortI P) {m : Mp} {v u : AV} (hv : IsL 8 RInt v m.starts) (hu : IsL 8 RInt u m.owners) {l : Rgs} {w : AV} (hw : IsL 16 RRg w l) :
    Pu P 39 [.agg [.int .i64 m.epoch, v, u], w] (fun z => (¬ (mpOk 8 m ∧ Sep (-1) l) ∧ z = .tup [.nils, .int .i64 700]) ∨ (mpOk 8 m ∧ Sep (-1) l ∧ ∃ W y, OwnsR m l W ∧ IsL 8 RInt y W ∧ z = .tup [y, .int .i64 0])) := by
  refine g.pu (vf := v39) rfl rfl ?_
  simp only [v39, RW, RX, VOp.fresh, bxC, bsC, un, most, callsOf, seval, Int.reducePow, ↓reduceIte, Nat.reduceEqDiff, reduceCtorEq]
  refine (mapMay_pu g hv hu).go (by simp [AV.tolds, AV.told, hv.told tInt, hu.told tInt]) ?_
  rintro _ ⟨b, rfl, hb⟩
  cases b with
  | false =>
    have ho : ¬ mpOk 8 m := fun h => by have := hb.2 h; cases this
    simp only [RW, RX, VOp.fresh, bxC, bsC, un, most, callsOf, seval, Int.reducePow, ↓reduceIte, Nat.reduceEqDiff, reduceCtorEq]
    exact ⟨_, .tup (.cons .nils (.cons (.int _ _) .nil)), .inl ⟨fun h => ho h.1, rfl⟩⟩
  | true =>
    have ok : mpOk 8 m := hb.1 rfl
    simp only [RW, RX, VOp.fresh, bxC, bsC, un, most, callsOf, seval, Int.reducePow, ↓reduceIte, Nat.reduceEqDiff, reduceCtorEq]
    refine (may_pu g hw).go (by simp [AV.tolds, hw.told tRg]) ?_
    rintro _ rfl
    cases hl : sepB (-1) l with
    | false =>
      have ho : ¬ Sep (-1) l := fun h => by rw [sepB_iff.2 h] at hl; cases hl
      simp only [RW, RX, VOp.fresh, bxC, bsC, un, most, callsOf, seval, Int.reducePow, ↓reduceIte, Nat.reduceEqDiff, reduceCtorEq]
      exact ⟨_, .tup (.cons .nils (.cons (.int _ _) .nil)), .inl ⟨fun h => ho h.2, rfl⟩⟩
    | true =>
      have hsep := sepB_iff.1 hl
      simp only [hw.len, RW, RX, VOp.fresh, bxC, bsC, un, most, callsOf, seval, Int.reducePow, ↓reduceIte, Nat.reduceEqDiff, reduceCtorEq]
      refine own_loop g hv hu ok hw hsep (mb := 0) (e2 := 24) (v2 := 0) l.length 0 .nils _ _ _ _ (by omega) ?_ ?_ ?_ ?_ ?_ ?_ ?_ ?_ (fun _ => rfl) ?_ fun t' h' o' t6 r h0 => ?_
      · simp only [sg_set, Nat.reduceEqDiff, ↓reduceIte]
      · simp only [sg_set, Nat.reduceEqDiff, ↓reduceIte]
      · simp only [sg_set, Nat.reduceEqDiff, ↓reduceIte]
      · simp only [sg_set, Nat.reduceEqDiff, ↓reduceIte]
        rfl
      · simp only [sg_set, Nat.reduceEqDiff, ↓reduceIte]
      · exact .inl ⟨rfl, rfl, rfl⟩
      · intro c hc; cases hc
      · rw [mk_next]; exact Nat.succ_pos _
      · rfl
      · simp only [t6, RX, VOp.fresh, bxC, bsC, un, most, callsOf, seval, Int.reducePow, ↓reduceIte, Nat.reduceEqDiff, reduceCtorEq]
        have hbd := hw.1
        rw [show reachBytes = 140737488351232 from rfl] at hbd
        have hlt := owns_lt ok hsep (i := l.length) (Nat.le_refl _)
        rw [List.take_length] at hlt
        have fin : ∀ (o : AV) (h2 : Heap), SRow h2 o 1 (kc (isort (ownsL m l))) (isort (ownsL m l)).length → Cl P 65 [o] h2 fun z h3 => ∃ W y, OwnsR m l W ∧ IsL 8 RInt y W ∧ Fz false h3 z y := fun o h2 r2 => by
          refine (compact_cl g isort_Le (fun x hx => owns_8 ok x (isort_mem.1 hx)) (by rw [isort_len]; omega) r2).mono ?_
          rintro z h3 ⟨W, y, q1, q2, q3⟩
          exact ⟨W, y, ⟨q1.1, fun x => (q1.2 x).trans isort_mem⟩, q3, q2⟩
        rcases r with ⟨rfl, hz, _⟩ | ⟨b, e, ver, rfl, hb2, hg, hln, hone⟩
        · refine (hs.2).cl ?_
          simp only [t6, RX, VOp.fresh, bxC, bsC, un, most, callsOf, seval, Int.reducePow, ↓reduceIte, Nat.reduceEqDiff, reduceCtorEq]
          have hz2 : (isort (ownsL m l)).length = 0 := by rw [isort_len]; exact hz
          refine (fin .nils h' (.inl ⟨rfl, hz2, by rw [List.eq_nil_of_length_eq_zero hz2]; rfl⟩)).mono ?_
          rintro z h3 ⟨W, y, q1, q2, q3⟩
          simp only [RX, VOp.fresh, bxC, bsC, un, most, callsOf, seval, Int.reducePow, ↓reduceIte, Nat.reduceEqDiff, reduceCtorEq]
          exact ⟨_, .tup (.cons q3 (.cons (.int _ _) .nil)), .inr ⟨ok, hsep, W, y, q1, q2, rfl⟩⟩
        · have hpos : 0 < (ownsL m l).length := by
            cases l with
            | nil => exact absurd (h0 rfl) (by simp)
            | cons r t =>
              obtain ⟨a1, a2, _⟩ := sep_at hsep 0 (by simp)
              obtain ⟨p1, p2, _⟩ := ownP_len ok (r := r) (by have h : -1 < r.1 := a1; omega) a2
              have : ownsL m (r :: t) = ownP m r ++ ownsL m t := by simp [ownsL]
              rw [this, List.length_append, p1]
              omega
          refine (hs.1 (show h'.get b = some (.cells ((ownsL m l).map (.int .i64)) e ver) from hg) rfl hpos (by omega)).cl ?_
          simp only [t6, RX, VOp.fresh, bxC, bsC, un, most, callsOf, seval, Int.reducePow, ↓reduceIte, Nat.reduceEqDiff, reduceCtorEq]
          refine (fin (.sl b 0 (ownsL m l).length (ownsL m l).length 1) _ (.inr ⟨b, e, ver + 1, by rw [isort_len], by rw [put_next]; exact hb2, by rw [Heap.get_put, if_pos rfl]; rfl, by rw [kc_len, Nat.mul_one], by simp [kc, AV.one]⟩)).mono ?_
          rintro z h3 ⟨W, y, q1, q2, q3⟩
          simp only [RX, VOp.fresh, bxC, bsC, un, most, callsOf, seval, Int.reducePow, ↓reduceIte, Nat.reduceEqDiff, reduceCtorEq]
          exact ⟨_, .tup (.cons q3 (.cons (.int _ _) .nil)), .inr ⟨ok, hsep, W, y, q1, q2, rfl⟩⟩
end
end Go.Proofs.Ythmkenkjfmbkiaa.VM
namespace Go.Proofs.Ythmkenkjfmbkiaa.VM
attribute [local irreducible] Af Nx EvO Ev Un Gd Cd EvR EvQ EvC Nc Gc Lp EvM NxM AfM GdM EvMR EvMQ EvMD EvMC Nm Gm
def met8 (zs : List Int) : List AV := (List.range 8).map fun i => .bool (decide (((i : Nat) : Int) ∈ zs))
theorem met8_len (zs : List Int) : (met8 zs).length = 8 := by simp [met8]
theorem met8_set {zs : List Int} {x : Int} (h0 : 0 ≤ x) (h1 : x < 8) : (met8 zs).set x.toNat (.bool true) = met8 (zs ++ [x]) := by
  apply List.ext_getElem
  · simp [met8]
  · intro i h1 h2
    rw [List.getElem_set]
    simp only [met8, List.getElem_map, List.getElem_range]
    by_cases e : x.toNat = i
    · have : ((i : Nat) : Int) = x := by omega
      rw [this]; simp [e]
    · rw [if_neg e]
      have : ((i : Nat) : Int) ∈ zs ++ [x] ↔ ((i : Nat) : Int) ∈ zs := by
        rw [List.mem_append, List.mem_singleton]
        constructor
        · rintro (h | h)
          · exact h
          · omega
        · exact .inl
      simp only [this]
theorem met8_at {zs : List Int} {d : Nat} (h : d < 8) : part false (met8 zs) d 1 = some (.bool (decide ((d : Int) ∈ zs))) := by
  have hl : d < (met8 zs).length := by rw [met8_len]; exact h
  rw [part_f (List.drop_eq_getElem_cons hl)]
  simp [met8]
section
variable {P : Program}
theorem rown_in (g : Pg P tab) {m : Mp} {v u : AV} (hv : IsL 8 RInt v m.starts) (hu : IsL 8 RInt u m.owners) (ok : mpOk 8 m) {l : Rgs} {w : AV} (hw : IsL 16 RRg w l) (hl : Sep (-1) l) {mb e2 v2 ab ea : Nat} (hne : ab ≠ mb) {i : Nat} (hi : i < l.length) {zs : List Int} (n : Nat) :
    ∀ (j ver : Nat) (t : T AV) (h : Heap) (k : List Fr) (Q : Ex → T AV → Heap → Prop), j + n = (ownP m (l.getD i (0, 0))).length → sg t 1 = w → sg t 2 = .ptr mb 0 → sg t 6 = .ptr ab 0 → sg t 7 = .int .i64 i → sg t 8 = .int .i64 ((ixC m.starts (l.getD i (0, 0)).1 + j : Nat) : Int) →
    h.get mb = some (.cells [.int .i64 m.epoch, v, u] e2 v2) → h.get ab = some (.cells (met8 (zs ++ (ownP m (l.getD i (0, 0))).take j)) ea ver) → ab < h.next →
    (∀ t' h' ver', ab < h'.next → sg t' 1 = w → sg t' 2 = .ptr mb 0 → sg t' 6 = .ptr ab 0 → sg t' 7 = .int .i64 i → h'.get mb = some (.cells [.int .i64 m.epoch, v, u] e2 v2) → h'.get ab = some (.cells (met8 (zs ++ ownP m (l.getD i (0, 0)))) ea ver') → Un P k Q (.exit 2) t' h') → Lp P b40_0 t h (Un P k Q) := by
  obtain ⟨a1, a2, a3, a4⟩ := sep_at hl i hi
  obtain ⟨p1, p2, p3⟩ := ownP_len ok (r := l.getD i (0, 0)) (by omega) a2
  have l32 : m.starts.length ≤ 32 := ok.2.2.2.2.2.1
  have e32 : m.owners.length = m.starts.length := ok.2.2.2.2.2.2.1
  have y := ok.ix (d := (l.getD i (0, 0)).2 - 1) (by omega)
  obtain ⟨r1, _, g1⟩ := atRg hw i hi
  have w2 : IntKind.i64.wrap ((l.getD i (0, 0)).2 - 1) = (l.getD i (0, 0)).2 - 1 := w64 (by omega) (by omega)
  have hat : ∀ x, x < (ownP m (l.getD i (0, 0))).length → (ownP m (l.getD i (0, 0))).getD x 0 = m.owners.getD (ixC m.starts (l.getD i (0, 0)).1 + x) 0 := fun x hx => by
    unfold ownP
    rw [p1] at hx
    rw [List.getD_eq_getElem?_getD, List.getElem?_take, if_pos hx, List.getElem?_drop, ← List.getD_eq_getElem?_getD]
  generalize hrg : l.getD i (0, 0) = rg at *
  have cond : ∀ (j : Nat) (t : T AV) (h : Heap) (k : List Fr) (Q : Ex → T AV → Heap → Prop), sg t 1 = w → sg t 2 = .ptr mb 0 → sg t 7 = .int .i64 i → True := fun _ _ _ _ _ _ _ _ => trivial
  induction n with
  | zero =>
    intro j ver t h k Q hn t1 t2 t6 t7 t8 hg ha hN hK
    refine g.lpe b40_0.eq_1 ?_
    simp only [t1, t2, t7, t8, hg, g1, w2, RW, RX, VOp.fresh, bxC, bsC, un, most, callsOf, seval, Int.reducePow, ↓reduceIte, Nat.reduceEqDiff, reduceCtorEq]
    refine (rat_pu g hv ok.rise l32 y).go (by simp [AV.tolds, AV.told, hv.told tInt, hu.told tInt]) ?_
    rintro _ rfl
    have c1 : ¬ (((ixC m.starts rg.1 + j : Nat) : Int) ≤ (ixC m.starts (rg.2 - 1) : Int)) := by omega
    simp only [t8, c1, RX, VOp.fresh, bxC, bsC, un, most, callsOf, seval, Int.reducePow, ↓reduceIte, Nat.reduceEqDiff, reduceCtorEq]
    rw [List.take_of_length_le (by omega)] at ha
    refine hK _ h ver hN ?_ ?_ ?_ ?_ hg ha
    · simp only [t1, sg_set, Nat.reduceEqDiff, ↓reduceIte]
    · simp only [t2, sg_set, Nat.reduceEqDiff, ↓reduceIte]
    · simp only [t6, sg_set, Nat.reduceEqDiff, ↓reduceIte]
    · simp only [t7, sg_set, Nat.reduceEqDiff, ↓reduceIte]
  | succ n ih =>
    intro j ver t h k Q hn t1 t2 t6 t7 t8 hg ha hN hK
    refine g.lpe b40_0.eq_1 ?_
    simp only [t1, t2, t7, t8, hg, g1, w2, RW, RX, VOp.fresh, bxC, bsC, un, most, callsOf, seval, Int.reducePow, ↓reduceIte, Nat.reduceEqDiff, reduceCtorEq]
    refine (rat_pu g hv ok.rise l32 y).go (by simp [AV.tolds, AV.told, hv.told tInt, hu.told tInt]) ?_
    rintro _ rfl
    have c1 : (((ixC m.starts rg.1 + j : Nat) : Int) ≤ (ixC m.starts (rg.2 - 1) : Int)) := by omega
    have w1 : IntKind.i64.wrap (((ixC m.starts rg.1 + j : Nat) : Int) + 1) = ((ixC m.starts rg.1 + (j + 1) : Nat) : Int) := by rw [w64 (by omega) (by omega)]; push_cast; omega
    obtain ⟨r2, _, g2⟩ := getInt hu (ixC m.starts rg.1 + j) (by omega)
    have hx8 := owns_8 (l := [rg]) ok (m.owners.getD (ixC m.starts rg.1 + j) 0) (by
      rw [← hat j (by omega)]
      have : ownsL m [rg] = ownP m rg := by simp [ownsL]
      rw [this, getN (show j < (ownP m rg).length by omega)]
      exact List.getElem_mem _)
    have hts : (ownP m rg).take (j + 1) = (ownP m rg).take j ++ [m.owners.getD (ixC m.starts rg.1 + j) 0] := by
      rw [take_snoc (by omega), hat j (by omega)]
    generalize hxe : m.owners.getD (ixC m.starts rg.1 + j) 0 = x at *
    have hia : ∀ hh : Heap, iaV hh 1 (some 8) (.ptr ab 0) (.int .i64 x) = .val (.ptr ab x.toNat) hh := fun hh => by
      simp only [iaV]
      rw [if_pos ⟨by omega, by omega⟩, Nat.mul_one, Nat.zero_add]
    have hwr := wr_at ha (j := x.toNat) (by rw [met8_len]; omega) (x := .bool true) rfl
    rw [met8_set hx8.1 hx8.2, List.append_assoc, ← hts] at hwr
    simp only [t2, t6, t8, c1, hg, g2, hia, hwr, w1, RW, RX, VOp.fresh, bxC, bsC, un, most, callsOf, seval, Int.reducePow, ↓reduceIte, Nat.reduceEqDiff, reduceCtorEq]
    refine ih (j + 1) (ver + 1) _ _ k Q (by omega) ?_ ?_ ?_ ?_ ?_ (by rw [Heap.get_put, if_neg (Ne.symm hne)]; exact hg) (by rw [Heap.get_put, if_pos rfl]) (by rw [put_next]; exact hN) hK
    · simp only [t1, sg_set, Nat.reduceEqDiff, ↓reduceIte]
    · simp only [t2, sg_set, Nat.reduceEqDiff, ↓reduceIte]
    · simp only [t6, sg_set, Nat.reduceEqDiff, ↓reduceIte]
    · simp only [t7, sg_set, Nat.reduceEqDiff, ↓reduceIte]
    · simp only [sg_set, Nat.reduceEqDiff, ↓reduceIte]
theorem rown_loop (g : Pg P tab) {m : Mp} {v u : AV} (hv : IsL 8 RInt v m.starts) (hu : IsL 8 RInt u m.owners) (ok : mpOk 8 m) {l : Rgs} {w : AV} (hw : IsL 16 RRg w l) (hl : Sep (-1) l) {mb e2 v2 ab ea : Nat} (hne : ab ≠ mb) (n : Nat) :
    ∀ (i ver : Nat) (t : T AV) (h : Heap) (k : List Fr) (Q : Ex → T AV → Heap → Prop), i + n = l.length → sg t 1 = w → sg t 2 = .ptr mb 0 → sg t 6 = .ptr ab 0 → sg t 7 = .int .i64 i →
    h.get mb = some (.cells [.int .i64 m.epoch, v, u] e2 v2) → h.get ab = some (.cells (met8 (ownsL m (l.take i))) ea ver) → ab < h.next →
    (∀ t' h' ver', ab < h'.next → sg t' 6 = .ptr ab 0 → h'.get ab = some (.cells (met8 (ownsL m l)) ea ver') → Un P k Q (.exit 0) t' h') → Lp P b40_1 t h (Un P k Q) := by
  have hbd := hw.bound (by decide)
  have l32 : m.starts.length ≤ 32 := ok.2.2.2.2.2.1
  induction n with
  | zero =>
    intro i ver t h k Q hn t1 t2 t6 t7 hg ha hN hK
    refine g.lpe b40_1.eq_1 ?_
    have c1 : ¬ ((i : Int) < (l.length : Int)) := by omega
    simp only [t1, t7, hw.len, c1, RX, VOp.fresh, bxC, bsC, un, most, callsOf, seval, Int.reducePow, ↓reduceIte, Nat.reduceEqDiff, reduceCtorEq]
    rw [List.take_of_length_le (by omega)] at ha
    refine hK _ h ver hN ?_ ha
    simp only [t6, sg_set, Nat.reduceEqDiff, ↓reduceIte]
  | succ n ih =>
    intro i ver t h k Q hn t1 t2 t6 t7 hg ha hN hK
    refine g.lpe b40_1.eq_1 ?_
    have c1 : ((i : Int) < (l.length : Int)) := by omega
    have w1 : IntKind.i64.wrap ((i : Int) + 1) = ((i + 1 : Nat) : Int) := by rw [w64 (by omega) (by omega)]; push_cast; rfl
    obtain ⟨a1, a2, a3, a4⟩ := sep_at hl i (by omega)
    obtain ⟨r1, _, g1⟩ := atRg hw i (by omega)
    simp only [t1, t2, t7, hg, hw.len, c1, g1, RW, RX, VOp.fresh, bxC, bsC, un, most, callsOf, seval, Int.reducePow, ↓reduceIte, Nat.reduceEqDiff, reduceCtorEq]
    refine (rat_pu g hv ok.rise l32 (ok.ix (d := (l.getD i (0, 0)).1) (by omega))).go (by simp [AV.tolds, AV.told, hv.told tInt, hu.told tInt]) ?_
    rintro _ rfl
    simp only [t7, RX, VOp.fresh, bxC, bsC, un, most, callsOf, seval, Int.reducePow, ↓reduceIte, Nat.reduceEqDiff, reduceCtorEq]
    refine rown_in g hv hu ok hw hl (mb := mb) (e2 := e2) (v2 := v2) (ab := ab) (ea := ea) hne (i := i) (by omega) (zs := ownsL m (l.take i)) (ownP m (l.getD i (0, 0))).length 0 ver _ h _ _ (by omega) ?_ ?_ ?_ ?_ ?_ hg (by rw [List.take_zero, List.append_nil]; exact ha) hN fun t' h' ver' hN' u1 u2 u6 u7 hg' ha' => ?_
    · simp only [t1, sg_set, Nat.reduceEqDiff, ↓reduceIte]
    · simp only [t2, sg_set, Nat.reduceEqDiff, ↓reduceIte]
    · simp only [t6, sg_set, Nat.reduceEqDiff, ↓reduceIte]
    · simp only [t7, sg_set, Nat.reduceEqDiff, ↓reduceIte]
    · simp only [sg_set, Nat.reduceEqDiff, ↓reduceIte]
      rfl
    · simp only [u7, w1, RX, VOp.fresh, bxC, bsC, un, most, callsOf, seval, Int.reducePow, ↓reduceIte, Nat.reduceEqDiff, reduceCtorEq]
      refine ih (i + 1) ver' _ h' k Q (by omega) ?_ ?_ ?_ ?_ hg' (by rw [rtake_snoc (by omega), ownsL_snoc]; exact ha') hN' hK
      · simp only [u1, sg_set, Nat.reduceEqDiff, ↓reduceIte]
      · simp only [u2, sg_set, Nat.reduceEqDiff, ↓reduceIte]
      · simp only [u6, sg_set, Nat.reduceEqDiff, ↓reduceIte]
      · simp only [sg_set, Nat.reduceEqDiff, ↓reduceIte]
theorem rown_out (g : Pg P tab) {zs : List Int} {ab ea va : Nat} (n : Nat) :
    ∀ (i : Nat) (o : AV) (t : T AV) (h : Heap) (k : List Fr) (Q : Ex → T AV → Heap → Prop), i + n = 8 → h.get ab = some (.cells (met8 zs) ea va) → sg t 9 = o → SRow h o 1 (kc (metL zs i)) (metL zs i).length → (∀ c ∈ blkOf o, ab < c) → ab < h.next →
      sg t 6 = .ptr ab 0 → sg t 10 = .int .i64 i →
      (∀ t' h' o', sg t' 9 = o' → SRow h' o' 1 (kc (metL zs 8)) (metL zs 8).length → Un P k Q (.exit 4) t' h') → Lp P b40_2 t h (Un P k Q) := by
  induction n with
  | zero =>
    intro i o t h k Q hn ha t9 r hb hlt t6 t10 hK
    refine g.lpe b40_2.eq_1 ?_
    have c1 : ¬ ((i : Int) < 8) := by omega
    simp only [t10, c1, RX, VOp.fresh, bxC, bsC, un, most, callsOf, seval, Int.reducePow, ↓reduceIte, Nat.reduceEqDiff, reduceCtorEq]
    obtain rfl : i = 8 := by omega
    refine hK _ h o ?_ r
    simp only [t9, sg_set, Nat.reduceEqDiff, ↓reduceIte]
  | succ n ih =>
    intro i o t h k Q hn ha t9 r hb hlt t6 t10 hK
    refine g.lpe b40_2.eq_1 ?_
    have c1 : ((i : Int) < 8) := by omega
    have w1 : IntKind.i64.wrap ((i : Int) + 1) = ((i + 1 : Nat) : Int) := by rw [w64 (by omega) (by omega)]; push_cast; rfl
    have hia : ∀ hh : Heap, iaV hh 1 (some 8) (.ptr ab 0) (.int .i64 (i : Int)) = .val (.ptr ab i) hh := fun hh => by
      simp only [iaV]
      rw [if_pos ⟨by omega, by omega⟩, Int.toNat_natCast, Nat.mul_one, Nat.zero_add]
    have hp := met8_at (zs := zs) (d := i) (by omega)
    have hms := metL_succ zs i
    have hml := metL_len zs i
    by_cases hm : (i : Int) ∈ zs
    · rw [if_pos hm] at hms
      have hd : decide ((i : Int) ∈ zs) = true := decide_eq_true hm
      rw [hd] at hp
      have x2 := Ext.mk (h := h) (.cells [.int .i64 (i : Int)] 3 0)
      have n3 : (h.mk' h.next (.cells [.int .i64 (i : Int)] 3 0)).next = h.next + 1 := by rw [mk_next]; omega
      obtain ⟨o2, h3, e3, r3, n4, b4, k3⟩ := (r.ext x2).push (nb := h.next) (eb := 3) (vb := 0) (c := [.int .i64 (i : Int)]) (by rw [Heap.get_mk, if_pos rfl]) rfl rfl (bytes := 8) (by unfold most2; omega) 3
      have g3 : h3.get ab = some (.cells (met8 zs) ea va) := by rw [k3 ab (by omega) (fun hc => by have := hb ab hc; omega), x2.2 ab hlt]; exact ha
      simp only [t6, t9, t10, c1, hia, ha, hp, e3, w1, RW, RX, VOp.fresh, bxC, bsC, un, most, callsOf, seval, Int.reducePow, ↓reduceIte, Nat.reduceEqDiff, reduceCtorEq]
      refine ih (i + 1) o2 _ h3 k Q (by omega) g3 ?_ ?_ ?_ (by omega) ?_ ?_ hK
      · simp only [sg_set, Nat.reduceEqDiff, ↓reduceIte]
      · rw [hms, List.length_append]
        unfold kc at r3 ⊢
        rw [List.map_append]
        exact r3
      · intro c hc
        rcases b4 c hc with e | e
        · exact hb c e
        · omega
      · simp only [t6, sg_set, Nat.reduceEqDiff, ↓reduceIte]
      · simp only [sg_set, Nat.reduceEqDiff, ↓reduceIte]
    · rw [if_neg hm] at hms
      have hd : decide ((i : Int) ∈ zs) = false := decide_eq_false hm
      rw [hd] at hp
      simp only [t6, t9, t10, c1, hia, ha, hp, w1, RW, RX, VOp.fresh, bxC, bsC, un, most, callsOf, seval, Int.reducePow, ↓reduceIte, Nat.reduceEqDiff, reduceCtorEq]
      refine ih (i + 1) o _ h k Q (by omega) ha ?_ (by rw [hms]; exact r) hb hlt ?_ ?_ hK
      · simp only [t9, sg_set, Nat.reduceEqDiff, ↓reduceIte]
      · simp only [t6, sg_set, Nat.reduceEqDiff, ↓reduceIte]
      · simp only [sg_set, Nat.reduceEqDiff, ↓reduceIte]
theorem rowners_pu (g : Pg P tab) {m : Mp} {v u : AV} (hv : IsL 8 RInt v m.starts) (hu : IsL 8 RInt u m.owners) {l : Rgs} {w : AV} (hw : IsL 16 RRg w l) :
    Pu P 40 [.agg [.int .i64 m.epoch, v, u], w] (fun z => (¬ (mpOk 8 m ∧ Sep (-1) l) ∧ z = .tup [.nils, .int .i64 700]) ∨ (mpOk 8 m ∧ Sep (-1) l ∧ ∃ W y, OwnsR m l W ∧ IsL 8 RInt y W ∧ z = .tup [y, .int .i64 0])) := by
  refine g.pu (vf := v40) rfl rfl ?_
  simp only [v40, RW, RX, VOp.fresh, bxC, bsC, un, most, callsOf, seval, Int.reducePow, ↓reduceIte, Nat.reduceEqDiff, reduceCtorEq]
  refine (rMap_pu g hv hu).go (by simp [AV.tolds, AV.told, hv.told tInt, hu.told tInt]) ?_
  rintro _ ⟨b, rfl, hb⟩
  cases b with
  | false =>
    have ho : ¬ mpOk 8 m := fun h => by have := hb.2 h; cases this
    simp only [RW, RX, VOp.fresh, bxC, bsC, un, most, callsOf, seval, Int.reducePow, ↓reduceIte, Nat.reduceEqDiff, reduceCtorEq]
    exact ⟨_, .tup (.cons .nils (.cons (.int _ _) .nil)), .inl ⟨fun h => ho h.1, rfl⟩⟩
  | true =>
    have ok : mpOk 8 m := hb.1 rfl
    simp only [RW, RX, VOp.fresh, bxC, bsC, un, most, callsOf, seval, Int.reducePow, ↓reduceIte, Nat.reduceEqDiff, reduceCtorEq]
    refine (dmay_pu g hw).go (by simp [AV.tolds, hw.told tRg]) ?_
    rintro _ rfl
    cases hl : sepB (-1) l with
    | false =>
      have ho : ¬ Sep (-1) l := fun h => by rw [sepB_iff.2 h] at hl; cases hl
      simp only [RW, RX, VOp.fresh, bxC, bsC, un, most, callsOf, seval, Int.reducePow, ↓reduceIte, Nat.reduceEqDiff, reduceCtorEq]
      exact ⟨_, .tup (.cons .nils (.cons (.int _ _) .nil)), .inl ⟨fun h => ho h.2, rfl⟩⟩
    | true =>
      have hsep := sepB_iff.1 hl
      simp only [RW, RX, VOp.fresh, bxC, bsC, un, most, callsOf, seval, Int.reducePow, ↓reduceIte, Nat.reduceEqDiff, reduceCtorEq]
      have e0 : met8 (ownsL m (l.take 0)) = [.bool false, .bool false, .bool false, .bool false, .bool false, .bool false, .bool false, .bool false] := by
        rw [List.take_zero]; rfl
      refine rown_loop g hv hu ok hw hsep (mb := 0) (e2 := 24) (v2 := 0) (ab := 1) (ea := 112) (by decide) l.length 0 0 _ _ _ _ (by omega) ?_ ?_ ?_ ?_ rfl (by rw [e0]; rfl) (by rw [mk_next, mk_next]; simp) fun t' h' ver' hN u6 ha => ?_
      · simp only [sg_set, Nat.reduceEqDiff, ↓reduceIte]
      · simp only [sg_set, Nat.reduceEqDiff, ↓reduceIte]
      · simp only [sg_set, Nat.reduceEqDiff, ↓reduceIte]
      · simp only [sg_set, Nat.reduceEqDiff, ↓reduceIte]
        rfl
      · simp only [u6, RX, VOp.fresh, bxC, bsC, un, most, callsOf, seval, Int.reducePow, ↓reduceIte, Nat.reduceEqDiff, reduceCtorEq]
        refine rown_out g (zs := ownsL m l) (ab := 1) (ea := 112) (va := ver') 8 0 .nils _ h' _ _ (by omega) ha ?_ (.inl ⟨rfl, rfl, rfl⟩) (fun c hc => by cases hc) hN ?_ ?_ fun t2 h2 o2 u9 r => ?_
        · simp only [sg_set, Nat.reduceEqDiff, ↓reduceIte]
        · simp only [u6, sg_set, Nat.reduceEqDiff, ↓reduceIte]
        · simp only [sg_set, Nat.reduceEqDiff, ↓reduceIte]
          rfl
        · simp only [u9, RX, VOp.fresh, bxC, bsC, un, most, callsOf, seval, Int.reducePow, ↓reduceIte, Nat.reduceEqDiff, reduceCtorEq]
          have hup : OwnsR m l (metL (ownsL m l) 8) := ⟨metL_inc _ _, fun x => by
            rw [metL_mem]
            exact ⟨fun h => h.1, fun h => ⟨h, by have := owns_8 ok x h; omega, by have := owns_8 ok x h; omega⟩⟩⟩
          rcases r with ⟨rfl, hz, _⟩ | ⟨b, e, ver, rfl, hb2, hg, hln, hone⟩
          · refine ⟨_, .tup (.cons .nils (.cons (.int _ _) .nil)), .inr ⟨ok, hsep, metL (ownsL m l) 8, .nils, hup, ?_, rfl⟩⟩
            rw [List.eq_nil_of_length_eq_zero hz]
            exact isL_nil _ _
          · refine ⟨_, .tup (.cons (?_ : Fz false h2 _ (.rs (kc (metL (ownsL m l) 8)) (metL (ownsL m l) 8).length)) (.cons (.int _ _) .nil)), .inr ⟨ok, hsep, metL (ownsL m l) 8, _, hup, up_is hup fun x hx => owns_8 ok x hx, rfl⟩⟩
            generalize metL (ownsL m l) 8 = W at *
            by_cases hz : W.length = 0
            · rw [hz, show kc W = [] from List.eq_nil_of_length_eq_zero (by rw [kc_len, hz])]
              exact .sl0
            · refine .sl (by omega) hg (cs := kc W) ?_ (scals_fz (by simp [kc, scal1]))
              rw [cut_eq, List.drop_zero, Nat.mul_one, ← kc_len, List.take_length, if_pos rfl]
end
end Go.Proofs.Ythmkenkjfmbkiaa.VM
namespace Go.Proofs.Ythmkenkjfmbkiaa.VM
attribute [local irreducible] Af Nx EvO Ev Un Gd Cd EvR EvQ EvC Nc Gc Lp EvM NxM AfM GdM EvMR EvMQ EvMD EvMC Nm Gm
section
variable {P : Program}
theorem around_pu (g : Pg P tab) (p q : Pt) : Pu P 78 [aPt p, aPt q] (fun v => v = aBx ⟨imn p.x q.x, imn p.y q.y, imx p.x q.x, imx p.y q.y⟩) := by
  refine g.pu (vf := v78) rfl rfl ?_
  simp only [v78, aPt, aBx, fmin, fmax, RW, RX, VOp.fresh, bxC, bsC, un, most, callsOf, seval, Int.reducePow, ↓reduceIte, Nat.reduceEqDiff, reduceCtorEq]
  exact ⟨_, .agg (scals_fz rfl), rfl⟩
theorem rjoin_pu (g : Pg P tab) (a b : Bx) : Pu P 79 [aBx a, aBx b] (fun v => v = if bOk a ∧ bOk b then .tup [aBx (bxJ a b), .int .i64 0] else .tup [aBx ⟨0, 0, 0, 0⟩, .int .i64 300]) := by
  refine g.pu (vf := v79) rfl rfl ?_
  simp only [v79, aBx, RW, RX, VOp.fresh, bxC, bsC, un, most, callsOf, seval, Int.reducePow, ↓reduceIte, Nat.reduceEqDiff, reduceCtorEq]
  refine (dboxMay_pu g a.x0 a.y0 a.x1 a.y1).go rfl ?_
  rintro _ rfl
  by_cases ha : bOk a
  · have ha' : decide (bxOk a.x0 a.y0 a.x1 a.y1) = true := decide_eq_true ha
    rw [ha']
    simp only [RX, VOp.fresh, bxC, bsC, un, most, callsOf, seval, Int.reducePow, ↓reduceIte, Nat.reduceEqDiff, reduceCtorEq]
    refine (dboxMay_pu g b.x0 b.y0 b.x1 b.y1).go rfl ?_
    rintro _ rfl
    by_cases hb : bOk b
    · have hb' : decide (bxOk b.x0 b.y0 b.x1 b.y1) = true := decide_eq_true hb
      rw [hb']
      simp only [fmin, fmax, bxJ, ha, hb, RW, RX, VOp.fresh, bxC, bsC, un, most, callsOf, seval, Int.reducePow, ↓reduceIte, Nat.reduceEqDiff, reduceCtorEq]
      exact ⟨_, .tup (.cons (.agg (scals_fz rfl)) (.cons (.int _ _) .nil)), rfl⟩
    · have hb' : decide (bxOk b.x0 b.y0 b.x1 b.y1) = false := decide_eq_false hb
      rw [hb']
      simp only [ha, hb, RW, RX, VOp.fresh, bxC, bsC, un, most, callsOf, seval, Int.reducePow, ↓reduceIte, Nat.reduceEqDiff, reduceCtorEq]
      exact ⟨_, .tup (.cons (.agg (scals_fz rfl)) (.cons (.int _ _) .nil)), rfl⟩
  · have ha' : decide (bxOk a.x0 a.y0 a.x1 a.y1) = false := decide_eq_false ha
    rw [ha']
    simp only [ha, RW, RX, VOp.fresh, bxC, bsC, un, most, callsOf, seval, Int.reducePow, ↓reduceIte, Nat.reduceEqDiff, reduceCtorEq]
    exact ⟨_, .tup (.cons (.agg (scals_fz rfl)) (.cons (.int _ _) .nil)), rfl⟩
def bxCs (b : Bx) : List AV := [.int .i64 b.x0, .int .i64 b.y0, .int .i64 b.x1, .int .i64 b.y1]
theorem rbox_in (g : Pg P tab) {f : Feat} {v a0 a1 : AV} (hv : IsL 24 RRing v f.rings) (ho : featOk f) {fb e2 n2 tb : Nat} (hne : tb ≠ fb) {i : Nat} (hi : i < f.rings.length) {b0 : Bx} (hb0 : bOk b0) {N : Nat} {X : Option Blk} {ob : Nat} (hob : ob ≠ tb) (n : Nat) :
    ∀ (j ver : Nat) (t : T AV) (h : Heap) (k : List Fr) (Q : Ex → T AV → Heap → Prop), j + n = (f.rings.getD i []).length → sg t 1 = .ptr fb 0 → sg t 2 = .ptr ob 0 → sg t 4 = .ptr tb 0 → sg t 5 = .int .i64 i → sg t 6 = .int .i64 j →
    h.get fb = some (.cells [a0, a1, v] e2 n2) → h.get ob = X → h.get tb = some (.cells (bxCs (bxAll ((f.rings.getD i []).take j) b0)) 96 ver) →
    (∀ t' h' ver', sg t' 1 = .ptr fb 0 → sg t' 2 = .ptr ob 0 → sg t' 4 = .ptr tb 0 → sg t' 5 = .int .i64 i → h'.get fb = some (.cells [a0, a1, v] e2 n2) → h'.get ob = X → h'.get tb = some (.cells (bxCs (bxAll (f.rings.getD i []) b0)) 96 ver') → Un P k Q (.exit 2) t' h') → Lp P b53_0 t h (Un P k Q) := by
  obtain ⟨rv, r1, hrv, _, g1⟩ := getRing hv i hi
  have hbd := hrv.bound (by decide)
  have hbi := hv.bound (by decide)
  have hpt : ∀ q ∈ f.rings.getD i [], ptOk q := fun q hq => ho.pts q (List.mem_flatten.2 ⟨_, by rw [getD_ring hi]; exact List.getElem_mem hi, hq⟩)
  induction n with
  | zero =>
    intro j ver t h k Q hn t1 t2 t4 t5 t6 hf hx hb hK
    refine g.lpe b53_0.eq_1 ?_
    have c1 : ¬ ((j : Int) < ((f.rings.getD i []).length : Int)) := by omega
    simp only [t1, t5, t6, hf, g1, hrv.len, c1, RX, VOp.fresh, bxC, bsC, un, most, callsOf, seval, Int.reducePow, ↓reduceIte, Nat.reduceEqDiff, reduceCtorEq]
    rw [List.take_of_length_le (by omega)] at hb
    refine hK _ h ver ?_ ?_ ?_ ?_ hf hx hb
    · simp only [t1, sg_set, Nat.reduceEqDiff, ↓reduceIte]
    · simp only [t2, sg_set, Nat.reduceEqDiff, ↓reduceIte]
    · simp only [t4, sg_set, Nat.reduceEqDiff, ↓reduceIte]
    · simp only [t5, sg_set, Nat.reduceEqDiff, ↓reduceIte]
  | succ n ih =>
    intro j ver t h k Q hn t1 t2 t4 t5 t6 hf hx hb hK
    refine g.lpe b53_0.eq_1 ?_
    have c1 : ((j : Int) < ((f.rings.getD i []).length : Int)) := by omega
    have w1 : IntKind.i64.wrap ((j : Int) + 1) = ((j + 1 : Nat) : Int) := by rw [w64 (by omega) (by omega)]; push_cast; rfl
    obtain ⟨r2, _, g2⟩ := getPt hrv j (by omega)
    have hjl : j < (f.rings.getD i []).length := by omega
    have hts : (f.rings.getD i []).take (j + 1) = (f.rings.getD i []).take j ++ [(f.rings.getD i []).getD j ⟨0, 0⟩] := by rw [List.take_succ_eq_append_getElem hjl, getP hjl]
    have hp : ptOk ((f.rings.getD i []).getD j ⟨0, 0⟩) := hpt _ (by rw [getP hjl]; exact List.getElem_mem hjl)
    have hB := bxAll_ok (l := (f.rings.getD i []).take j) (fun q hq => hpt q (List.mem_of_mem_take hq)) hb0
    generalize (f.rings.getD i []).getD j ⟨0, 0⟩ = p at *
    generalize hBe : bxAll ((f.rings.getD i []).take j) b0 = B at *
    have ie : ∀ x : Int, imn x x = x ∧ imx x x = x := fun x => by unfold imn imx; constructor <;> split <;> rfl
    have o78 : OK P 78 [.agg [.int .i64 p.x, .int .i64 p.y], .agg [.int .i64 p.x, .int .i64 p.y]] h (.agg [.int .i64 p.x, .int .i64 p.y, .int .i64 p.x, .int .i64 p.y]) h := by
      have := (around_pu g p p).exact (h := h) rfl
      rwa [(ie p.x).1, (ie p.x).2, (ie p.y).1, (ie p.y).2] at this
    have o79 : OK P 79 [.agg [.int .i64 B.x0, .int .i64 B.y0, .int .i64 B.x1, .int .i64 B.y1], .agg [.int .i64 p.x, .int .i64 p.y, .int .i64 p.x, .int .i64 p.y]] h (.tup [.agg [.int .i64 (bxJ B (bxPt p)).x0, .int .i64 (bxJ B (bxPt p)).y0, .int .i64 (bxJ B (bxPt p)).x1, .int .i64 (bxJ B (bxPt p)).y1], .int .i64 0]) h := by
      have := (rjoin_pu g B (bxPt p)).exact (h := h) rfl
      rwa [if_pos ⟨hB, bxPt_ok hp⟩] at this
    obtain ⟨c, c1', c2⟩ : ∃ c : Nat → List AV → Heap → AV × Heap, (∀ a h, c 78 a h = (.agg [.int .i64 p.x, .int .i64 p.y, .int .i64 p.x, .int .i64 p.y], h)) ∧ (∀ a h, c 79 a h = (.tup [.agg [.int .i64 (bxJ B (bxPt p)).x0, .int .i64 (bxJ B (bxPt p)).y0, .int .i64 (bxJ B (bxPt p)).x1, .int .i64 (bxJ B (bxPt p)).y1], .int .i64 0], h)) :=
      ⟨fun f _ h => if f = 78 then (.agg [.int .i64 p.x, .int .i64 p.y, .int .i64 p.x, .int .i64 p.y], h) else (.tup [.agg [.int .i64 (bxJ B (bxPt p)).x0, .int .i64 (bxJ B (bxPt p)).y0, .int .i64 (bxJ B (bxPt p)).x1, .int .i64 (bxJ B (bxPt p)).y1], .int .i64 0], h), fun _ _ => rfl, fun _ _ => rfl⟩
    unfold bxCs at hb
    simp only [t1, t5, t6, hf, g1, hrv.len, c1, RW, RX, VOp.fresh, bxC, bsC, un, most, callsOf, seval, Int.reducePow, ↓reduceIte, Nat.reduceEqDiff, reduceCtorEq]
    refine EvD.sameN 19 c rfl ?_
    simp only [t1, t4, t5, t6, hf, hb, g1, g2, c1', c2, o78, o79, w1, RW, RX, VOp.fresh, bxC, bsC, un, most, callsOf, seval, Int.reducePow, ↓reduceIte, Nat.reduceEqDiff, reduceCtorEq]
    refine ih (j + 1) (ver + 1) _ _ k Q (by omega) ?_ ?_ ?_ ?_ ?_ (by rw [Heap.get_put, if_neg (Ne.symm hne)]; exact hf) (by rw [Heap.get_put, if_neg hob]; exact hx) (by rw [Heap.get_put, if_pos rfl, hts, bxAll_snoc, hBe]; rfl) hK
    · simp only [t1, sg_set, Nat.reduceEqDiff, ↓reduceIte]
    · simp only [t2, sg_set, Nat.reduceEqDiff, ↓reduceIte]
    · simp only [t4, sg_set, Nat.reduceEqDiff, ↓reduceIte]
    · simp only [t5, sg_set, Nat.reduceEqDiff, ↓reduceIte]
    · simp only [sg_set, Nat.reduceEqDiff, ↓reduceIte]
theorem bxAll_app (l k : List Pt) (b : Bx) : bxAll (l ++ k) b = bxAll k (bxAll l b) := by simp [bxAll]
theorem rbox_loop (g : Pg P tab) {f : Feat} {v a0 a1 : AV} (hv : IsL 24 RRing v f.rings) (ho : featOk f) {fb e2 n2 tb : Nat} (hne : tb ≠ fb) {b0 : Bx} (hb0 : bOk b0) {X : Option Blk} {ob : Nat} (hob : ob ≠ tb) (n : Nat) :
    ∀ (i ver : Nat) (t : T AV) (h : Heap) (k : List Fr) (Q : Ex → T AV → Heap → Prop), i + n = f.rings.length → sg t 1 = .ptr fb 0 → sg t 2 = .ptr ob 0 → sg t 4 = .ptr tb 0 → sg t 5 = .int .i64 i →
    h.get fb = some (.cells [a0, a1, v] e2 n2) → h.get ob = X → h.get tb = some (.cells (bxCs (bxAll (f.rings.take i).flatten b0)) 96 ver) →
    (∀ t' h' ver', sg t' 2 = .ptr ob 0 → sg t' 4 = .ptr tb 0 → h'.get ob = X → h'.get tb = some (.cells (bxCs (bxAll (fPts f) b0)) 96 ver') → Un P k Q (.exit 0) t' h') → Lp P b53_1 t h (Un P k Q) := by
  have hbi := hv.bound (by decide)
  induction n with
  | zero =>
    intro i ver t h k Q hn t1 t2 t4 t5 hf hx hb hK
    refine g.lpe b53_1.eq_1 ?_
    have c1 : ¬ ((i : Int) < (f.rings.length : Int)) := by omega
    simp only [t1, t5, hf, hv.len, c1, RX, VOp.fresh, bxC, bsC, un, most, callsOf, seval, Int.reducePow, ↓reduceIte, Nat.reduceEqDiff, reduceCtorEq]
    rw [List.take_of_length_le (by omega)] at hb
    refine hK _ h ver ?_ ?_ hx hb
    · simp only [t2, sg_set, Nat.reduceEqDiff, ↓reduceIte]
    · simp only [t4, sg_set, Nat.reduceEqDiff, ↓reduceIte]
  | succ n ih =>
    intro i ver t h k Q hn t1 t2 t4 t5 hf hx hb hK
    refine g.lpe b53_1.eq_1 ?_
    have c1 : ((i : Int) < (f.rings.length : Int)) := by omega
    have w1 : IntKind.i64.wrap ((i : Int) + 1) = ((i + 1 : Nat) : Int) := by rw [w64 (by omega) (by omega)]; push_cast; rfl
    have hi : i < f.rings.length := by omega
    have ef : (f.rings.take (i + 1)).flatten = (f.rings.take i).flatten ++ f.rings.getD i [] := by
      rw [List.take_succ_eq_append_getElem hi, List.flatten_append, getD_ring hi]; simp
    have hsub : ∀ q ∈ (f.rings.take i).flatten, ptOk q := fun q hq => by
      obtain ⟨r, hr, hq⟩ := List.mem_flatten.1 hq
      exact ho.pts q (List.mem_flatten.2 ⟨r, List.mem_of_mem_take hr, hq⟩)
    simp only [t1, t5, hf, hv.len, c1, RX, VOp.fresh, bxC, bsC, un, most, callsOf, seval, Int.reducePow, ↓reduceIte, Nat.reduceEqDiff, reduceCtorEq]
    refine rbox_in g hv ho (fb := fb) (e2 := e2) (n2 := n2) (tb := tb) hne hi (bxAll_ok hsub hb0) (N := 0) (X := X) hob (f.rings.getD i []).length 0 ver _ h _ _ (by omega) ?_ ?_ ?_ ?_ ?_ hf hx (by rw [List.take_zero]; exact hb) fun t' h' ver' u1 u2 u4 u5 hf' hx' hb' => ?_
    · simp only [t1, sg_set, Nat.reduceEqDiff, ↓reduceIte]
    · simp only [t2, sg_set, Nat.reduceEqDiff, ↓reduceIte]
    · simp only [t4, sg_set, Nat.reduceEqDiff, ↓reduceIte]
    · simp only [t5, sg_set, Nat.reduceEqDiff, ↓reduceIte]
    · simp only [sg_set, Nat.reduceEqDiff, ↓reduceIte]
      rfl
    · simp only [u5, w1, RX, VOp.fresh, bxC, bsC, un, most, callsOf, seval, Int.reducePow, ↓reduceIte, Nat.reduceEqDiff, reduceCtorEq]
      refine ih (i + 1) ver' _ h' k Q (by omega) ?_ ?_ ?_ ?_ hf' hx' (by rw [ef, bxAll_app]; exact hb') hK
      · simp only [u1, sg_set, Nat.reduceEqDiff, ↓reduceIte]
      · simp only [u2, sg_set, Nat.reduceEqDiff, ↓reduceIte]
      · simp only [u4, sg_set, Nat.reduceEqDiff, ↓reduceIte]
      · simp only [sg_set, Nat.reduceEqDiff, ↓reduceIte]
theorem rbox_pu (g : Pg P tab) {f : Feat} {v : AV} (hv : IsL 24 RRing v f.rings) : Pu P 53 [.agg [.int .i64 f.id, .int .i64 f.shape, v]] (fun w => (¬ featOk f ∧ w = .tup [aBx ⟨0, 0, 0, 0⟩, .int .i64 400]) ∨ (featOk f ∧ w = .tup [aBx (fBox f), .int .i64 0])) := by
  refine g.pu (vf := v53) rfl rfl ?_
  simp only [v53, RW, RX, VOp.fresh, bxC, bsC, un, most, callsOf, seval, Int.reducePow, ↓reduceIte, Nat.reduceEqDiff, reduceCtorEq]
  refine (rShape_pu g hv).go (by simp [AV.tolds, AV.told, hv.told tRing]) ?_
  rintro _ ⟨b, rfl, hb⟩
  cases b with
  | false =>
    have ho : ¬ featOk f := fun h => by have := hb.2 h; cases this
    simp only [RW, RX, VOp.fresh, bxC, bsC, un, most, callsOf, seval, Int.reducePow, ↓reduceIte, Nat.reduceEqDiff, reduceCtorEq]
    exact ⟨_, .tup (.cons (.agg (scals_fz rfl)) (.cons (.int _ _) .nil)), .inl ⟨ho, rfl⟩⟩
  | true =>
    have ho : featOk f := hb.1 rfl
    obtain ⟨h0, h1⟩ := ho.first
    obtain ⟨rv, r1, hrv, t1, g1⟩ := getRing hv 0 h0
    obtain ⟨r2, t2, g2⟩ := getPt hrv 0 h1
    simp only [Int.natCast_zero, Int.ofNat_zero, Int.ofNat_eq_natCast] at g1 g2
    simp only [g1, g2, RW, RX, VOp.fresh, bxC, bsC, un, most, callsOf, seval, Int.reducePow, ↓reduceIte, Nat.reduceEqDiff, reduceCtorEq]
    obtain ⟨p0, hp0⟩ : ∃ p0, (f.rings.getD 0 []).getD 0 ⟨0, 0⟩ = p0 := ⟨_, rfl⟩
    rw [hp0]
    refine (around_pu g p0 p0).go rfl ?_
    rintro _ rfl
    have ie : ∀ x : Int, imn x x = x ∧ imx x x = x := fun x => by unfold imn imx; constructor <;> split <;> rfl
    simp only [(ie p0.x).1, (ie p0.x).2, (ie p0.y).1, (ie p0.y).2, aBx]
    simp only [RW, RX, VOp.fresh, bxC, bsC, un, most, callsOf, seval, Int.reducePow, ↓reduceIte, Nat.reduceEqDiff, reduceCtorEq]
    refine rbox_loop g hv ho (fb := 0) (e2 := 50) (n2 := 0) (tb := 15) (by decide) (b0 := bxPt p0) (bxPt_ok (ho.pts p0 ?_)) (X := some (.cells [.int .i64 0, .int .i64 0, .int .i64 0, .int .i64 0] 96 0)) (ob := 1) (by decide) f.rings.length 0 1 _ _ _ _ (by omega) ?_ ?_ ?_ ?_ rfl rfl rfl fun t' h' ver' u2 u4 k1 k2 => ?_
    · rw [← hp0]
      exact List.mem_flatten.2 ⟨f.rings.getD 0 [], by rw [getD_ring h0]; exact List.getElem_mem h0, by rw [getP h1]; exact List.getElem_mem h1⟩
    · simp only [sg_set, Nat.reduceEqDiff, ↓reduceIte]
    · simp only [sg_set, Nat.reduceEqDiff, ↓reduceIte]
    · simp only [sg_set, Nat.reduceEqDiff, ↓reduceIte]
    · simp only [sg_set, Nat.reduceEqDiff, ↓reduceIte]
      rfl
    · unfold bxCs at k2
      simp only [u2, u4, k1, k2, RW, RX, VOp.fresh, bxC, bsC, un, most, callsOf, seval, Int.reducePow, ↓reduceIte, Nat.reduceEqDiff, reduceCtorEq]
      exact ⟨_, .tup (.cons (.agg (scals_fz rfl)) (.cons (.int _ _) .nil)), .inr ⟨ho, by unfold fBox; rw [hp0]⟩⟩
end
end Go.Proofs.Ythmkenkjfmbkiaa.VM
namespace Go.Proofs.Ythmkenkjfmbkiaa.VM
attribute [local irreducible] Af Nx EvO Ev Un Gd Cd EvR EvQ EvC Nc Gc Lp EvM NxM AfM GdM EvMR EvMQ EvMD EvMC Nm Gm
theorem up_uniq : ∀ {W W' : List Int}, W.Pairwise (· < ·) → W'.Pairwise (· < ·) → (∀ x, x ∈ W ↔ x ∈ W') → W = W'
  | [], [], _, _, _ => rfl
  | [], y :: t, _, _, h => absurd ((h y).2 (.head _)) (by simp)
  | x :: s, [], _, _, h => absurd ((h x).1 (.head _)) (by simp)
  | x :: s, y :: t, hp, hq, h => by
    rw [List.pairwise_cons] at hp hq
    have exy : x = y := by
      rcases List.mem_cons.1 ((h x).1 (.head _)) with e | e
      · exact e
      · rcases List.mem_cons.1 ((h y).2 (.head _)) with e2 | e2
        · exact e2.symm
        · have h1 := hq.1 x e; have h2 := hp.1 y e2; omega
    subst exy
    rw [up_uniq hp.2 hq.2 fun z => ?_]
    constructor
    · intro hz
      rcases List.mem_cons.1 ((h z).1 (.tail _ hz)) with e | e
      · subst e; have := hp.1 z hz; omega
      · exact e
    · intro hz
      rcases List.mem_cons.1 ((h z).2 (.tail _ hz)) with e | e
      · subst e; have := hq.1 z hz; omega
      · exact e
theorem OwnsR.uniq {m : Mp} {l : Rgs} {W W' : List Int} (h : OwnsR m l W) (k : OwnsR m l W') : W = W' := up_uniq h.1 k.1 fun x => (h.2 x).trans (k.2 x).symm
def cvB (b : Bx) : Rgs := bxCov b.x0 b.y0 b.x1 b.y1
/-- a node holds a feature -/
def HoldsP (m : Mp) (node : Int) (f : Feat) : Prop := featOk f ∧ mpOk 8 m ∧ node ∈ ownsL m (cvB (fBox f))
theorem fBox_ok {f : Feat} (h : featOk f) : bOk (fBox f) := by
  obtain ⟨h0, h1⟩ := h.first
  refine bxAll_ok (fun q hq => h.pts q hq) (bxPt_ok (h.pts _ ?_))
  exact List.mem_flatten.2 ⟨f.rings.getD 0 [], by rw [getD_ring h0]; exact List.getElem_mem h0, by rw [getP h1]; exact List.getElem_mem h1⟩
section
variable {P : Program}
theorem idx_loop (g : Pg P tab) {W : List Int} {y : AV} (hy : IsL 8 RInt y W) (x : Int) (n : Nat) : ∀ (i : Nat) (t : T AV) (h : Heap) (k : List Fr) (Q : Ex → T AV → Heap → Prop), i + n = W.length → sg t 0 = y → sg t 1 = .int .i64 x → sg t 7 = .int .i64 W.length → sg t 8 = .int .i64 i →
    (x ∉ W.drop i → ∀ t', Un P k Q (.exit 0) t' h) → (∀ (j : Nat) t', x ∈ W.drop i → sg t' 4 = .int .i64 j → Un P k Q .ret t' h) → Lp P b95_0 t h (Un P k Q) := by
  have hbd := hy.bound (by decide)
  induction n with
  | zero =>
    intro i t h k Q hn t0 t1 t7 t8 hK hR
    refine g.lpe b95_0.eq_1 ?_
    have c1 : ¬ ((i : Int) < (W.length : Int)) := by omega
    simp only [t7, t8, c1, RX, VOp.fresh, bxC, bsC, un, most, callsOf, seval, Int.reducePow, ↓reduceIte, Nat.reduceEqDiff, reduceCtorEq]
    exact hK (by rw [List.drop_of_length_le (by omega)]; simp) _
  | succ n ih =>
    intro i t h k Q hn t0 t1 t7 t8 hK hR
    refine g.lpe b95_0.eq_1 ?_
    have c1 : ((i : Int) < (W.length : Int)) := by omega
    have w1 : IntKind.i64.wrap ((i : Int) + 1) = ((i + 1 : Nat) : Int) := by rw [w64 (by omega) (by omega)]; push_cast; rfl
    obtain ⟨r1, _, g1⟩ := getInt hy i (by omega)
    have hd : W.drop i = W.getD i 0 :: W.drop (i + 1) := by rw [List.drop_eq_getElem_cons (by omega), getN (by omega)]
    by_cases he : x = W.getD i 0
    · simp only [t0, t1, t7, t8, c1, g1, he, RX, VOp.fresh, bxC, bsC, un, most, callsOf, seval, Int.reducePow, ↓reduceIte, Nat.reduceEqDiff, reduceCtorEq]
      refine hR i _ (by rw [hd, he]; exact .head _) ?_
      simp only [sg_set, Nat.reduceEqDiff, ↓reduceIte]
    · simp only [t0, t1, t7, t8, c1, g1, he, w1, RX, VOp.fresh, bxC, bsC, un, most, callsOf, seval, Int.reducePow, ↓reduceIte, Nat.reduceEqDiff, reduceCtorEq]
      have hm : x ∈ W.drop i ↔ x ∈ W.drop (i + 1) := by rw [hd, List.mem_cons]; exact ⟨fun h => h.resolve_left he, .inr⟩
      refine ih (i + 1) _ h k Q (by omega) ?_ ?_ ?_ ?_ (fun hn => hK (fun h => hn (hm.1 h))) (fun j t' hj => hR j t' (hm.2 hj))
      · simp only [t0, sg_set, Nat.reduceEqDiff, ↓reduceIte]
      · simp only [t1, sg_set, Nat.reduceEqDiff, ↓reduceIte]
      · simp only [t7, sg_set, Nat.reduceEqDiff, ↓reduceIte]
      · simp only [sg_set, Nat.reduceEqDiff, ↓reduceIte]
theorem index_pu (g : Pg P tab) {W : List Int} {y : AV} (hy : IsL 8 RInt y W) (x : Int) : Pu P 95 [y, .int .i64 x] (fun v => ∃ n : Int, v = .int .i64 n ∧ (0 ≤ n ↔ x ∈ W)) := by
  refine g.pu (vf := v95) rfl rfl ?_
  simp only [v95, hy.len, RX, VOp.fresh, bxC, bsC, un, most, callsOf, seval, Int.reducePow, ↓reduceIte, Nat.reduceEqDiff, reduceCtorEq]
  refine idx_loop g hy x W.length 0 _ _ _ _ (by omega) ?_ ?_ ?_ ?_ (fun hn t' => ?_) (fun j t' hj t4 => ?_)
  · simp only [sg_set, Nat.reduceEqDiff, ↓reduceIte]
  · simp only [sg_set, Nat.reduceEqDiff, ↓reduceIte]
  · simp only [sg_set, Nat.reduceEqDiff, ↓reduceIte]
  · simp only [sg_set, Nat.reduceEqDiff, ↓reduceIte]
    rfl
  · simp only [RX, VOp.fresh, bxC, bsC, un, most, callsOf, seval, Int.reducePow, ↓reduceIte, Nat.reduceEqDiff, reduceCtorEq]
    exact ⟨-1, rfl, ⟨fun h => absurd h (by decide), fun h => absurd h hn⟩⟩
  · simp only [t4, RX, VOp.fresh, bxC, bsC, un, most, callsOf, seval, Int.reducePow, ↓reduceIte, Nat.reduceEqDiff, reduceCtorEq]
    exact ⟨j, rfl, ⟨fun _ => hj, fun _ => by omega⟩⟩
theorem contains_pu (g : Pg P tab) {W : List Int} {y : AV} (hy : IsL 8 RInt y W) (x : Int) : Pu P 70 [y, .int .i64 x] (IsB (x ∈ W)) := by
  refine g.pu (vf := v70) rfl rfl ?_
  simp only [v70, RX, VOp.fresh, bxC, bsC, un, most, callsOf, seval, Int.reducePow, ↓reduceIte, Nat.reduceEqDiff, reduceCtorEq]
  refine (index_pu g hy x).go (by simp [AV.tolds, AV.told, hy.told tInt]) ?_
  rintro _ ⟨n, rfl, hn⟩
  by_cases h0 : 0 ≤ n
  · simp only [h0, RX, VOp.fresh, bxC, bsC, un, most, callsOf, seval, Int.reducePow, ↓reduceIte, Nat.reduceEqDiff, reduceCtorEq]
    exact hn.1 h0
  · simp only [h0, RX, VOp.fresh, bxC, bsC, un, most, callsOf, seval, Int.reducePow, ↓reduceIte, Nat.reduceEqDiff, reduceCtorEq]
    exact fun h => h0 (hn.2 h)
theorem holds_pu (g : Pg P tab) (hs : SortI P) {m : Mp} {v u : AV} (hv : IsL 8 RInt v m.starts) (hu : IsL 8 RInt u m.owners) {f : Feat} {fv : AV} (hf : IsL 24 RRing fv f.rings) (node : Int) :
    Pu P 43 [.agg [.int .i64 m.epoch, v, u], .int .i64 node, .agg [.int .i64 f.id, .int .i64 f.shape, fv]] (IsB (HoldsP m node f)) := by
  refine g.pu (vf := v43) rfl rfl ?_
  simp only [v43, RW, RX, VOp.fresh, bxC, bsC, un, most, callsOf, seval, Int.reducePow, ↓reduceIte, Nat.reduceEqDiff, reduceCtorEq]
  refine (box_pu g hf).go (by simp [AV.tolds, AV.told, hf.told tRing]) ?_
  rintro _ (⟨ho, rfl⟩ | ⟨ho, rfl⟩)
  · simp only [aBx, RW, RX, VOp.fresh, bxC, bsC, un, most, callsOf, seval, Int.reducePow, ↓reduceIte, Nat.reduceEqDiff, reduceCtorEq]
    exact fun h => ho h.1
  · have hbo := fBox_ok ho
    simp only [aBx, RW, RX, VOp.fresh, bxC, bsC, un, most, callsOf, seval, Int.reducePow, ↓reduceIte, Nat.reduceEqDiff, reduceCtorEq]
    obtain ⟨hsep, _⟩ := bxCov_of hbo
    refine (of_pu g hs _ _ _ _).go rfl ?_
    rintro _ (⟨no, _⟩ | ⟨_, rfl⟩)
    · exact absurd hbo no
    · simp only [RW, RX, VOp.fresh, bxC, bsC, un, most, callsOf, seval, Int.reducePow, ↓reduceIte, Nat.reduceEqDiff, reduceCtorEq]
      have hcv := hsep.is
      refine (owners_pu g hs hv hu hcv).go (by simp [AV.tolds, AV.told, hv.told tInt, hu.told tInt, hcv.told tRg]) ?_
      rintro _ (⟨no, rfl⟩ | ⟨ok, _, W, y, hW, hy, rfl⟩)
      · simp only [RX, VOp.fresh, bxC, bsC, un, most, callsOf, seval, Int.reducePow, ↓reduceIte, Nat.reduceEqDiff, reduceCtorEq]
        refine (contains_pu g (isL_nil 8 RInt) node).go rfl ?_
        rintro _ ⟨b, rfl, hb⟩
        simp only [RX, VOp.fresh, bxC, bsC, un, most, callsOf, seval, Int.reducePow, ↓reduceIte, Nat.reduceEqDiff, reduceCtorEq]
        refine hb.trans ⟨fun h => by simp at h, fun h => absurd ⟨h.2.1, hsep⟩ no⟩
      · simp only [RX, VOp.fresh, bxC, bsC, un, most, callsOf, seval, Int.reducePow, ↓reduceIte, Nat.reduceEqDiff, reduceCtorEq]
        refine (contains_pu g hy node).go (by simp [AV.tolds, AV.told, hy.told tInt]) ?_
        rintro _ ⟨b, rfl, hb⟩
        simp only [RX, VOp.fresh, bxC, bsC, un, most, callsOf, seval, Int.reducePow, ↓reduceIte, Nat.reduceEqDiff, reduceCtorEq]
        exact hb.trans ⟨fun h => ⟨ho, ok, (hW.2 _).1 h⟩, fun h => (hW.2 _).2 h.2.2⟩
/-- the document's -/
theorem rin_loop (g : Pg P tab) {W : List Int} {y : AV} (hy : IsL 8 RInt y W) (x : Int) (n : Nat) : ∀ (i : Nat) (t : T AV) (h : Heap) (k : List Fr) (Q : Ex → T AV → Heap → Prop), i + n = W.length → sg t 11 = y → sg t 1 = .int .i64 x → sg t 13 = .int .i64 i →
    (x ∉ W.drop i → ∀ t', Un P k Q (.exit 0) t' h) → (∀ t', x ∈ W.drop i → sg t' 6 = .bool true → Un P k Q .ret t' h) → Lp P b25_0 t h (Un P k Q) := by
  have hbd := hy.bound (by decide)
  induction n with
  | zero =>
    intro i t h k Q hn t11 t1 t13 hK hR
    refine g.lpe b25_0.eq_1 ?_
    have c1 : ¬ ((i : Int) < (W.length : Int)) := by omega
    simp only [t11, t13, hy.len, c1, RX, VOp.fresh, bxC, bsC, un, most, callsOf, seval, Int.reducePow, ↓reduceIte, Nat.reduceEqDiff, reduceCtorEq]
    exact hK (by rw [List.drop_of_length_le (by omega)]; simp) _
  | succ n ih =>
    intro i t h k Q hn t11 t1 t13 hK hR
    refine g.lpe b25_0.eq_1 ?_
    have c1 : ((i : Int) < (W.length : Int)) := by omega
    have w1 : IntKind.i64.wrap ((i : Int) + 1) = ((i + 1 : Nat) : Int) := by rw [w64 (by omega) (by omega)]; push_cast; rfl
    obtain ⟨r1, _, g1⟩ := getInt hy i (by omega)
    have hd : W.drop i = W.getD i 0 :: W.drop (i + 1) := by rw [List.drop_eq_getElem_cons (by omega), getN (by omega)]
    by_cases he : W.getD i 0 = x
    · simp only [t11, t1, t13, hy.len, c1, g1, he, RX, VOp.fresh, bxC, bsC, un, most, callsOf, seval, Int.reducePow, ↓reduceIte, Nat.reduceEqDiff, reduceCtorEq]
      refine hR _ (by rw [hd, he]; exact .head _) ?_
      simp only [sg_set, Nat.reduceEqDiff, ↓reduceIte]
    · simp only [t11, t1, t13, hy.len, c1, g1, he, w1, RX, VOp.fresh, bxC, bsC, un, most, callsOf, seval, Int.reducePow, ↓reduceIte, Nat.reduceEqDiff, reduceCtorEq]
      have hm : x ∈ W.drop i ↔ x ∈ W.drop (i + 1) := by rw [hd, List.mem_cons]; exact ⟨fun h => h.resolve_left fun e => he e.symm, .inr⟩
      refine ih (i + 1) _ h k Q (by omega) ?_ ?_ ?_ (fun hn => hK (fun h => hn (hm.1 h))) (fun t' hj => hR t' (hm.2 hj))
      · simp only [t11, sg_set, Nat.reduceEqDiff, ↓reduceIte]
      · simp only [t1, sg_set, Nat.reduceEqDiff, ↓reduceIte]
      · simp only [sg_set, Nat.reduceEqDiff, ↓reduceIte]
theorem rholds_pu (g : Pg P tab) {m : Mp} {v u : AV} (hv : IsL 8 RInt v m.starts) (hu : IsL 8 RInt u m.owners) {f : Feat} {fv : AV} (hf : IsL 24 RRing fv f.rings) (node : Int) :
    Pu P 25 [.agg [.int .i64 m.epoch, v, u], .int .i64 node, .agg [.int .i64 f.id, .int .i64 f.shape, fv]] (IsB (HoldsP m node f)) := by
  refine g.pu (vf := v25) rfl rfl ?_
  simp only [v25, RW, RX, VOp.fresh, bxC, bsC, un, most, callsOf, seval, Int.reducePow, ↓reduceIte, Nat.reduceEqDiff, reduceCtorEq]
  refine (rbox_pu g hf).go (by simp [AV.tolds, AV.told, hf.told tRing]) ?_
  rintro _ (⟨ho, rfl⟩ | ⟨ho, rfl⟩)
  · simp only [aBx, RW, RX, VOp.fresh, bxC, bsC, un, most, callsOf, seval, Int.reducePow, ↓reduceIte, Nat.reduceEqDiff, reduceCtorEq]
    exact fun h => ho h.1
  · have hbo := fBox_ok ho
    simp only [aBx, RW, RX, VOp.fresh, bxC, bsC, un, most, callsOf, seval, Int.reducePow, ↓reduceIte, Nat.reduceEqDiff, reduceCtorEq]
    refine (rMap_pu g hv hu).go (by simp [AV.tolds, AV.told, hv.told tInt, hu.told tInt]) ?_
    rintro _ ⟨b, rfl, hb⟩
    cases b with
    | false =>
      simp only [RX, VOp.fresh, bxC, bsC, un, most, callsOf, seval, Int.reducePow, ↓reduceIte, Nat.reduceEqDiff, reduceCtorEq]
      exact fun h => by have := hb.2 h.2.1; cases this
    | true =>
      have ok : mpOk 8 m := hb.1 rfl
      simp only [RW, RX, VOp.fresh, bxC, bsC, un, most, callsOf, seval, Int.reducePow, ↓reduceIte, Nat.reduceEqDiff, reduceCtorEq]
      obtain ⟨hsep, _⟩ := bxCov_of hbo
      refine (dof_pu g _ _ _ _).go rfl ?_
      rintro _ (⟨no, _⟩ | ⟨_, rfl⟩)
      · exact absurd hbo no
      · simp only [RW, RX, VOp.fresh, bxC, bsC, un, most, callsOf, seval, Int.reducePow, ↓reduceIte, Nat.reduceEqDiff, reduceCtorEq]
        have hcv := hsep.is
        refine (rowners_pu g hv hu hcv).go (by simp [AV.tolds, AV.told, hv.told tInt, hu.told tInt, hcv.told tRg]) ?_
        rintro _ (⟨no, rfl⟩ | ⟨ok, _, W, y, hW, hy, rfl⟩)
        · exact absurd ⟨ok, hsep⟩ no
        · simp only [RX, VOp.fresh, bxC, bsC, un, most, callsOf, seval, Int.reducePow, ↓reduceIte, Nat.reduceEqDiff, reduceCtorEq]
          refine rin_loop g hy node W.length 0 _ _ _ _ (by omega) ?_ ?_ ?_ (fun hn t' => ?_) (fun t' hj t6 => ?_)
          · simp only [sg_set, Nat.reduceEqDiff, ↓reduceIte]
          · simp only [sg_set, Nat.reduceEqDiff, ↓reduceIte]
          · simp only [sg_set, Nat.reduceEqDiff, ↓reduceIte]
            rfl
          · simp only [RX, VOp.fresh, bxC, bsC, un, most, callsOf, seval, Int.reducePow, ↓reduceIte, Nat.reduceEqDiff, reduceCtorEq]
            exact fun h => hn ((hW.2 _).2 h.2.2)
          · simp only [t6, RX, VOp.fresh, bxC, bsC, un, most, callsOf, seval, Int.reducePow, ↓reduceIte, Nat.reduceEqDiff, reduceCtorEq]
            exact ⟨ho, ok, (hW.2 _).1 hj⟩
end
end Go.Proofs.Ythmkenkjfmbkiaa.VM
namespace Go.Proofs.Ythmkenkjfmbkiaa.VM
attribute [local irreducible] Af Nx EvO Ev Un Gd Cd EvR EvQ EvC Nc Gc Lp EvM NxM AfM GdM EvMR EvMQ EvMD EvMC Nm Gm
section
variable {P : Program}
def OwnerR (m : Mp) (d : Int) (z : AV) : Prop := (¬ (mpOk 8 m ∧ 0 ≤ d ∧ d < 4294967296) ∧ z = .tup [.int .i64 0, .int .i64 700]) ∨ ((mpOk 8 m ∧ 0 ≤ d ∧ d < 4294967296) ∧ z = .tup [.int .i64 (m.owners.getD (ixC m.starts d) 0), .int .i64 0])
theorem pown_pu (g : Pg P tab) {m : Mp} {v u : AV} (hv : IsL 8 RInt v m.starts) (hu : IsL 8 RInt u m.owners) (d : Int) : Pu P 33 [.agg [.int .i64 m.epoch, v, u], .int .i64 d] (OwnerR m d) := by
  obtain ⟨h1, h2⟩ := owner_pu g hv hu d
  by_cases c : mpOk 8 m ∧ 0 ≤ d ∧ d < 4294967296
  · exact (h1 c.1 c.2.1 c.2.2 _ (c.1.ix c.2.1)).mono fun v e => .inr ⟨c, e⟩
  · exact (h2 c).mono fun v e => .inl ⟨c, e⟩
theorem rowner_pu (g : Pg P tab) {m : Mp} {v u : AV} (hv : IsL 8 RInt v m.starts) (hu : IsL 8 RInt u m.owners) (d : Int) : Pu P 38 [.agg [.int .i64 m.epoch, v, u], .int .i64 d] (OwnerR m d) := by
  refine g.pu (vf := v38) rfl rfl ?_
  simp only [v38, RW, RX, VOp.fresh, bxC, bsC, un, most, callsOf, seval, Int.reducePow, ↓reduceIte, Nat.reduceEqDiff, reduceCtorEq]
  refine (rMap_pu g hv hu).go (by simp [AV.tolds, AV.told, hv.told tInt, hu.told tInt]) ?_
  rintro _ ⟨b, rfl, hb⟩
  cases b with
  | false =>
    have ho : ¬ mpOk 8 m := fun h => by have := hb.2 h; cases this
    simp only [RW, RX, VOp.fresh, bxC, bsC, un, most, callsOf, seval, Int.reducePow, ↓reduceIte, Nat.reduceEqDiff, reduceCtorEq]
    exact .inl ⟨fun h => ho h.1, rfl⟩
  | true =>
    have ok : mpOk 8 m := hb.1 rfl
    by_cases d0 : d < 0
    · simp only [d0, RW, RX, VOp.fresh, bxC, bsC, un, most, callsOf, seval, Int.reducePow, ↓reduceIte, Nat.reduceEqDiff, reduceCtorEq]
      exact .inl ⟨fun h => by omega, rfl⟩
    · by_cases d1 : 4294967296 ≤ d
      · simp only [d0, d1, RW, RX, VOp.fresh, bxC, bsC, un, most, callsOf, seval, Int.reducePow, ↓reduceIte, Nat.reduceEqDiff, reduceCtorEq]
        exact .inl ⟨fun h => by omega, rfl⟩
      · have hx := ok.ix (d := d) (by omega)
        have e32 : m.owners.length = m.starts.length := ok.2.2.2.2.2.2.1
        obtain ⟨r2, _, g2⟩ := getInt hu (ixC m.starts d) (by have := hx.1; omega)
        obtain ⟨c, cc⟩ : ∃ c : Nat → List AV → Heap → AV × Heap, ∀ a h, c 56 a h = (.int .i64 (ixC m.starts d), h) := ⟨fun _ _ h => (.int .i64 (ixC m.starts d), h), fun _ _ => rfl⟩
        have oB : OK P 56 [.agg [.int .i64 m.epoch, v, u], .int .i64 d] ((⟨0, .e⟩ : Heap).mk' 0 (.cells [.int .i64 m.epoch, v, u] 24 0)) (.int .i64 (ixC m.starts d)) ((⟨0, .e⟩ : Heap).mk' 0 (.cells [.int .i64 m.epoch, v, u] 24 0)) := (rat_pu g hv ok.rise ok.2.2.2.2.2.1 hx).exact (by simp [AV.tolds, AV.told, hv.told tInt, hu.told tInt])
        simp only [d0, d1, RW, RX, VOp.fresh, bxC, bsC, un, most, callsOf, seval, Int.reducePow, ↓reduceIte, Nat.reduceEqDiff, reduceCtorEq]
        refine EvD.same c rfl ?_
        simp only [cc, oB, g2, RW, RX, VOp.fresh, bxC, bsC, un, most, callsOf, seval, Int.reducePow, ↓reduceIte, Nat.reduceEqDiff, reduceCtorEq]
        exact .inr ⟨⟨ok, by omega, by omega⟩, rfl⟩
end
end Go.Proofs.Ythmkenkjfmbkiaa.VM
namespace Go.Proofs.Ythmkenkjfmbkiaa.VM
attribute [local irreducible] Af Nx EvO Ev Un Gd Cd EvR EvQ EvC Nc Gc Lp EvM NxM AfM GdM EvMR EvMQ EvMD EvMC Nm Gm
section
variable {h : Heap} {B : Nat → Prop}
theorem Lv.tup_of {l k : List AV} (t : Lvs h B l k) : Lv h B (.tup l) (.tup k) := by
  obtain ⟨D, f, b, o, i⟩ := t
  exact ⟨D, .tup f, b, o, i⟩
theorem Lv.tupI {v : AV} {k : List AV} (l : Lv h B v (.tup k)) : ∃ l', v = .tup l' ∧ Lvs h B l' k := by
  obtain ⟨D, f, b, o, i⟩ := l
  cases f with
  | told hx => exact ⟨k, rfl, Lvs.tolds hx b⟩
  | tup t => exact ⟨_, rfl, D, t, b, o, i⟩
theorem Lv.aggI {v : AV} {k : List AV} (l : Lv h B v (.agg k)) : ∃ l', v = .agg l' ∧ Lvs h B l' k := by
  obtain ⟨D, f, b, o, i⟩ := l
  cases f with
  | told hx => exact ⟨k, rfl, Lvs.tolds hx b⟩
  | agg t => exact ⟨_, rfl, D, t, b, o, i⟩
theorem Lv.intI {v : AV} {kk : IntKind} {n : Int} (l : Lv h B v (.int kk n)) : v = .int kk n := by
  obtain ⟨D, f, b, o, i⟩ := l
  cases f with
  | told hx => rfl
theorem Lvs.consI {l : List AV} {y : AV} {k : List AV} (t : Lvs h B l (y :: k)) : ∃ x l', l = x :: l' ∧ Lv h B x y ∧ Lvs h B l' k := by
  obtain ⟨D, f, b, o, i⟩ := t
  cases f with
  | cons f t =>
    simp only [AV.bares, Bool.and_eq_true] at b
    exact ⟨_, _, rfl, ⟨_, f, b.1, fun c hc => o c (List.mem_append_left _ hc), fun c hc => i c (List.mem_append_left _ hc)⟩, ⟨_, t, b.2, fun c hc => o c (List.mem_append_right _ hc), fun c hc => i c (List.mem_append_right _ hc)⟩⟩
theorem Lvs.nilI {l : List AV} (t : Lvs h B l []) : l = [] := by
  obtain ⟨D, f, _⟩ := t
  cases f; rfl
theorem Lv.z3I {v : AV} {e : Int} (l : Lv h B v (.tup [.agg z3, .int .i64 e])) : v = .tup [.agg z3, .int .i64 e] := by
  obtain ⟨l1, rfl, t1⟩ := l.tupI
  obtain ⟨x, l2, rfl, a, t2⟩ := t1.consI
  obtain ⟨y, l3, rfl, b, t3⟩ := t2.consI
  obtain rfl := t3.nilI
  obtain ⟨l4, rfl, t4⟩ := a.aggI
  obtain ⟨x1, l5, rfl, a1, t5⟩ := t4.consI
  obtain ⟨x2, l6, rfl, a2, t6⟩ := t5.consI
  obtain ⟨x3, l7, rfl, a3, t7⟩ := t6.consI
  obtain rfl := t7.nilI
  rw [a1.intI, a2.nils_inv, a3.nils_inv, b.intI]
end
section
variable {P : Program} {m : Mp} {v u : AV} {nodes k a t : Int}
theorem chg_any (g : Pg P tab) (hins : InsOk P) (hv : IsL 8 RInt v m.starts) (hu : IsL 8 RInt u m.owners) (ha : I64 a) (ht : I64 t) {h : Heap} {args : List AV} {Q : AV → Heap → Prop}
    (hA : Fzs true h args [.agg [.int .i64 m.epoch, v, u], .int .i64 nodes, .agg [.int .i64 k, .int .i64 a, .int .i64 t]])
    (q7 : ∀ h' e, Ext h h' → ChErr nodes m k a t e → Q (.tup [.agg z3, .int .i64 e]) h')
    (qY : ∀ h' i sv ov, ChYes nodes m k a t i → Lv h' (h.next ≤ ·) sv (tI (chgR m k a t i).starts) → Lv h' (h.next ≤ ·) ov (tI (chgR m k a t i).owners) → Ext h h' → Q (.tup [.agg [.int .i64 (chgR m k a t i).epoch, sv, ov], .int .i64 0]) h') : Cl P 32 args h Q := by
  refine Cl.laid (R := fun z => (∃ e, ChErr nodes m k a t e ∧ z = .tup [.agg z3, .int .i64 e]) ∨ ∃ i, ChYes nodes m k a t i ∧ z = .tup [toldMp (chgR m k a t i), .int .i64 0]) hA ?_ ?_
  · refine change_cl g hins hv hu ha ht (fun h' e _ c => ⟨.tup [.agg z3, .int .i64 e], Lv.told rfl rfl, .inl ⟨e, c, rfl⟩⟩) fun h' i sv ov b b' c ws wo hne x => ?_
    obtain ⟨⟨⟨p1, p2, p3, p4, p5, p6, p7, p8, p9⟩, k0, k2, a0, a1⟩, he, hi, hn, ok⟩ := id c
    obtain ⟨r1, r2, r3, r4, r5, r6⟩ := chgR_ok hv hu ⟨k0, k2⟩ ha ht hi p6 p7 hn
    refine ⟨.tup [toldMp (chgR m k a t i), .int .i64 0], Lv.tup_of (Lvs.cons (Lv.agg (Lvs.cons (Lv.told rfl rfl) (Lvs.cons ?_ (Lvs.cons ?_ Lvs.nil)))) (Lvs.cons (Lv.told rfl rfl) Lvs.nil)), .inr ⟨i, c, rfl⟩⟩
    · exact (ws.lv r3).weak fun _ _ _ => trivial
    · exact (wo.lv r4).weak fun _ _ _ => trivial
  · rintro z tt h' l (⟨e, c, rfl⟩ | ⟨i, c, rfl⟩) x
    · rw [l.z3I]
      exact q7 h' e x c
    · obtain ⟨l1, rfl, t1⟩ := l.tupI
      obtain ⟨y, l2, rfl, a1, t2⟩ := t1.consI
      obtain ⟨z, l3, rfl, b1, t3⟩ := t2.consI
      obtain rfl := t3.nilI
      obtain ⟨l4, rfl, t4⟩ := a1.aggI
      obtain ⟨x1, l5, rfl, c1, t5⟩ := t4.consI
      obtain ⟨x2, l6, rfl, c2, t6⟩ := t5.consI
      obtain ⟨x3, l7, rfl, c3, t7⟩ := t6.consI
      obtain rfl := t7.nilI
      rw [c1.intI, b1.intI]
      exact qY h' i x2 x3 c c2 c3 x
end
end Go.Proofs.Ythmkenkjfmbkiaa.VM
namespace Go.Proofs.Ythmkenkjfmbkiaa.VM
attribute [local irreducible] Af Nx EvO Ev Un Gd Cd EvR EvQ EvC Nc Gc Lp EvM NxM AfM GdM EvMR EvMQ EvMD EvMC Nm Gm
section
variable {P : Program} {m : Mp} {v u v' u' : AV} {nodes k a t : Int}
theorem ChErr.uniq {e e' : Int} (c : ChErr nodes m k a t e) (c' : ChErr nodes m k a t e') : e = e' := by
  rcases c with ⟨h1, rfl⟩ | ⟨h1, h2, rfl⟩ | ⟨h1, h2, rfl, _⟩ <;> rcases c' with ⟨k1, rfl⟩ | ⟨k1, k2, rfl⟩ | ⟨k1, k2, rfl, _⟩ <;> first | rfl | exact absurd k1 h1 | exact absurd h1 k1 | exact absurd k2 h2 | exact absurd h2 k2
theorem isL_tI7 {l : List Int} (h : ∀ x ∈ l, I64 x) (hl : l.length ≤ 1000000) : IsL 8 RInt (tI l) l := isL_rs (kc_cat h) (by rw [show reachBytes = 140737488351232 from rfl]; omega)
theorem lints_tI {h : Heap} {B : Nat → Prop} {x : AV} {l : List Int} (a : Lv h B x (tI l)) (h0 : 0 < l.length) (hl : l.length ≤ 1000000) (h64 : ∀ x ∈ l, I64 x) : LInts h B x := by
  refine LInts.of (l := l) ?_ ?_
  · have : cInts l = tI l := cRow_s _ h0
    rw [this]; exact a
  · exact ⟨hl, h64⟩
theorem chg_both (g : Pg P tab) (hins : InsOk P) (hv : IsL 8 RInt v m.starts) (hu : IsL 8 RInt u m.owners) (hv' : IsL 8 RInt v' m.starts) (hu' : IsL 8 RInt u' m.owners) (ha : I64 a) (ht : I64 t) {h : Heap} {args : List AV} {Q : AV → Heap → Prop}
    (hA : Fzs true h args [.agg [.int .i64 m.epoch, v', u'], .int .i64 nodes, .agg [.int .i64 k, .int .i64 a, .int .i64 t]])
    (q : ∀ h' sv ov c1 c2 S1 S2 ep e, IsL 8 RInt c1 S1 → IsL 8 RInt c2 S2 → Lv h' (h.next ≤ ·) sv c1 → Lv h' (h.next ≤ ·) ov c2 → LInts h' (h.next ≤ ·) sv → LInts h' (h.next ≤ ·) ov → Ext h h' →
      Pu P 29 [.agg [.int .i64 m.epoch, v, u], .int .i64 nodes, .agg [.int .i64 k, .int .i64 a, .int .i64 t]] (fun z => z = .tup [.agg [.int .i64 ep, c1, c2], .int .i64 e]) → Q (.tup [.agg [.int .i64 ep, sv, ov], .int .i64 e]) h') : Cl P 32 args h Q := by
  have r := rchange_pu (nodes := nodes) (k := k) g hv hu ha ht
  refine chg_any g hins hv' hu' ha ht hA (fun h' e x c => ?_) fun h' i sv ov c l1 l2 x => ?_
  · refine q h' .nils .nils .nils .nils [] [] 0 e (isL_nil _ _) (isL_nil _ _) (Lv.told rfl rfl) (Lv.told rfl rfl) (.inl rfl) (.inl rfl) x (r.mono ?_)
    rintro z (⟨e', c', rfl⟩ | ⟨i, y, _⟩)
    · rw [c.uniq c']
    · exact absurd y ((IxErr c).2 i)
  · obtain ⟨⟨⟨p1, p2, p3, p4, p5, p6, p7, p8, p9⟩, k0, k2, a0, a1⟩, he, hi, hn, ok⟩ := id c
    obtain ⟨r1, r2, r3, r4, r5, r6⟩ := chgR_ok hv hu ⟨k0, k2⟩ ha ht hi p6 p7 hn
    refine q h' sv ov _ _ _ _ _ 0 (isL_tI7 r1 r5) (isL_tI7 r2 r6) l1 l2 (lints_tI l1 r3 r5 r1) (lints_tI l2 r4 r6 r2) x (r.mono ?_)
    rintro z (⟨e', c', _⟩ | ⟨j, y, rfl⟩)
    · exact absurd c ((IxErr c').2 i)
    · obtain rfl := y.2.2.1.uniq y.1.1.rise hi
      rfl
end
end Go.Proofs.Ythmkenkjfmbkiaa.VM
namespace Go.Proofs.Ythmkenkjfmbkiaa.VM
attribute [local irreducible] Af Nx EvO Ev Un Gd Cd EvR EvQ EvC Nc Gc Lp EvM NxM AfM GdM EvMR EvMQ EvMD EvMC Nm Gm
section
variable {P : Program}
/-- what lies in memory from the copies on -/
structure KM (m : Mp) (v u : AV) (k a t : Int) (f : Feat) (fv : AV) (rs : Rgs) (c tt : List AV) (b X : Nat) (h : Heap) : Prop where
  g0 : h.get 0 = some (.cells [.int .i64 m.epoch, v, u] 24 0)
  g1 : h.get 1 = some (.cells [.int .i64 k, .int .i64 a, .int .i64 t] 26 0)
  g2 : h.get 2 = some (.cells [.int .i64 f.id, .int .i64 f.shape, fv] 50 0)
  gb : ∃ e ver, h.get b = some (.cells (rcells rs ++ mark7) e ver)
  gX : h.get X = some (.cells c 24 1)
  lv : Lvs h (3 ≤ ·) c tt
  lt : 3 ≤ h.next ∧ b < h.next ∧ X < h.next
theorem KM.ext {m : Mp} {v u : AV} {k a t : Int} {f : Feat} {fv : AV} {rs : Rgs} {c tt : List AV} {b X : Nat} {h h' : Heap} (K : KM m v u k a t f fv rs c tt b X h) (x : Ext h h') : KM m v u k a t f fv rs c tt b X h' := by
  obtain ⟨l1, l2, l3⟩ := K.lt
  obtain ⟨e, ver, hb⟩ := K.gb
  exact ⟨by rw [x.2 _ (by omega)]; exact K.g0, by rw [x.2 _ (by omega)]; exact K.g1, by rw [x.2 _ (by omega)]; exact K.g2, ⟨e, ver, by rw [x.2 _ l2]; exact hb⟩, by rw [x.2 _ l3]; exact K.gX, K.lv.frame x.1 fun d _ hd => x.2 d hd, by have := x.1; omega⟩
theorem Pu.okB {f : Nat} {args args' : List AV} {h : Heap} {p : Prop} (q : Pu P f args' (IsB p)) (ha : Fzs true h args args') : ∃ b : Bool, OK P f args h (.bool b) h ∧ (b = true ↔ p) := by
  obtain ⟨v, v', h0, o, hf, b, rfl, hb⟩ := q
  exact ⟨b, o.pure ha hf, hb⟩
theorem Pu.ok1 {f : Nat} {args args' : List AV} {h : Heap} {x : AV} (q : Pu P f args' fun v => v = x) (ha : Fzs true h args args') : OK P f args h x h := by
  obtain ⟨v, v', h0, o, hf, rfl⟩ := q
  exact o.pure ha hf
theorem LInts.cutB {h : Heap} {N : Nat} {v : AV} (l : LInts h (N ≤ ·) v) : LInts h (fun b => N ≤ b ∧ b < h.next) v := by
  rcases l with rfl | ⟨b, off, n, cap, rfl, a1, a2, a3, a4⟩
  · exact .inl rfl
  · exact .inr ⟨b, off, n, cap, rfl, a1, ⟨a2, a3⟩, a3, a4⟩
theorem ext_box (h : Heap) (x y : Blk) : Ext h ((h.mk' h.next x).put h.next y) := ⟨by rw [put_next, mk_next]; omega, fun b hb => by rw [Heap.get_put, if_neg (by omega), Heap.get_mk, if_neg (by omega)]⟩
theorem maps_pu (g : Pg P tab) (hins : InsOk P) (hs : SortI P) {m : Mp} {v u : AV} (he : I64 m.epoch) (hv : IsL 8 RInt v m.starts) (hu : IsL 8 RInt u m.owners) (nodes d : Int) {rs : Rgs} {w : AV} (hw : IsL 16 RRg w rs) {k a t : Int} (ha : I64 a) (ht : I64 t) (node : Int) {f : Feat} {fv : AV} (hf : IsL 24 RRing fv f.rings) :
    Pu P 11 [.agg [.int .i64 m.epoch, v, u], .int .i64 nodes, .int .i64 d, w, .agg [.int .i64 k, .int .i64 a, .int .i64 t], .int .i64 node, .agg [.int .i64 f.id, .int .i64 f.shape, fv]] (fun z => z = .bool true) := by
  refine g.pu (vf := v11) rfl rfl ?_
  simp only [v11, RW, RX, VOp.fresh, bxC, bsC, un, most, callsOf, seval, Int.reducePow, ↓reduceIte, Nat.reduceEqDiff, reduceCtorEq]
  obtain ⟨h0, e0⟩ : ∃ h0, h0 = ((((⟨0, .e⟩ : Heap).mk' 0 (.cells [.int .i64 m.epoch, v, u] 24 0)).mk' 1 (.cells [.int .i64 k, .int .i64 a, .int .i64 t] 26 0)).mk' 2 (.cells [.int .i64 f.id, .int .i64 f.shape, fv] 50 0)) := ⟨_, rfl⟩
  have n0 : h0.next = 3 := by rw [e0]; rfl
  have a0 : h0.get 0 = some (.cells [.int .i64 m.epoch, v, u] 24 0) := by rw [e0]; rfl
  have a1 : h0.get 1 = some (.cells [.int .i64 k, .int .i64 a, .int .i64 t] 26 0) := by rw [e0]; rfl
  have a2 : h0.get 2 = some (.cells [.int .i64 f.id, .int .i64 f.shape, fv] 50 0) := by rw [e0]; rfl
  rw [← e0]
  clear e0
  refine copyMap_cl g ⟨v, u, rfl, he, hv, hu⟩ fun c tt h1 lx hm hlc hone x1 => ?_
  obtain ⟨v', u', rfl, _, hv', hu'⟩ := hm
  simp only [RW, RX, VOp.fresh, bxC, bsC, un, most, callsOf, seval, Int.reducePow, ↓reduceIte, Nat.reduceEqDiff, reduceCtorEq]
  refine lend_cl g hw fun b h2 eb vb hgb hb1 hb2 x2 => ?_
  simp only [hone, hlc, List.append_nil, RW, RX, VOp.fresh, bxC, bsC, un, most, callsOf, seval, Int.reducePow, ↓reduceIte, Nat.reduceEqDiff, reduceCtorEq]
  have x3 := ext_box h2 (.cells [.int .i64 0, .nils, .nils] 24 0) (.cells c 24 1)
  obtain ⟨h3, e3⟩ : ∃ h3, h3 = ((h2.mk' h2.next (.cells [.int .i64 0, .nils, .nils] 24 0)).put h2.next (.cells c 24 1)) := ⟨_, rfl⟩
  obtain ⟨X, hX⟩ : ∃ X, X = h2.next := ⟨_, rfl⟩
  have K3 : KM m v u k a t f fv rs c [.int .i64 m.epoch, v', u'] b X h3 := by
    have x13 : Ext h1 h3 := by rw [e3]; exact x2.trans x3
    have x03 : Ext h0 h3 := x1.trans x13
    refine ⟨by rw [x03.2 _ (by omega)]; exact a0, by rw [x03.2 _ (by omega)]; exact a1, by rw [x03.2 _ (by omega)]; exact a2, ⟨eb, vb, by rw [e3, x3.2 _ hb2]; exact hgb⟩, by rw [hX, e3, Heap.get_put, if_pos rfl], ?_, ?_⟩
    · exact (lx.frame x13.1 fun d _ hd => x13.2 d hd).weak fun d hd _ => by rw [n0] at hd; exact hd
    · have h31 : h3.next = h2.next + 1 := by rw [e3, put_next, mk_next]; omega
      have := x1.1; have := x2.1
      omega
  rw [← e3, ← hX]
  clear e3 x3 x2 x1 a0 a1 a2
  -- the first map
  obtain ⟨fe, y1, y2, l1, l2, e1, i1, i2, q34, q28⟩ : ∃ (fe : Int) (y1 y2 : AV) (l1 l2 : List Int) (e1 : Int), IsL 8 RInt y1 l1 ∧ IsL 8 RInt y2 l2 ∧ Pu P 34 [.int .i64 nodes] (fun z => z = .tup [.agg [.int .i64 fe, y1, y2], .int .i64 e1]) ∧ Pu P 28 [.int .i64 nodes] (fun z => z = .tup [.agg [.int .i64 fe, y1, y2], .int .i64 e1]) := by
    by_cases hp : 1 ≤ nodes ∧ nodes ≤ 8
    · obtain ⟨n, rfl⟩ : ∃ n : Nat, nodes = n := ⟨nodes.toNat, by omega⟩
      obtain ⟨q1, q2⟩ := fst_i64 n (by omega) (by omega)
      obtain ⟨q3, q4⟩ := fst_len n
      refine ⟨(fstM n).epoch, tI (fstM n).starts, tI (fstM n).owners, (fstM n).starts, (fstM n).owners, 0, isL_rs (kc_cat q1) (by rw [q3, show reachBytes = 140737488351232 from rfl]; omega), isL_rs (kc_cat q2) (by rw [q4, show reachBytes = 140737488351232 from rfl]; omega), (first_pu g n).mono ?_, (rfirst_pu g n).mono ?_⟩
      · rintro z (⟨no, _⟩ | ⟨_, h⟩)
        · exact absurd hp no
        · exact h
      · rintro z (⟨no, _⟩ | ⟨_, h⟩)
        · exact absurd hp no
        · exact h
    · refine ⟨0, .nils, .nils, [], [], 700, isL_nil _ _, isL_nil _ _, (first_pu g nodes).mono ?_, (rfirst_pu g nodes).mono ?_⟩
      · rintro z (⟨_, h⟩ | ⟨yes, _⟩)
        · exact h
        · exact absurd yes hp
      · rintro z (⟨_, h⟩ | ⟨yes, _⟩)
        · exact h
        · exact absurd yes hp
  have o1 := isL_one i1
  have o2 := isL_one i2
  refine q34.go rfl ?_
  rintro _ rfl
  simp only [o1, o2, RW, RX, VOp.fresh, bxC, bsC, un, most, callsOf, seval, Int.reducePow, ↓reduceIte, Nat.reduceEqDiff, reduceCtorEq]
  have x4 := ext_box h3 (.cells [.int .i64 0, .nils, .nils] 24 0) (.cells [.int .i64 fe, y1, y2] 24 1)
  obtain ⟨h4, e4⟩ : ∃ h4, h4 = ((h3.mk' h3.next (.cells [.int .i64 0, .nils, .nils] 24 0)).put h3.next (.cells [.int .i64 fe, y1, y2] 24 1)) := ⟨_, rfl⟩
  obtain ⟨A, hA⟩ : ∃ A, A = h3.next := ⟨_, rfl⟩
  rw [← e4] at x4
  have gA : h4.get A = some (.cells [.int .i64 fe, y1, y2] 24 1) := by rw [hA, e4, Heap.get_put, if_pos rfl]
  have lA : A < h4.next := by rw [hA, e4, put_next, mk_next]; omega
  have K4 := K3.ext x4
  rw [← e4, ← hA]
  clear e4 x4 hA K3
  have hlcut : part true c 0 3 = some (.agg c) := by
    have : VM.cut c 0 3 = some c := by rw [cut_eq, List.drop_zero, List.take_of_length_le (by omega), if_pos hlc]
    simp only [part, this, if_true]
  have nX : ¬ X = h4.next := by have := K4.lt; omega
  refine q28.go rfl ?_
  rintro _ rfl
  simp only [o1, o2, K4.gX, nX, hlcut, RW, RX, VOp.fresh, bxC, bsC, un, most, callsOf, seval, Int.reducePow, ↓reduceIte, Nat.reduceEqDiff, reduceCtorEq]
  have x5 := ext_box h4 (.cells [.int .i64 0, .nils, .nils] 24 0) (.cells [.int .i64 fe, y1, y2] 24 1)
  obtain ⟨h5, e5⟩ : ∃ h5, h5 = ((h4.mk' h4.next (.cells [.int .i64 0, .nils, .nils] 24 0)).put h4.next (.cells [.int .i64 fe, y1, y2] 24 1)) := ⟨_, rfl⟩
  obtain ⟨A', hA'⟩ : ∃ A', A' = h4.next := ⟨_, rfl⟩
  rw [← e5] at x5
  have gA' : h5.get A' = some (.cells [.int .i64 fe, y1, y2] 24 1) := by rw [hA', e5, Heap.get_put, if_pos rfl]
  have lA' : A' < h5.next := by rw [hA', e5, put_next, mk_next]; omega
  have K5 := K4.ext x5
  rw [← x5.2 A lA] at gA
  replace lA := Nat.lt_of_lt_of_le lA x5.1
  rw [← e5, ← hA']
  clear e5 x5 hA' K4
  -- whose it is
  have hag : ∀ {h : Heap}, Lvs h (3 ≤ ·) c [.int .i64 m.epoch, v', u'] → Fzs true h [.agg c] [.agg [.int .i64 m.epoch, v', u']] := fun l => .cons (Fz.agg l.fzs) .nil
  obtain ⟨ow, oe, q33, q38⟩ : ∃ ow oe : Int, Pu P 33 [.agg [.int .i64 m.epoch, v', u'], .int .i64 d] (fun z => z = .tup [.int .i64 ow, .int .i64 oe]) ∧ Pu P 38 [.agg [.int .i64 m.epoch, v, u], .int .i64 d] (fun z => z = .tup [.int .i64 ow, .int .i64 oe]) := by
    by_cases hp : mpOk 8 m ∧ 0 ≤ d ∧ d < 4294967296
    · refine ⟨m.owners.getD (ixC m.starts d) 0, 0, (pown_pu g hv' hu' d).mono ?_, (rowner_pu g hv hu d).mono ?_⟩
      · rintro z (⟨no, _⟩ | ⟨_, h⟩)
        · exact absurd hp no
        · exact h
      · rintro z (⟨no, _⟩ | ⟨_, h⟩)
        · exact absurd hp no
        · exact h
    · refine ⟨0, 700, (pown_pu g hv' hu' d).mono ?_, (rowner_pu g hv hu d).mono ?_⟩
      · rintro z (⟨_, h⟩ | ⟨yes, _⟩)
        · exact h
        · exact absurd yes hp
      · rintro z (⟨_, h⟩ | ⟨yes, _⟩)
        · exact h
        · exact absurd yes hp
  refine q33.cl (.cons (Fz.agg K5.lv.fzs) (.cons (.int _ _) .nil)) ?_
  rintro _ rfl
  simp only [K5.g0, RW, RX, VOp.fresh, bxC, bsC, un, most, callsOf, seval, Int.reducePow, ↓reduceIte, Nat.reduceEqDiff, reduceCtorEq]
  refine q38.go (by simp [AV.tolds, AV.told, hv.told tInt, hu.told tInt]) ?_
  rintro _ rfl
  simp only [K5.gX, hlcut, RW, RX, VOp.fresh, bxC, bsC, un, most, callsOf, seval, Int.reducePow, ↓reduceIte, Nat.reduceEqDiff, reduceCtorEq]
  -- whose the ranges are
  obtain ⟨W0, we, q39, q40⟩ : ∃ (W0 : List Int) (we : Int), Pu P 39 [.agg [.int .i64 m.epoch, v', u'], tRs rs] (fun z => ∃ y, IsL 8 RInt y W0 ∧ z = .tup [y, .int .i64 we]) ∧ Pu P 40 [.agg [.int .i64 m.epoch, v, u], w] (fun z => ∃ y, IsL 8 RInt y W0 ∧ z = .tup [y, .int .i64 we]) := by
    have p1 := owners_pu g hs hv' hu' (tRs_is hw)
    have p2 := rowners_pu g hv hu hw
    by_cases hp : mpOk 8 m ∧ Sep (-1) rs
    · have hD : OwnsR m rs (metL (ownsL m rs) 8) := ⟨metL_inc _ _, fun x => by
        rw [metL_mem]
        exact ⟨fun h => h.1, fun h => ⟨h, by have := owns_8 hp.1 x h; omega, by have := owns_8 hp.1 x h; omega⟩⟩⟩
      refine ⟨metL (ownsL m rs) 8, 0, p1.mono ?_, p2.mono ?_⟩
      · rintro z (⟨no, _⟩ | ⟨_, _, W, y, hW, hy, h⟩)
        · exact absurd hp no
        · exact ⟨y, by rw [hD.uniq hW]; exact hy, h⟩
      · rintro z (⟨no, _⟩ | ⟨_, _, W, y, hW, hy, h⟩)
        · exact absurd hp no
        · exact ⟨y, by rw [hD.uniq hW]; exact hy, h⟩
    · refine ⟨[], 700, p1.mono ?_, p2.mono ?_⟩
      · rintro z (⟨_, h⟩ | ⟨y1, y2, _⟩)
        · exact ⟨.nils, isL_nil _ _, h⟩
        · exact absurd ⟨y1, y2⟩ hp
      · rintro z (⟨_, h⟩ | ⟨y1, y2, _⟩)
        · exact ⟨.nils, isL_nil _ _, h⟩
        · exact absurd ⟨y1, y2⟩ hp
  obtain ⟨eb5, vb5, hgb5⟩ := K5.gb
  refine q39.cl (.cons (Fz.agg K5.lv.fzs) (.cons (lent_fz hgb5) .nil)) ?_
  rintro _ ⟨yo, hyo, rfl⟩
  simp only [K5.g0, RW, RX, VOp.fresh, bxC, bsC, un, most, callsOf, seval, Int.reducePow, ↓reduceIte, Nat.reduceEqDiff, reduceCtorEq]
  refine q40.go (by simp [AV.tolds, AV.told, hv.told tInt, hu.told tInt, hw.told tRg]) ?_
  rintro _ ⟨yr, hyr, rfl⟩
  simp only [K5.gX, K5.g1, hlcut, RW, RX, VOp.fresh, bxC, bsC, un, most, callsOf, seval, Int.reducePow, ↓reduceIte, Nat.reduceEqDiff, reduceCtorEq]
  refine chg_both g hins hv hu hv' hu' ha ht (nodes := nodes) (k := k) (.cons (Fz.agg K5.lv.fzs) (.cons (.int _ _) (.cons (.agg (.cons (.int _ _) (.cons (.int _ _) (.cons (.int _ _) .nil)))) .nil))) fun h6 sv ov c1 c2 S1 S2 ep ee j1 j2 lv1 lv2 li1 li2 x6 q29 => ?_
  have K6 := K5.ext x6
  have n60 : ¬ 0 = h6.next := by have := K6.lt; omega
  have n61 : ¬ 1 = h6.next := by have := K6.lt; omega
  simp only [K6.g0, K6.g1, li1.one, li2.one, n60, n61, RW, RX, VOp.fresh, bxC, bsC, un, most, callsOf, seval, Int.reducePow, ↓reduceIte, Nat.reduceEqDiff, reduceCtorEq]
  have x7 := ext_box h6 (.cells [.int .i64 0, .nils, .nils] 24 0) (.cells [.int .i64 ep, sv, ov] 24 1)
  obtain ⟨h7, e7⟩ : ∃ h7, h7 = ((h6.mk' h6.next (.cells [.int .i64 0, .nils, .nils] 24 0)).put h6.next (.cells [.int .i64 ep, sv, ov] 24 1)) := ⟨_, rfl⟩
  obtain ⟨C, hC⟩ : ∃ C, C = h6.next := ⟨_, rfl⟩
  rw [← e7] at x7
  have gC : h7.get C = some (.cells [.int .i64 ep, sv, ov] 24 1) := by rw [hC, e7, Heap.get_put, if_pos rfl]
  have lC : C < h7.next := by rw [hC, e7, put_next, mk_next]; omega
  have K7 := K6.ext x7
  have x57 := x6.trans x7
  rw [← x57.2 A lA] at gA
  rw [← x57.2 A' lA'] at gA'
  replace lA := Nat.lt_of_lt_of_le lA x57.1
  replace lA' := Nat.lt_of_lt_of_le lA' x57.1
  rw [← e7, ← hC]
  have oc1 := isL_one j1
  have oc2 := isL_one j2
  have nA : ¬ A = h7.next := by omega
  have nA' : ¬ A' = h7.next := by omega
  have nC : ¬ C = h7.next := by omega
  refine q29.go (by simp [AV.tolds, AV.told, hv.told tInt, hu.told tInt]) ?_
  rintro _ rfl
  simp only [oc1, oc2, gA, gA', nA, nA', RW, RX, VOp.fresh, bxC, bsC, un, most, callsOf, seval, Int.reducePow, ↓reduceIte, Nat.reduceEqDiff, reduceCtorEq]
  have x8 := ext_box h7 (.cells [.int .i64 0, .nils, .nils] 24 0) (.cells [.int .i64 ep, c1, c2] 24 1)
  obtain ⟨h8, e8⟩ : ∃ h8, h8 = ((h7.mk' h7.next (.cells [.int .i64 0, .nils, .nils] 24 0)).put h7.next (.cells [.int .i64 ep, c1, c2] 24 1)) := ⟨_, rfl⟩
  obtain ⟨D, hD⟩ : ∃ D, D = h7.next := ⟨_, rfl⟩
  rw [← e8] at x8
  have gD : h8.get D = some (.cells [.int .i64 ep, c1, c2] 24 1) := by rw [hD, e8, Heap.get_put, if_pos rfl]
  have K8 := K7.ext x8
  have x68 := x7.trans x8
  rw [← x8.2 C lC] at gC
  replace lv1 := lv1.frame x68.1 fun d _ hd => x68.2 d hd
  replace lv2 := lv2.frame x68.1 fun d _ hd => x68.2 d hd
  rw [← e8, ← hD]
  refine (sMap_pu g i1 i2 i1 i2).go (by simp [AV.tolds, AV.told, i1.told tInt, i2.told tInt]) ?_
  rintro _ rfl
  simp only [RW, RX, VOp.fresh, bxC, bsC, un, most, callsOf, seval, Int.reducePow, ↓reduceIte, Nat.reduceEqDiff, reduceCtorEq]
  refine (num_pu g _).go rfl ?_
  rintro _ rfl
  simp only [RW, RX, VOp.fresh, bxC, bsC, un, most, callsOf, seval, Int.reducePow, ↓reduceIte, Nat.reduceEqDiff, reduceCtorEq]
  refine (num_pu g _).go rfl ?_
  rintro _ rfl
  simp only [RW, RX, VOp.fresh, bxC, bsC, un, most, callsOf, seval, Int.reducePow, ↓reduceIte, Nat.reduceEqDiff, reduceCtorEq]
  refine (sInts_pu g hyo hyr).go (by simp [AV.tolds, AV.told, hyo.told tInt, hyr.told tInt]) ?_
  rintro _ rfl
  simp only [RW, RX, VOp.fresh, bxC, bsC, un, most, callsOf, seval, Int.reducePow, ↓reduceIte, Nat.reduceEqDiff, reduceCtorEq]
  refine (num_pu g _).go rfl ?_
  rintro _ rfl
  simp only [gC, gD, RW, RX, VOp.fresh, bxC, bsC, un, most, callsOf, seval, Int.reducePow, ↓reduceIte, Nat.reduceEqDiff, reduceCtorEq]
  refine (sMap_pu g j1 j2 j1 j2).cl (.cons (.agg (.cons (.int _ _) (.cons lv1.fz (.cons lv2.fz .nil)))) (.cons (Fz.refl (by simp [AV.tolds, AV.told, j1.told tInt, j2.told tInt])) .nil)) ?_
  rintro _ rfl
  simp only [RW, RX, VOp.fresh, bxC, bsC, un, most, callsOf, seval, Int.reducePow, ↓reduceIte, Nat.reduceEqDiff, reduceCtorEq]
  refine (num_pu g _).go rfl ?_
  rintro _ rfl
  simp only [gC, RW, RX, VOp.fresh, bxC, bsC, un, most, callsOf, seval, Int.reducePow, ↓reduceIte, Nat.reduceEqDiff, reduceCtorEq]
  have sx : Sim (fun b => h5.next ≤ b ∧ b < h6.next) h6 h8 := Sim.ext x68
  refine spMap_cl g (B := fun b => h5.next ≤ b ∧ b < h6.next) (li1.cutB.sim sx) (li2.cutB.sim sx) ⟨rfl, li1.one, li2.one⟩ fun _ h9 s9 => ?_
  have x58 := x57.trans x8
  have keep : ∀ q, q < h5.next → h9.get q = h5.get q := fun q hq => ((s9.2 q (Nat.lt_of_lt_of_le hq x58.1)).1 (fun hb => by omega)).trans (x58.2 q hq)
  have n9 : h5.next ≤ h9.next := Nat.le_trans x58.1 s9.1
  have lt5 := K5.lt
  have k0 := (keep 0 (by omega)).trans K5.g0
  have k2 := (keep 2 (by omega)).trans K5.g2
  have kX := (keep X (by omega)).trans K5.gX
  have kb := (keep b (by omega)).trans hgb5
  have l9 : Lvs h9 (fun q => 3 ≤ q ∧ q < h5.next) c [.int .i64 m.epoch, v', u'] := (K5.lv.weak fun q hq hl => ⟨hq, hl⟩).frame n9 fun q hq _ => keep q hq.2
  have tm : AV.tolds [.agg [.int .i64 m.epoch, v, u]] = true := by simp [AV.tolds, AV.told, hv.told tInt, hu.told tInt]
  have fc : Fz true h9 (.agg c) (.agg [.int .i64 m.epoch, v', u']) := Fz.agg l9.fzs
  have fm : Fz true h9 (.agg [.int .i64 m.epoch, v, u]) (.agg [.int .i64 m.epoch, v, u]) := Fz.refl (by simp [AV.tolds, AV.told, hv.told tInt, hu.told tInt])
  have ff : Fz true h9 (.agg [.int .i64 f.id, .int .i64 f.shape, fv]) (.agg [.int .i64 f.id, .int .i64 f.shape, fv]) := Fz.refl (by simp [AV.tolds, AV.told, hf.told tRing])
  obtain ⟨bm, o35, hbm⟩ := (mapMay_pu g hv' hu' (nodes := nodes)).okB (h := h9) (.cons fc (.cons (.int _ _) .nil))
  obtain ⟨bm', o42, hbm'⟩ := (rMap_pu g hv hu (nodes := nodes)).okB (h := h9) (.cons fm (.cons (.int _ _) .nil))
  obtain rfl : bm = bm' := by cases bm <;> cases bm' <;> simp_all
  obtain ⟨bh, o43, hbh⟩ := (holds_pu g hs hv' hu' hf node).okB (h := h9) (.cons fc (.cons (.int _ _) (.cons ff .nil)))
  obtain ⟨bh', o25, hbh'⟩ := (rholds_pu g hv hu hf node).okB (h := h9) (.cons fm (.cons (.int _ _) (.cons ff .nil)))
  obtain rfl : bh = bh' := by cases bh <;> cases bh' <;> simp_all
  have o19 := (sMap_pu g hv' hu' hv hu (e := m.epoch)).ok1 (h := h9) (.cons fc (.cons fm .nil))
  have o44 : OK P 44 [.sl b 0 rs.length (rs.length + 2) 2, w] h9 (.bool true) h9 := Cl.exact (kept_cl g hw kb ⟨rfl, rfl⟩)
  have o31 : OK P 31 [] h9 (.bool true) h9 := (awake7_pu g hins).exact rfl
  obtain ⟨cf, f35, f42, f43, f25, f19, f44, f31⟩ : ∃ cf : Nat → List AV → Heap → AV × Heap, (∀ x h, cf 35 x h = (.bool bm, h)) ∧ (∀ x h, cf 42 x h = (.bool bm, h)) ∧ (∀ x h, cf 43 x h = (.bool bh, h)) ∧ (∀ x h, cf 25 x h = (.bool bh, h)) ∧ (∀ x h, cf 19 x h = (.bool true, h)) ∧ (∀ x h, cf 44 x h = (.bool true, h)) ∧ (∀ x h, cf 31 x h = (.bool true, h)) :=
    ⟨fun f _ h => (if f = 35 then .bool bm else if f = 42 then .bool bm else if f = 43 then .bool bh else if f = 25 then .bool bh else .bool true, h), fun _ _ => rfl, fun _ _ => rfl, fun _ _ => rfl, fun _ _ => rfl, fun _ _ => rfl, fun _ _ => rfl, fun _ _ => rfl⟩
  simp only [RW, RX, VOp.fresh, bxC, bsC, un, most, callsOf, seval, Int.reducePow, ↓reduceIte, Nat.reduceEqDiff, reduceCtorEq]
  refine EvD.same cf rfl ?_
  have eb1 : ∀ x : Bool, eqv .bool (.bool x) (.bool x) = some true := fun x => by rw [eqv_b]; simp
  simp only [eb1, k0, k2, kX, hlcut, f35, f42, f43, f25, f19, f44, f31, o35, o42, o43, o25, o19, o44, o31, RW, RX, VOp.fresh, bxC, bsC, un, most, callsOf, seval, Int.reducePow, ↓reduceIte, Nat.reduceEqDiff, reduceCtorEq]
end
end Go.Proofs.Ythmkenkjfmbkiaa.VM
namespace Go.Proofs.Ythmkenkjfmbkiaa.VM
attribute [local irreducible] Af Nx EvO Ev Un Gd Cd EvR EvQ EvC Nc Gc Lp EvM NxM AfM GdM EvMR EvMQ EvMD EvMC Nm Gm
theorem wRgs7 {c : List AV} (h : Ws [.sl 16 [.int .i64, .int .i64]] c) : ∃ (w : AV) (l : Rgs), c = [w] ∧ IsL 16 RRg w l := by
  cases h with | cons h t => cases t; obtain ⟨l, hl⟩ := h.isL wRg; exact ⟨_, l, rfl, hl⟩
theorem wC37 {c : List AV} (h : Ws [.int .i64, .int .i64, .int .i64] c) : ∃ k a t : Int, c = [.int .i64 k, .int .i64 a, .int .i64 t] ∧ I64 a ∧ I64 t := by
  cases h with | cons h1 t => cases t with | cons h2 t => cases t with | cons h3 t =>
    cases t; cases h1 with | int _ n1 w1 => cases h2 with | int _ n2 w2 => cases h3 with | int _ n3 w3 =>
      exact ⟨n1, n2, n3, rfl, i64_wf w2, i64_wf w3⟩
theorem wF37 {c : List AV} (h : Ws shFeat c) : ∃ (f : Feat) (v : AV), c = [.int .i64 f.id, .int .i64 f.shape, v] ∧ IsL 24 RRing v f.rings := by
  obtain ⟨f, v, rfl, _, _, h⟩ := wFeat c h
  exact ⟨f, v, rfl, h⟩
end Go.Proofs.Ythmkenkjfmbkiaa.VM
