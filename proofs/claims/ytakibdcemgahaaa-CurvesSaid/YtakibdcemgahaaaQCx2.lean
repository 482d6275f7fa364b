-- Written by a program of this session, over the kit's print: Lean checks it.
import Derived.Test.YtakibdcemgahaaaQCx0
namespace Go.Proofs.Ytakibdcemgahaaa.QC
open Go.RowKit Go.Proofs.YtakibdcemgahaaaW.PrintWords Go.Proofs.YtakibdcemgahaaaW.PrintLast Go.Proofs.YtakibdcemgahaaaW.PrintMore
attribute [local go_sem] max2_int min2_int max_two min_two max_three min_three max_four min_four   -- for this text's walks alone
set_option linter.unusedVariables false
set_option linter.unusedSimpArgs false

/-! ### hilbert_turned: function 18 -/
def hilbert_turned.f (a0 : Int) (a1 : Int) (a2 : Int) (a3 : Int) (a4 : Int) : Option (Int × Int) := if a4 = 1 then (some (a0, a1)) else (if a3 = 1 then (some (wrap64 ((wrap64 (a2 - 1)) - a1), wrap64 ((wrap64 (a2 - 1)) - a0))) else (some (a1, a0)))
set_option maxHeartbeats 8000000 in
set_option maxRecDepth 100000 in
theorem hilbert_turned.calls (a0 : Int) (a1 : Int) (a2 : Int) (a3 : Int) (a4 : Int) (r1 : Int) (r2 : Int) (w : World) (h : hilbert_turned.f a0 a1 a2 a3 a4 = some (r1, r2)) :
    Calls Try.prog 18 #[.int .i64 a0, .int .i64 a1, .int .i64 a2, .int .i64 a3, .int .i64 a4] w fun e w' => e = .returned (.tuple #[.int .i64 r1, .int .i64 r2]) ∧ Drawn0 w w' := by
  have H : (if a4 = 1 then (some (a0, a1)) else (if a3 = 1 then (some (wrap64 ((wrap64 (a2 - 1)) - a1), wrap64 ((wrap64 (a2 - 1)) - a0))) else (some (a1, a0)))) = some (r1, r2) := h
  clear h
  by_cases c6 : a4 = 1
  · rw [if_pos c6] at H
    have c6b0 : (a4 == 1) = true := beq_iff_eq.mpr c6
    have c6b1 : (a4 != 1) = false := bne_eq_false_iff_eq.mpr c6
    clear c6
    simp only [Option.some.injEq, Prod.mk.injEq] at H
    obtain ⟨rfl, rfl⟩ := H
    go_enter Try.func18, Try.ntmps18
    go_wp2
    go_ret2
    exact ⟨by first | rfl | (simp; done) | (simp [*]; done), by repeat (first | exact Drawn0.refl _ | apply Drawn0.step)⟩
  · rw [if_neg c6] at H
    have c6b0 : (a4 == 1) = false := beq_eq_false_iff_ne.mpr c6
    have c6b1 : (a4 != 1) = true := bne_iff_ne.mpr c6
    by_cases c7 : a3 = 1
    · rw [if_pos c7] at H
      have c7b0 : (a3 == 1) = true := beq_iff_eq.mpr c7
      have c7b1 : (a3 != 1) = false := bne_eq_false_iff_eq.mpr c7
      clear c7
      simp only [Option.some.injEq, Prod.mk.injEq] at H
      obtain ⟨rfl, rfl⟩ := H
      go_enter Try.func18, Try.ntmps18
      go_wp2
      go_ret2
      exact ⟨by first | rfl | (simp; done) | (simp [*]; done), by repeat (first | exact Drawn0.refl _ | apply Drawn0.step)⟩
    · rw [if_neg c7] at H
      have c7b0 : (a3 == 1) = false := beq_eq_false_iff_ne.mpr c7
      have c7b1 : (a3 != 1) = true := bne_iff_ne.mpr c7
      simp only [Option.some.injEq, Prod.mk.injEq] at H
      obtain ⟨rfl, rfl⟩ := H
      go_enter Try.func18, Try.ntmps18
      go_wp2
      go_ret2
      exact ⟨by first | rfl | (simp; done) | (simp [*]; done), by repeat (first | exact Drawn0.refl _ | apply Drawn0.step)⟩

/-! ### hilbert_Cell: function 12 -/
mutual
def hilbert_Cell.j0 : Nat → Int → Int → Int → Bool → Option (Int × Int)
  | 0, _, _, _, _ => none
  | k + 1, x0, x1, x2, x38 => if x38 = true then (some (0, 500)) else (hilbert_Cell.l0 k x0 x1 0 (wrap64 (x2 - 1)))
def hilbert_Cell.l0 : Nat → Int → Int → Int → Int → Option (Int × Int)
  | 0, _, _, _, _ => none
  | k + 1, x0, x1, x8, x9 => if x9 ≥ 0 then (if 0 ≤ x9 then ((hilbert_turned.f (Go.bits .and .i64 x0 (wrap64 ((shl .i64 1 x9) - 1))) (Go.bits .and .i64 x1 (wrap64 ((shl .i64 1 x9) - 1))) (shl .i64 1 x9) (Go.bits .and .i64 (shr .i64 x0 x9) 1) (Go.bits .and .i64 (shr .i64 x1 x9) 1)).bind fun bt101 => (hilbert_Cell.l0 k bt101.1 bt101.2 (wrap64 (x8 + (wrap64 ((wrap64 ((shl .i64 1 x9) * (shl .i64 1 x9))) * (Go.bits .xor .i64 (wrap64 (3 * (Go.bits .and .i64 (shr .i64 x0 x9) 1))) (Go.bits .and .i64 (shr .i64 x1 x9) 1)))))) (wrap64 (x9 - 1)))) else (none)) else (some (x8, 0))
end
def hilbert_Cell.f (k : Nat) (a0 : Int) (a1 : Int) (a2 : Int) : Option (Int × Int) := if a2 < 1 then (hilbert_Cell.j0 k a0 a1 a2 true) else (if a2 > 16 then (hilbert_Cell.j0 k a0 a1 a2 true) else (if a0 < 0 then (hilbert_Cell.j0 k a0 a1 a2 true) else (if a1 < 0 then (hilbert_Cell.j0 k a0 a1 a2 true) else (if 0 ≤ a2 then (if a0 ≥ (shl .i64 1 a2) then (hilbert_Cell.j0 k a0 a1 a2 true) else (hilbert_Cell.j0 k a0 a1 a2 (decide (a1 ≥ (shl .i64 1 a2))))) else (none)))))
theorem hilbert_Cell.mono_l : ∀ k, (∀ y0 y1 y2 y3, LeO (hilbert_Cell.j0 k y0 y1 y2 y3) (hilbert_Cell.j0 (k + 1) y0 y1 y2 y3)) ∧ (∀ y0 y1 y2 y3, LeO (hilbert_Cell.l0 k y0 y1 y2 y3) (hilbert_Cell.l0 (k + 1) y0 y1 y2 y3))
  | 0 => ⟨fun _ _ _ _ r h => by simp [hilbert_Cell.j0] at h, fun _ _ _ _ r h => by simp [hilbert_Cell.l0] at h⟩
  | k + 1 => by
    obtain ⟨ih0, ih1⟩ := hilbert_Cell.mono_l k
    refine ⟨?_, ?_⟩
    · intro y0 y1 y2 y3
      unfold hilbert_Cell.j0
      repeat' first
      | (with_reducible exact ih0 _ _ _ _)
      | (with_reducible exact ih1 _ _ _ _)
      | (with_reducible exact LeO.refl _)
      | (with_reducible exact LeO.none _)
      | (with_reducible refine LeO.ite ?_ ?_)
      | (with_reducible refine LeO.bind ?_ (fun _ => ?_))
      | exact ih0 _ _ _ _
      | exact ih1 _ _ _ _
      | exact LeO.none _
      | refine LeO.ite ?_ ?_
      | refine LeO.bind ?_ (fun _ => ?_)
    · intro y0 y1 y2 y3
      unfold hilbert_Cell.l0
      repeat' first
      | (with_reducible exact ih0 _ _ _ _)
      | (with_reducible exact ih1 _ _ _ _)
      | (with_reducible exact LeO.refl _)
      | (with_reducible exact LeO.none _)
      | (with_reducible refine LeO.ite ?_ ?_)
      | (with_reducible refine LeO.bind ?_ (fun _ => ?_))
      | exact ih0 _ _ _ _
      | exact ih1 _ _ _ _
      | exact LeO.none _
      | refine LeO.ite ?_ ?_
      | refine LeO.bind ?_ (fun _ => ?_)
theorem hilbert_Cell.mono : ∀ a0 a1 a2 k, LeO (hilbert_Cell.f k a0 a1 a2) (hilbert_Cell.f (k + 1) a0 a1 a2) := by
  intro a0 a1 a2 k
  obtain ⟨ih0, ih1⟩ := hilbert_Cell.mono_l k
  unfold hilbert_Cell.f
  repeat' first
      | (with_reducible exact ih0 _ _ _ _)
      | (with_reducible exact ih1 _ _ _ _)
      | (with_reducible exact LeO.refl _)
      | (with_reducible exact LeO.none _)
      | (with_reducible refine LeO.ite ?_ ?_)
      | (with_reducible refine LeO.bind ?_ (fun _ => ?_))
      | exact ih0 _ _ _ _
      | exact ih1 _ _ _ _
      | exact LeO.none _
      | refine LeO.ite ?_ ?_
      | refine LeO.bind ?_ (fun _ => ?_)
set_option maxHeartbeats 8000000 in
set_option maxRecDepth 100000 in
theorem hilbert_Cell.calls (k : Nat) (a0 : Int) (a1 : Int) (a2 : Int) (r1 : Int) (r2 : Int) (w : World) (h : hilbert_Cell.f k a0 a1 a2 = some (r1, r2)) :
    Calls Try.prog 12 #[.int .i64 a0, .int .i64 a1, .int .i64 a2] w fun e w' => e = .returned (.tuple #[.int .i64 r1, .int .i64 r2]) ∧ Drawn0 w w' := by
  have H : (if a2 < 1 then (hilbert_Cell.j0 k a0 a1 a2 true) else (if a2 > 16 then (hilbert_Cell.j0 k a0 a1 a2 true) else (if a0 < 0 then (hilbert_Cell.j0 k a0 a1 a2 true) else (if a1 < 0 then (hilbert_Cell.j0 k a0 a1 a2 true) else (if 0 ≤ a2 then (if a0 ≥ (shl .i64 1 a2) then (hilbert_Cell.j0 k a0 a1 a2 true) else (hilbert_Cell.j0 k a0 a1 a2 (decide (a1 ≥ (shl .i64 1 a2))))) else (none)))))) = some (r1, r2) := h
  clear h
  have HC4 := Aside0.mk H
  clear H
  go_enter Try.func12, Try.ntmps12
  go_upto_region 1 with (fail)
  repeat (go_quiet (fail); go_upto_region 1 with (fail))
  go_cut [38] (fun v38 wc => ∃ (kq : Nat) (x38_3 : Bool), v38 = .bool x38_3 ∧ Aside0 (hilbert_Cell.j0 kq a0 a1 a2 x38_3 = some (r1, r2)) ∧ Aside0 (kq ≤ k) ∧ Drawn0 w wc)
  case first =>
    have H := HC4.out
    clear HC4
    by_cases c5 : a2 < 1
    · rw [if_pos c5] at H
      have c5b0 : decide (a2 < 1) = true := decide_eq_true c5
      clear c5
      (first | rw [c5b0] | (simp only [i64_w, i32_w]; rw [c5b0]) | skip)
      have H' := Aside0.mk H
      clear H
      go_wp2
      repeat (go_quiet (fail); try go_wp2)
      go_meet
      case rel => exact ⟨_, (true), (by first | rfl | (simp; done) | (simp [*]; done)), H', ⟨by first | omega | exact Nat.le_refl _⟩, by repeat (first | exact Drawn0.refl _ | apply Drawn0.step)⟩
    · rw [if_neg c5] at H
      have c5b0 : decide (a2 < 1) = false := decide_eq_false c5
      clear c5
      (first | rw [c5b0] | (simp only [i64_w, i32_w]; rw [c5b0]) | skip)
      by_cases c6 : a2 > 16
      · rw [if_pos c6] at H
        have c6b0 : decide (16 < a2) = true := decide_eq_true c6
        clear c6
        have H' := Aside0.mk H
        clear H
        go_wp2
        repeat (go_quiet (fail); try go_wp2)
        go_meet
        case rel => exact ⟨_, (true), (by first | rfl | (simp; done) | (simp [*]; done)), H', ⟨by first | omega | exact Nat.le_refl _⟩, by repeat (first | exact Drawn0.refl _ | apply Drawn0.step)⟩
      · rw [if_neg c6] at H
        have c6b0 : decide (16 < a2) = false := decide_eq_false c6
        clear c6
        by_cases c7 : a0 < 0
        · rw [if_pos c7] at H
          have c7b0 : decide (a0 < 0) = true := decide_eq_true c7
          clear c7
          have H' := Aside0.mk H
          clear H
          go_wp2
          repeat (go_quiet (fail); try go_wp2)
          go_meet
          case rel => exact ⟨_, (true), (by first | rfl | (simp; done) | (simp [*]; done)), H', ⟨by first | omega | exact Nat.le_refl _⟩, by repeat (first | exact Drawn0.refl _ | apply Drawn0.step)⟩
        · rw [if_neg c7] at H
          have c7b0 : decide (a0 < 0) = false := decide_eq_false c7
          clear c7
          by_cases c8 : a1 < 0
          · rw [if_pos c8] at H
            have c8b0 : decide (a1 < 0) = true := decide_eq_true c8
            clear c8
            have H' := Aside0.mk H
            clear H
            go_wp2
            repeat (go_quiet (fail); try go_wp2)
            go_meet
            case rel => exact ⟨_, (true), (by first | rfl | (simp; done) | (simp [*]; done)), H', ⟨by first | omega | exact Nat.le_refl _⟩, by repeat (first | exact Drawn0.refl _ | apply Drawn0.step)⟩
          · rw [if_neg c8] at H
            have c8b0 : decide (a1 < 0) = false := decide_eq_false c8
            clear c8
            by_cases c9 : 0 ≤ a2
            · rw [if_pos c9] at H
              have c9b0 := eq_true c9
              have c9b1 : decide (0 ≤ a2) = true := decide_eq_true c9
              clear c9
              obtain ⟨ji10, hji10⟩ : ∃ j_ : Int, (shl .i64 1 a2) = j_ := ⟨_, rfl⟩
              replace H : (if a0 ≥ (ji10) then (hilbert_Cell.j0 k a0 a1 a2 true) else (hilbert_Cell.j0 k a0 a1 a2 (decide (a1 ≥ (ji10))))) = some (r1, r2) := by first | (rw [hji10] at H; exact H) | (simp only [hji10] at H ⊢; exact H)
              have hji10_ : (IntKind.i64.wrap (1 * 2 ^ min a2.toNat 64)) = ji10 := hji10
              have hji10z : a2 ≤ 64 → (IntKind.i64.wrap (1 * 2 ^ a2.toNat)) = ji10 := shl_small hji10
              have hji10u : (IntKind.i64.wrap (2 ^ min a2.toNat 64)) = ji10 := by have h_ := hji10_; rw [Int.one_mul] at h_; exact h_
              have hji10v : a2 ≤ 64 → (IntKind.i64.wrap (2 ^ a2.toNat)) = ji10 := fun hle_ => by have h_ := hji10z hle_; rw [Int.one_mul] at h_; exact h_
              have hji10y : (wrap64 (1 * 2 ^ min a2.toNat 64)) = ji10 := (i64_w _).symm.trans hji10_
              have hji10x : a2 ≤ 64 → (wrap64 (1 * 2 ^ a2.toNat)) = ji10 := fun h_ => (i64_w _).symm.trans (hji10z h_)
              by_cases c11 : a0 ≥ (ji10)
              · rw [if_pos c11] at H
                have c11b0 : decide ((ji10) ≤ a0) = true := decide_eq_true c11
                clear c11
                have H' := Aside0.mk H
                clear H
                go_wp2
                repeat (go_quiet (fail); try go_wp2)
                go_meet
                case rel => exact ⟨_, (true), (by first | rfl | (simp; done) | (simp [*]; done)), H', ⟨by first | omega | exact Nat.le_refl _⟩, by repeat (first | exact Drawn0.refl _ | apply Drawn0.step)⟩
              · rw [if_neg c11] at H
                have c11b0 : decide ((ji10) ≤ a0) = false := decide_eq_false c11
                clear c11
                have c12b0 := eq_true (of_decide_eq_true (by first | (with_reducible assumption) | assumption) : 0 ≤ a2)
                have H' := Aside0.mk H
                clear H
                go_wp2
                repeat (go_quiet (fail); try go_wp2)
                go_meet
                case rel => exact ⟨_, (decide (a1 ≥ (ji10))), (by first | rfl | (simp; done) | (simp only [← hji10] <;> (first | rfl | simp)) | (simp [*]; done)), H', ⟨by first | omega | exact Nat.le_refl _⟩, by repeat (first | exact Drawn0.refl _ | apply Drawn0.step)⟩
            · rw [if_neg c9] at H
              exact absurd H (by simp)
  case rest =>
    clear HC4
    try clear c1
    try clear p2
    try clear c5
    try clear c5b0
    try clear c6
    try clear c6b0
    try clear p6
    try clear c7
    try clear c7b0
    try clear c8
    try clear c8b0
    try clear c9
    try clear c9b0
    try clear c9b1
    try clear c11
    try clear c11b0
    try clear c12
    try clear c12b0
    obtain ⟨kq, x38_3, rfl, HA, HJ3, ⟨mc3, rfl⟩⟩ := hcut
    cases kq with
    | zero => exact absurd HA.out (by simp [hilbert_Cell.j0])
    | succ kj3 =>
      have H := HA.out
      clear HA
      simp only [hilbert_Cell.j0] at H
      by_cases c13 : x38_3 = true
      · subst c13
        have H1 : (some (0, 500)) = some (r1, r2) := by rw [if_pos rfl] at H; exact H
        clear H
        have H := H1
        clear H1
        simp only [Option.some.injEq, Prod.mk.injEq] at H
        obtain ⟨rfl, rfl⟩ := H
        go_wp2
        repeat (go_quiet (fail); try go_wp2)
        go_ret2
        exact ⟨by first | rfl | (simp; done) | (simp [*]; done), by repeat (first | exact Drawn0.refl _ | apply Drawn0.step)⟩
      · replace c13 := Bool.eq_false_iff.mpr c13
        subst c13
        have H1 : (hilbert_Cell.l0 kj3 a0 a1 0 (wrap64 (a2 - 1))) = some (r1, r2) := by rw [if_neg (show ¬ (false = true) by decide)] at H; exact H
        clear H
        have H := H1
        clear H1
        have H' := Aside0.mk H
        clear H
        go_wp2
        repeat (go_quiet (fail); try go_wp2)
        go_loopg [0, 1, 8, 9] kj3 (fun kq v0 v1 v8 v9 w' => ∃ (x0_2 : Int) (x1_2 : Int) (x8_2 : Int) (x9_2 : Int), v0 = .int .i64 x0_2 ∧ v1 = .int .i64 x1_2 ∧ v8 = .int .i64 x8_2 ∧ v9 = .int .i64 x9_2 ∧ Aside0 (hilbert_Cell.l0 kq x0_2 x1_2 x8_2 x9_2 = some (r1, r2)) ∧ Aside0 (kq ≤ kj3) ∧ Drawn0 w w')
        case atStart => exact ⟨(a0), (a1), (0), (wrap64 (a2 - 1)), (by first | rfl | (simp; done) | (simp [*]; done)), (by first | rfl | (simp; done) | (simp [*]; done)), (by first | rfl | (simp; done) | (simp [*]; done)), (by first | rfl | (simp; done) | (simp [*]; done)), H', ⟨Nat.le_refl _⟩, by repeat (first | exact Drawn0.refl _ | apply Drawn0.step)⟩
        case round =>
          clear H'
          try clear c1
          try clear p2
          try clear c3
          try clear c5
          try clear c5b0
          try clear c6
          try clear c6b0
          try clear p6
          try clear c7
          try clear c7b0
          try clear c8
          try clear c8b0
          try clear c9
          try clear c9b0
          try clear c9b1
          try clear c11
          try clear c11b0
          try clear c12
          try clear c12b0
          try clear c13
          try clear p2
          try clear p6
          obtain ⟨x0_2, x1_2, x8_2, x9_2, rfl, rfl, rfl, rfl, HA, HK2, ⟨m2, rfl⟩⟩ := hrel
          cases gk with
          | zero => exact absurd HA.out (by simp [hilbert_Cell.l0])
          | succ k2 =>
            have H := HA.out
            clear HA
            simp only [hilbert_Cell.l0] at H
            by_cases c14 : x9_2 ≥ 0
            · rw [if_pos c14] at H
              have c14b0 : decide (0 ≤ x9_2) = true := decide_eq_true c14
              clear c14
              by_cases c15 : 0 ≤ x9_2
              · rw [if_pos c15] at H
                have c15b0 := eq_true c15
                have c15b1 : decide (0 ≤ x9_2) = true := decide_eq_true c15
                clear c15
                obtain ⟨ji16, hji16⟩ : ∃ j_ : Int, (shr .i64 x0_2 x9_2) = j_ := ⟨_, rfl⟩
                replace H : ((hilbert_turned.f (Go.bits .and .i64 x0_2 (wrap64 ((shl .i64 1 x9_2) - 1))) (Go.bits .and .i64 x1_2 (wrap64 ((shl .i64 1 x9_2) - 1))) (shl .i64 1 x9_2) (Go.bits .and .i64 (ji16) 1) (Go.bits .and .i64 (shr .i64 x1_2 x9_2) 1)).bind fun bt101 => (hilbert_Cell.l0 k2 bt101.1 bt101.2 (wrap64 (x8_2 + (wrap64 ((wrap64 ((shl .i64 1 x9_2) * (shl .i64 1 x9_2))) * (Go.bits .xor .i64 (wrap64 (3 * (Go.bits .and .i64 (ji16) 1))) (Go.bits .and .i64 (shr .i64 x1_2 x9_2) 1)))))) (wrap64 (x9_2 - 1)))) = some (r1, r2) := by first | (rw [hji16] at H; exact H) | (simp only [hji16] at H ⊢; exact H)
                have hji16_ : (x0_2 / 2 ^ min x9_2.toNat 64) = ji16 := hji16
                have hji16z : x9_2 ≤ 64 → (x0_2 / 2 ^ x9_2.toNat) = ji16 := shr_small hji16
                have c17b0 := eq_true (of_decide_eq_true (by first | (with_reducible assumption) | assumption) : 0 ≤ x9_2)
                obtain ⟨ji18, hji18⟩ : ∃ j_ : Int, (shr .i64 x1_2 x9_2) = j_ := ⟨_, rfl⟩
                replace H : ((hilbert_turned.f (Go.bits .and .i64 x0_2 (wrap64 ((shl .i64 1 x9_2) - 1))) (Go.bits .and .i64 x1_2 (wrap64 ((shl .i64 1 x9_2) - 1))) (shl .i64 1 x9_2) (Go.bits .and .i64 (ji16) 1) (Go.bits .and .i64 (ji18) 1)).bind fun bt101 => (hilbert_Cell.l0 k2 bt101.1 bt101.2 (wrap64 (x8_2 + (wrap64 ((wrap64 ((shl .i64 1 x9_2) * (shl .i64 1 x9_2))) * (Go.bits .xor .i64 (wrap64 (3 * (Go.bits .and .i64 (ji16) 1))) (Go.bits .and .i64 (ji18) 1)))))) (wrap64 (x9_2 - 1)))) = some (r1, r2) := by first | (rw [hji18] at H; exact H) | (simp only [hji18] at H ⊢; exact H)
                have hji18_ : (x1_2 / 2 ^ min x9_2.toNat 64) = ji18 := hji18
                have hji18z : x9_2 ≤ 64 → (x1_2 / 2 ^ x9_2.toNat) = ji18 := shr_small hji18
                have c19b0 := eq_true (of_decide_eq_true (by first | (with_reducible assumption) | assumption) : 0 ≤ x9_2)
                obtain ⟨ji20, hji20⟩ : ∃ j_ : Int, (shl .i64 1 x9_2) = j_ := ⟨_, rfl⟩
                replace H : ((hilbert_turned.f (Go.bits .and .i64 x0_2 (wrap64 ((ji20) - 1))) (Go.bits .and .i64 x1_2 (wrap64 ((ji20) - 1))) (ji20) (Go.bits .and .i64 (ji16) 1) (Go.bits .and .i64 (ji18) 1)).bind fun bt101 => (hilbert_Cell.l0 k2 bt101.1 bt101.2 (wrap64 (x8_2 + (wrap64 ((wrap64 ((ji20) * (ji20))) * (Go.bits .xor .i64 (wrap64 (3 * (Go.bits .and .i64 (ji16) 1))) (Go.bits .and .i64 (ji18) 1)))))) (wrap64 (x9_2 - 1)))) = some (r1, r2) := by first | (rw [hji20] at H; exact H) | (simp only [hji20] at H ⊢; exact H)
                have hji20_ : (IntKind.i64.wrap (1 * 2 ^ min x9_2.toNat 64)) = ji20 := hji20
                have hji20z : x9_2 ≤ 64 → (IntKind.i64.wrap (1 * 2 ^ x9_2.toNat)) = ji20 := shl_small hji20
                have hji20u : (IntKind.i64.wrap (2 ^ min x9_2.toNat 64)) = ji20 := by have h_ := hji20_; rw [Int.one_mul] at h_; exact h_
                have hji20v : x9_2 ≤ 64 → (IntKind.i64.wrap (2 ^ x9_2.toNat)) = ji20 := fun hle_ => by have h_ := hji20z hle_; rw [Int.one_mul] at h_; exact h_
                have hji20y : (wrap64 (1 * 2 ^ min x9_2.toNat 64)) = ji20 := (i64_w _).symm.trans hji20_
                have hji20x : x9_2 ≤ 64 → (wrap64 (1 * 2 ^ x9_2.toNat)) = ji20 := fun h_ => (i64_w _).symm.trans (hji20z h_)
                replace H := Option.bind_eq_some_iff.mp H
                obtain ⟨⟨t101, t102⟩, A210, H⟩ := H
                replace H : (hilbert_Cell.l0 k2 t101 t102 (wrap64 (x8_2 + (wrap64 ((wrap64 ((ji20) * (ji20))) * (Go.bits .xor .i64 (wrap64 (3 * (Go.bits .and .i64 (ji16) 1))) (Go.bits .and .i64 (ji18) 1)))))) (wrap64 (x9_2 - 1))) = some (r1, r2) := H
                have A21 := Aside0.mk A210
                clear A210
                have H' := Aside0.mk H
                clear H
                go_wp2_with (first | (go_at_call 18; (with_reducible refine (hilbert_turned.calls (Go.bits .and .i64 x0_2 (wrap64 ((ji20) - 1))) (Go.bits .and .i64 x1_2 (wrap64 ((ji20) - 1))) ji20 (Go.bits .and .i64 (ji16) 1) (Go.bits .and .i64 (ji18) 1) t101 t102 _ A21.out).mono ?_); rintro e w' ⟨rfl, ⟨nd, rfl⟩⟩; (try first | exact ⟨rfl, _, World.drewN_drewN _ _ _⟩ | exact ⟨rfl, _, Eq.trans (World.drewN_drewN _ _ _) (congrArg (World.drewN _) (Nat.add_assoc _ _ _))⟩)))
                repeat (go_quiet (first | (go_at_call 18; (with_reducible refine (hilbert_turned.calls (Go.bits .and .i64 x0_2 (wrap64 ((ji20) - 1))) (Go.bits .and .i64 x1_2 (wrap64 ((ji20) - 1))) ji20 (Go.bits .and .i64 (ji16) 1) (Go.bits .and .i64 (ji18) 1) t101 t102 _ A21.out).mono ?_); rintro e w' ⟨rfl, ⟨nd, rfl⟩⟩; (try first | exact ⟨rfl, _, World.drewN_drewN _ _ _⟩ | exact ⟨rfl, _, Eq.trans (World.drewN_drewN _ _ _) (congrArg (World.drewN _) (Nat.add_assoc _ _ _))⟩))); try go_wp2_with (first | (go_at_call 18; (with_reducible refine (hilbert_turned.calls (Go.bits .and .i64 x0_2 (wrap64 ((ji20) - 1))) (Go.bits .and .i64 x1_2 (wrap64 ((ji20) - 1))) ji20 (Go.bits .and .i64 (ji16) 1) (Go.bits .and .i64 (ji18) 1) t101 t102 _ A21.out).mono ?_); rintro e w' ⟨rfl, ⟨nd, rfl⟩⟩; (try first | exact ⟨rfl, _, World.drewN_drewN _ _ _⟩ | exact ⟨rfl, _, Eq.trans (World.drewN_drewN _ _ _) (congrArg (World.drewN _) (Nat.add_assoc _ _ _))⟩))))
                go_roundg k2
                case measure => have := HJ3.out; have := HK2.out; omega
                case rel => exact ⟨(t101), (t102), (wrap64 (x8_2 + (wrap64 ((wrap64 ((ji20) * (ji20))) * (Go.bits .xor .i64 (wrap64 (3 * (Go.bits .and .i64 (ji16) 1))) (Go.bits .and .i64 (ji18) 1)))))), (wrap64 (x9_2 - 1)), (by first | rfl | (simp; done) | (simp [*]; done)), (by first | rfl | (simp; done) | (simp [*]; done)), (by first | rfl | (simp; done) | (simp only [← hji16, ← hji18, ← hji20] <;> (first | rfl | simp)) | (simp [*]; done)), (by first | rfl | (simp; done) | (simp [*]; done)), H', ⟨by have := HJ3.out; have := HK2.out; omega⟩, by repeat (first | exact Drawn0.refl _ | apply Drawn0.step)⟩
              · rw [if_neg c15] at H
                exact absurd H (by simp)
            · rw [if_neg c14] at H
              have c14b0 : decide (0 ≤ x9_2) = false := decide_eq_false c14
              clear c14
              simp only [Option.some.injEq, Prod.mk.injEq] at H
              obtain ⟨rfl, rfl⟩ := H
              go_wp2
              repeat (go_quiet (fail); try go_wp2)
              go_ret2
              exact ⟨by first | rfl | (simp; done) | (simp [*]; done), by repeat (first | exact Drawn0.refl _ | apply Drawn0.step)⟩

/-! ### geom_coord: function 19 -/
def geom_coord.f (a0 : Int) : Option (Bool) := if a0 ≥ 0 then (some (decide (a0 ≤ 4294967295))) else (some false)
set_option maxHeartbeats 8000000 in
set_option maxRecDepth 100000 in
theorem geom_coord.calls (a0 : Int) (r : Bool) (w : World) (h : geom_coord.f a0 = some r) :
    Calls Try.prog 19 #[.int .i64 a0] w fun e w' => e = .returned (.bool r) ∧ Drawn0 w w' := by
  have H : (if a0 ≥ 0 then (some (decide (a0 ≤ 4294967295))) else (some false)) = some r := h
  clear h
  by_cases c2 : a0 ≥ 0
  · rw [if_pos c2] at H
    have c2b0 : decide (0 ≤ a0) = true := decide_eq_true c2
    clear c2
    obtain rfl := Option.some.inj H
    go_enter Try.func19, Try.ntmps19
    go_wp2
    go_ret
    exact ⟨by first | rfl | (simp; done) | (simp [*]; done), by repeat (first | exact Drawn0.refl _ | apply Drawn0.step)⟩
  · rw [if_neg c2] at H
    have c2b0 : decide (0 ≤ a0) = false := decide_eq_false c2
    clear c2
    obtain rfl := Option.some.inj H
    go_enter Try.func19, Try.ntmps19
    go_wp2
    go_ret
    exact ⟨by first | rfl | (simp; done) | (simp [*]; done), by repeat (first | exact Drawn0.refl _ | apply Drawn0.step)⟩

/-! ### geom_PointMay: function 16 -/
def geom_PointMay.f (a0_0 : Int) (a0_1 : Int) : Option (Bool) := (geom_coord.f a0_0).bind fun t104 => (if t104 = true then ((geom_coord.f a0_1).bind fun t105 => (some t105)) else (some false))
set_option maxHeartbeats 8000000 in
set_option maxRecDepth 100000 in
theorem geom_PointMay.calls (a0_0 : Int) (a0_1 : Int) (r : Bool) (w : World) (h : geom_PointMay.f a0_0 a0_1 = some r) :
    Calls Try.prog 16 #[.agg #[.int .i64 a0_0, .int .i64 a0_1]] w fun e w' => e = .returned (.bool r) ∧ Below w.heap.size w w' := by
  have hu23 := Try.underlying23
  have HB := Aside0.mk (Below.refl w.heap.size w)
  have H : ((geom_coord.f a0_0).bind fun t104 => (if t104 = true then ((geom_coord.f a0_1).bind fun t105 => (some t105)) else (some false))) = some r := h
  clear h
  replace H := Option.bind_eq_some_iff.mp H
  obtain ⟨t104, A20, H⟩ := H
  replace H : (if t104 = true then ((geom_coord.f a0_1).bind fun t105 => (some t105)) else (some false)) = some r := H
  have A2 := Aside0.mk A20
  clear A20
  by_cases c3 : t104 = true
  · subst c3
    have H1 : ((geom_coord.f a0_1).bind fun t105 => (some t105)) = some r := by rw [if_pos rfl] at H; exact H
    clear H
    have H := H1
    clear H1
    replace H := Option.bind_eq_some_iff.mp H
    obtain ⟨t105, A40, H⟩ := H
    replace H : (some t105) = some r := H
    have A4 := Aside0.mk A40
    clear A40
    obtain rfl := Option.some.inj H
    go_enter Try.func16, Try.ntmps16
    go_wp2_with (first | ((with_reducible refine gate_dst (N := 1) rfl ?_); refine box_event ?hg (N := 1) ?hd (cs := #[.int .i64 a0_0, .int .i64 a0_1]) (t := 23) ?hr ?_; (case hd => rfl); (case hg => rfl); (case hr => first | (go_simp; done) | (go_simp; rfl)); intro gb103 hg w5 hbox hb; have n0_ := Aside0.mk (below_step (by repeat (first | (with_reducible first | exact HB.out | apply below_alloc | apply pw_below_drewN | apply below_drew1) | exact HB.out)) hb); have n1_ := Aside0.mk (hbox); have n2_ := Aside0.mk ((by rw [hg]; exact (below_size (by repeat (first | (with_reducible first | exact HB.out | apply below_alloc | apply pw_below_drewN | apply below_drew1) | exact HB.out))) : w.heap.size ≤ gb103)); have n3_ := Aside0.mk ((by rw [hg]; exact (below_size (by repeat (first | (with_reducible first | exact HB.out | apply below_alloc | apply pw_below_drewN | apply below_drew1) | exact HB.out))) : w.heap.size ≤ gb103)); clear HB; have HB := n0_; have BK103 := n1_; have GW103 := n2_; have GE103 := n3_; clear n0_ n1_ n2_ n3_; clear hb hbox hg; have hcz6_0 : w5.cell? ⟨gb103, 0, none⟩ = some (.int .i64 a0_0) := (blk_cell BK103.out 0).trans rfl; have hcz6_1 : w5.cell? ⟨gb103, 1, none⟩ = some (.int .i64 a0_1) := (blk_cell BK103.out 1).trans rfl; have hfz6_0 := blk_frozen BK103.out 0; have hfz6_1 := blk_frozen BK103.out 1) | ((with_reducible refine gate_callee (f := 19) rfl ?_); refine goesL_ (some 5) rfl rfl Try.func19 (by kernel_rfl) rfl #[.int .i64 a0_0] rfl (by (try simp only [List.map_toArray, List.map_cons, List.map_nil]); first | done | rfl | (simp only [List.length_drop, List.length_take]; rfl)) ?_; (with_reducible refine (geom_coord.calls a0_0 true _ A2.out).mono ?_); rintro e w' ⟨rfl, ⟨nd, rfl⟩⟩; refine ⟨_, rfl, ?_⟩) | (go_at_call 19; (with_reducible refine (geom_coord.calls a0_1 t105 _ A4.out).mono ?_); rintro e w' ⟨rfl, ⟨nd, rfl⟩⟩))
    go_ret
    exact ⟨by first | rfl | (simp [errW_none, errW_some] <;> rfl) | (simp [*, errW_none, errW_some] <;> rfl), by repeat (first | (with_reducible first | exact HB.out | apply below_alloc | apply pw_below_drewN | apply below_drew1 | refine below_set ?_ GE103.out) | exact HB.out)⟩
  · replace c3 := Bool.eq_false_iff.mpr c3
    subst c3
    have H1 : (some false) = some r := by rw [if_neg (show ¬ (false = true) by decide)] at H; exact H
    clear H
    have H := H1
    clear H1
    obtain rfl := Option.some.inj H
    go_enter Try.func16, Try.ntmps16
    go_wp2_with (first | ((with_reducible refine gate_dst (N := 1) rfl ?_); refine box_event ?hg (N := 1) ?hd (cs := #[.int .i64 a0_0, .int .i64 a0_1]) (t := 23) ?hr ?_; (case hd => rfl); (case hg => rfl); (case hr => first | (go_simp; done) | (go_simp; rfl)); intro gb103 hg w7 hbox hb; have n0_ := Aside0.mk (below_step (by repeat (first | (with_reducible first | exact HB.out | apply below_alloc | apply pw_below_drewN | apply below_drew1) | exact HB.out)) hb); have n1_ := Aside0.mk (hbox); have n2_ := Aside0.mk ((by rw [hg]; exact (below_size (by repeat (first | (with_reducible first | exact HB.out | apply below_alloc | apply pw_below_drewN | apply below_drew1) | exact HB.out))) : w.heap.size ≤ gb103)); have n3_ := Aside0.mk ((by rw [hg]; exact (below_size (by repeat (first | (with_reducible first | exact HB.out | apply below_alloc | apply pw_below_drewN | apply below_drew1) | exact HB.out))) : w.heap.size ≤ gb103)); clear HB; have HB := n0_; have BK103 := n1_; have GW103 := n2_; have GE103 := n3_; clear n0_ n1_ n2_ n3_; clear hb hbox hg; have hcz8_0 : w7.cell? ⟨gb103, 0, none⟩ = some (.int .i64 a0_0) := (blk_cell BK103.out 0).trans rfl; have hcz8_1 : w7.cell? ⟨gb103, 1, none⟩ = some (.int .i64 a0_1) := (blk_cell BK103.out 1).trans rfl; have hfz8_0 := blk_frozen BK103.out 0; have hfz8_1 := blk_frozen BK103.out 1) | ((with_reducible refine gate_callee (f := 19) rfl ?_); refine goesL_ (some 5) rfl rfl Try.func19 (by kernel_rfl) rfl #[.int .i64 a0_0] rfl (by (try simp only [List.map_toArray, List.map_cons, List.map_nil]); first | done | rfl | (simp only [List.length_drop, List.length_take]; rfl)) ?_; (with_reducible refine (geom_coord.calls a0_0 false _ A2.out).mono ?_); rintro e w' ⟨rfl, ⟨nd, rfl⟩⟩; refine ⟨_, rfl, ?_⟩))
    go_ret
    exact ⟨by first | rfl | (simp [errW_none, errW_some] <;> rfl) | (simp [*, errW_none, errW_some] <;> rfl), by repeat (first | (with_reducible first | exact HB.out | apply below_alloc | apply pw_below_drewN | apply below_drew1 | refine below_set ?_ GE103.out) | exact HB.out)⟩

/-! ### hilbert_Encode: function 8 -/
def hilbert_Encode.f (k : Nat) (a0_0 : Int) (a0_1 : Int) : Option (Int × Int) := (geom_PointMay.f a0_0 a0_1).bind fun t107 => (if t107 = true then ((hilbert_Cell.f k (a0_0 / 65536) (a0_1 / 65536) 16).bind fun bt108 => (some (bt108.1, 0))) else (some (0, 500)))
theorem hilbert_Encode.mono : ∀ a0 a1 k, LeO (hilbert_Encode.f k a0 a1) (hilbert_Encode.f (k + 1) a0 a1) := by
  intro a0 a1 k
  unfold hilbert_Encode.f
  repeat' first
      | (with_reducible exact hilbert_Cell.mono _ _ _ _)
      | (with_reducible exact LeO.refl _)
      | (with_reducible exact LeO.none _)
      | (with_reducible refine LeO.ite ?_ ?_)
      | (with_reducible refine LeO.bind ?_ (fun _ => ?_))
      | exact hilbert_Cell.mono _ _ _ _
      | exact LeO.none _
      | refine LeO.ite ?_ ?_
      | refine LeO.bind ?_ (fun _ => ?_)
set_option maxHeartbeats 8000000 in
set_option maxRecDepth 100000 in
theorem hilbert_Encode.calls (k : Nat) (a0_0 : Int) (a0_1 : Int) (r1 : Int) (r2 : Int) (w : World) (h : hilbert_Encode.f k a0_0 a0_1 = some (r1, r2)) :
    Calls Try.prog 8 #[.agg #[.int .i64 a0_0, .int .i64 a0_1]] w fun e w' => e = .returned (.tuple #[.int .i64 r1, .int .i64 r2]) ∧ Below w.heap.size w w' := by
  have hu23 := Try.underlying23
  have HB := Aside0.mk (Below.refl w.heap.size w)
  have H : ((geom_PointMay.f a0_0 a0_1).bind fun t107 => (if t107 = true then ((hilbert_Cell.f k (a0_0 / 65536) (a0_1 / 65536) 16).bind fun bt108 => (some (bt108.1, 0))) else (some (0, 500)))) = some (r1, r2) := h
  clear h
  replace H := Option.bind_eq_some_iff.mp H
  obtain ⟨t107, A20, H⟩ := H
  replace H : (if t107 = true then ((hilbert_Cell.f k (a0_0 / 65536) (a0_1 / 65536) 16).bind fun bt108 => (some (bt108.1, 0))) else (some (0, 500))) = some (r1, r2) := H
  have A2 := Aside0.mk A20
  clear A20
  by_cases c3 : t107 = true
  · subst c3
    have H1 : ((hilbert_Cell.f k (a0_0 / 65536) (a0_1 / 65536) 16).bind fun bt108 => (some (bt108.1, 0))) = some (r1, r2) := by rw [if_pos rfl] at H; exact H
    clear H
    have H := H1
    clear H1
    replace H := Option.bind_eq_some_iff.mp H
    obtain ⟨⟨t108, t109⟩, A40, H⟩ := H
    replace H : (some (t108, 0)) = some (r1, r2) := H
    have A4 := Aside0.mk A40
    clear A40
    simp only [Option.some.injEq, Prod.mk.injEq] at H
    obtain ⟨rfl, rfl⟩ := H
    go_enter Try.func8, Try.ntmps8
    go_wp2_with (first | ((with_reducible refine gate_dst (N := 1) rfl ?_); refine box_event ?hg (N := 1) ?hd (cs := #[.int .i64 a0_0, .int .i64 a0_1]) (t := 23) ?hr ?_; (case hd => rfl); (case hg => rfl); (case hr => first | (go_simp; done) | (go_simp; rfl)); intro gb106 hg w5 hbox hb; have n0_ := Aside0.mk (below_step (by repeat (first | (with_reducible first | exact HB.out | apply below_alloc | apply pw_below_drewN | apply below_drew1) | exact HB.out)) hb); have n1_ := Aside0.mk (hbox); have n2_ := Aside0.mk ((by rw [hg]; exact (below_size (by repeat (first | (with_reducible first | exact HB.out | apply below_alloc | apply pw_below_drewN | apply below_drew1) | exact HB.out))) : w.heap.size ≤ gb106)); have n3_ := Aside0.mk ((by rw [hg]; exact (below_size (by repeat (first | (with_reducible first | exact HB.out | apply below_alloc | apply pw_below_drewN | apply below_drew1) | exact HB.out))) : w.heap.size ≤ gb106)); clear HB; have HB := n0_; have BK106 := n1_; have GW106 := n2_; have GE106 := n3_; clear n0_ n1_ n2_ n3_; clear hb hbox hg; have hcz6_0 : w5.cell? ⟨gb106, 0, none⟩ = some (.int .i64 a0_0) := (blk_cell BK106.out 0).trans rfl; have hcz6_1 : w5.cell? ⟨gb106, 1, none⟩ = some (.int .i64 a0_1) := (blk_cell BK106.out 1).trans rfl; have hfz6_0 := blk_frozen BK106.out 0; have hfz6_1 := blk_frozen BK106.out 1) | ((with_reducible refine gate_callee (f := 16) rfl ?_); refine goesL_ (some 7) rfl rfl Try.func16 (by kernel_rfl) rfl #[.agg #[.int .i64 a0_0, .int .i64 a0_1]] rfl (by (try simp only [List.map_toArray, List.map_cons, List.map_nil]); first | done | rfl | (simp only [List.length_drop, List.length_take]; rfl)) ?_; (with_reducible refine (geom_PointMay.calls a0_0 a0_1 true _ A2.out).mono ?_); rintro e w7 ⟨rfl, hb⟩; refine ⟨_, rfl, ?_⟩; have n0_ := Aside0.mk (blk_below (g := gb106) (o := .cells #[.int .i64 a0_0, .int .i64 a0_1] 23 (0, 0)) (by (with_reducible repeat (first | refine blk_drewN ?_ _ | refine blk_drew ?_ | refine blk_alloc ?_ _)); exact BK106.out) hb); have n1_ := Aside0.mk (below_step (by repeat (first | (with_reducible first | exact HB.out | apply below_alloc | apply pw_below_drewN | apply below_drew1 | refine below_set ?_ GE106.out) | exact HB.out)) hb); clear BK106; clear HB; have BK106 := n0_; have HB := n1_; clear n0_ n1_; (try clear hb); (try clear hb2); (try clear hk); (try clear hi); have hcz8_0 : w7.cell? ⟨gb106, 0, none⟩ = some (.int .i64 a0_0) := (blk_cell BK106.out 0).trans rfl; have hcz8_1 : w7.cell? ⟨gb106, 1, none⟩ = some (.int .i64 a0_1) := (blk_cell BK106.out 1).trans rfl; have hfz8_0 := blk_frozen BK106.out 0; have hfz8_1 := blk_frozen BK106.out 1) | ((with_reducible refine gate_callee (f := 12) rfl ?_); refine goesL_ (some 16) rfl rfl Try.func12 (by kernel_rfl) rfl #[.int .i64 (a0_0 / 65536), .int .i64 (a0_1 / 65536), .int .i64 16] rfl (by (try simp only [List.map_toArray, List.map_cons, List.map_nil]); first | done | rfl | (simp only [List.length_drop, List.length_take]; rfl)) ?_; (with_reducible refine (hilbert_Cell.calls k (a0_0 / 65536) (a0_1 / 65536) 16 t108 t109 _ A4.out).mono ?_); rintro e w' ⟨rfl, ⟨nd, rfl⟩⟩; refine ⟨_, rfl, ?_⟩))
    go_ret2
    exact ⟨by first | rfl | (simp [errW_none, errW_some] <;> rfl) | (simp [*, errW_none, errW_some] <;> rfl), by repeat (first | (with_reducible first | exact HB.out | apply below_alloc | apply pw_below_drewN | apply below_drew1 | refine below_set ?_ GE106.out) | exact HB.out)⟩
  · replace c3 := Bool.eq_false_iff.mpr c3
    subst c3
    have H1 : (some (0, 500)) = some (r1, r2) := by rw [if_neg (show ¬ (false = true) by decide)] at H; exact H
    clear H
    have H := H1
    clear H1
    simp only [Option.some.injEq, Prod.mk.injEq] at H
    obtain ⟨rfl, rfl⟩ := H
    go_enter Try.func8, Try.ntmps8
    go_wp2_with (first | ((with_reducible refine gate_dst (N := 1) rfl ?_); refine box_event ?hg (N := 1) ?hd (cs := #[.int .i64 a0_0, .int .i64 a0_1]) (t := 23) ?hr ?_; (case hd => rfl); (case hg => rfl); (case hr => first | (go_simp; done) | (go_simp; rfl)); intro gb106 hg w9 hbox hb; have n0_ := Aside0.mk (below_step (by repeat (first | (with_reducible first | exact HB.out | apply below_alloc | apply pw_below_drewN | apply below_drew1) | exact HB.out)) hb); have n1_ := Aside0.mk (hbox); have n2_ := Aside0.mk ((by rw [hg]; exact (below_size (by repeat (first | (with_reducible first | exact HB.out | apply below_alloc | apply pw_below_drewN | apply below_drew1) | exact HB.out))) : w.heap.size ≤ gb106)); have n3_ := Aside0.mk ((by rw [hg]; exact (below_size (by repeat (first | (with_reducible first | exact HB.out | apply below_alloc | apply pw_below_drewN | apply below_drew1) | exact HB.out))) : w.heap.size ≤ gb106)); clear HB; have HB := n0_; have BK106 := n1_; have GW106 := n2_; have GE106 := n3_; clear n0_ n1_ n2_ n3_; clear hb hbox hg; have hcz10_0 : w9.cell? ⟨gb106, 0, none⟩ = some (.int .i64 a0_0) := (blk_cell BK106.out 0).trans rfl; have hcz10_1 : w9.cell? ⟨gb106, 1, none⟩ = some (.int .i64 a0_1) := (blk_cell BK106.out 1).trans rfl; have hfz10_0 := blk_frozen BK106.out 0; have hfz10_1 := blk_frozen BK106.out 1) | ((with_reducible refine gate_callee (f := 16) rfl ?_); refine goesL_ (some 7) rfl rfl Try.func16 (by kernel_rfl) rfl #[.agg #[.int .i64 a0_0, .int .i64 a0_1]] rfl (by (try simp only [List.map_toArray, List.map_cons, List.map_nil]); first | done | rfl | (simp only [List.length_drop, List.length_take]; rfl)) ?_; (with_reducible refine (geom_PointMay.calls a0_0 a0_1 false _ A2.out).mono ?_); rintro e w11 ⟨rfl, hb⟩; refine ⟨_, rfl, ?_⟩; have n0_ := Aside0.mk (blk_below (g := gb106) (o := .cells #[.int .i64 a0_0, .int .i64 a0_1] 23 (0, 0)) (by (with_reducible repeat (first | refine blk_drewN ?_ _ | refine blk_drew ?_ | refine blk_alloc ?_ _)); exact BK106.out) hb); have n1_ := Aside0.mk (below_step (by repeat (first | (with_reducible first | exact HB.out | apply below_alloc | apply pw_below_drewN | apply below_drew1 | refine below_set ?_ GE106.out) | exact HB.out)) hb); clear BK106; clear HB; have BK106 := n0_; have HB := n1_; clear n0_ n1_; (try clear hb); (try clear hb2); (try clear hk); (try clear hi)))
    go_ret2
    exact ⟨by first | rfl | (simp [errW_none, errW_some] <;> rfl) | (simp [*, errW_none, errW_some] <;> rfl), by repeat (first | (with_reducible first | exact HB.out | apply below_alloc | apply pw_below_drewN | apply below_drew1 | refine below_set ?_ GE106.out) | exact HB.out)⟩

/-! ### hilbert_Decode: function 10 -/
mutual
def hilbert_Decode.j0 : Nat → Int → Bool → Option (Int × Int × Int)
  | 0, _, _ => none
  | k + 1, x0, x15 => if x15 = true then (some (0, 0, 500)) else (hilbert_Decode.l0 k x0 0 0 0)
def hilbert_Decode.l0 : Nat → Int → Int → Int → Int → Option (Int × Int × Int)
  | 0, _, _, _, _ => none
  | k + 1, x0, x4, x5, x17 => if x17 < 16 then (if 0 ≤ (wrap64 (2 * x17)) then (if 0 ≤ x17 then ((hilbert_turned.f x4 x5 (shl .i64 1 x17) ((Go.bits .and .i64 (shr .i64 x0 (wrap64 (2 * x17))) 3) / 2) (Go.bits .and .i64 (Go.bits .xor .i64 (Go.bits .and .i64 (shr .i64 x0 (wrap64 (2 * x17))) 3) ((Go.bits .and .i64 (shr .i64 x0 (wrap64 (2 * x17))) 3) / 2)) 1)).bind fun bt111 => (hilbert_Decode.l0 k x0 (Go.bits .or .i64 bt111.1 (shl .i64 ((Go.bits .and .i64 (shr .i64 x0 (wrap64 (2 * x17))) 3) / 2) x17)) (Go.bits .or .i64 bt111.2 (shl .i64 (Go.bits .and .i64 (Go.bits .xor .i64 (Go.bits .and .i64 (shr .i64 x0 (wrap64 (2 * x17))) 3) ((Go.bits .and .i64 (shr .i64 x0 (wrap64 (2 * x17))) 3) / 2)) 1) x17)) (wrap64 (x17 + 1)))) else (none)) else (none)) else (some (wrap64 (x4 * 65536), wrap64 (x5 * 65536), 0))
end
def hilbert_Decode.f (k : Nat) (a0 : Int) : Option (Int × Int × Int) := if a0 < 0 then (hilbert_Decode.j0 k a0 true) else (hilbert_Decode.j0 k a0 (decide (a0 ≥ 4294967296)))
theorem hilbert_Decode.mono_l : ∀ k, (∀ y0 y1, LeO (hilbert_Decode.j0 k y0 y1) (hilbert_Decode.j0 (k + 1) y0 y1)) ∧ (∀ y0 y1 y2 y3, LeO (hilbert_Decode.l0 k y0 y1 y2 y3) (hilbert_Decode.l0 (k + 1) y0 y1 y2 y3))
  | 0 => ⟨fun _ _ r h => by simp [hilbert_Decode.j0] at h, fun _ _ _ _ r h => by simp [hilbert_Decode.l0] at h⟩
  | k + 1 => by
    obtain ⟨ih0, ih1⟩ := hilbert_Decode.mono_l k
    refine ⟨?_, ?_⟩
    · intro y0 y1
      unfold hilbert_Decode.j0
      repeat' first
      | (with_reducible exact ih0 _ _)
      | (with_reducible exact ih1 _ _ _ _)
      | (with_reducible exact LeO.refl _)
      | (with_reducible exact LeO.none _)
      | (with_reducible refine LeO.ite ?_ ?_)
      | (with_reducible refine LeO.bind ?_ (fun _ => ?_))
      | exact ih0 _ _
      | exact ih1 _ _ _ _
      | exact LeO.none _
      | refine LeO.ite ?_ ?_
      | refine LeO.bind ?_ (fun _ => ?_)
    · intro y0 y1 y2 y3
      unfold hilbert_Decode.l0
      repeat' first
      | (with_reducible exact ih0 _ _)
      | (with_reducible exact ih1 _ _ _ _)
      | (with_reducible exact LeO.refl _)
      | (with_reducible exact LeO.none _)
      | (with_reducible refine LeO.ite ?_ ?_)
      | (with_reducible refine LeO.bind ?_ (fun _ => ?_))
      | exact ih0 _ _
      | exact ih1 _ _ _ _
      | exact LeO.none _
      | refine LeO.ite ?_ ?_
      | refine LeO.bind ?_ (fun _ => ?_)
theorem hilbert_Decode.mono : ∀ a0 k, LeO (hilbert_Decode.f k a0) (hilbert_Decode.f (k + 1) a0) := by
  intro a0 k
  obtain ⟨ih0, ih1⟩ := hilbert_Decode.mono_l k
  unfold hilbert_Decode.f
  repeat' first
      | (with_reducible exact ih0 _ _)
      | (with_reducible exact ih1 _ _ _ _)
      | (with_reducible exact LeO.refl _)
      | (with_reducible exact LeO.none _)
      | (with_reducible refine LeO.ite ?_ ?_)
      | (with_reducible refine LeO.bind ?_ (fun _ => ?_))
      | exact ih0 _ _
      | exact ih1 _ _ _ _
      | exact LeO.none _
      | refine LeO.ite ?_ ?_
      | refine LeO.bind ?_ (fun _ => ?_)
set_option maxHeartbeats 8000000 in
set_option maxRecDepth 100000 in
theorem hilbert_Decode.calls (k : Nat) (a0 : Int) (r1 : Int) (r2 : Int) (r3 : Int) (w : World) (h : hilbert_Decode.f k a0 = some (r1, r2, r3)) :
    Calls Try.prog 10 #[.int .i64 a0] w fun e w' => e = .returned (.tuple #[.agg #[.int .i64 r1, .int .i64 r2], .int .i64 r3]) ∧ Below w.heap.size w w' := by
  have hu23 := Try.underlying23
  have HB := Aside0.mk (Below.refl w.heap.size w)
  have H : (if a0 < 0 then (hilbert_Decode.j0 k a0 true) else (hilbert_Decode.j0 k a0 (decide (a0 ≥ 4294967296)))) = some (r1, r2, r3) := h
  clear h
  have HC2 := Aside0.mk H
  clear H
  go_enter Try.func10, Try.ntmps10
  go_upto_region 1 with (first | ((with_reducible refine gate_dst (N := 2) rfl ?_); refine box_event ?hg (N := 2) ?hd (cs := #[.int .i64 0, .int .i64 0]) (t := 23) ?hr ?_; (case hd => rfl); (case hg => rfl); (case hr => first | (go_simp; done) | (go_simp; rfl)); intro gb110 hg w3 hbox hb; have n0_ := Aside0.mk (below_step (by repeat (first | (with_reducible first | exact HB.out | apply below_alloc | apply pw_below_drewN | apply below_drew1) | exact HB.out)) hb); have n1_ := Aside0.mk (hbox); have n2_ := Aside0.mk ((by rw [hg]; exact (below_size (by repeat (first | (with_reducible first | exact HB.out | apply below_alloc | apply pw_below_drewN | apply below_drew1) | exact HB.out))) : w.heap.size ≤ gb110)); have n3_ := Aside0.mk ((by rw [hg]; exact (below_size (by repeat (first | (with_reducible first | exact HB.out | apply below_alloc | apply pw_below_drewN | apply below_drew1) | exact HB.out))) : w.heap.size ≤ gb110)); clear HB; have HB := n0_; have BK110 := n1_; have GW110 := n2_; have GE110 := n3_; clear n0_ n1_ n2_ n3_; clear hb hbox hg))
  (try simp only [Act.put, List.setIfInBounds_toArray, List.set_cons_zero, List.set_cons_succ])
  go_cut [15] (fun v15 wc => ∃ (kq : Nat) (x15_1 : Bool), v15 = .bool x15_1 ∧ Aside0 (hilbert_Decode.j0 kq a0 x15_1 = some (r1, r2, r3)) ∧ Aside0 (kq ≤ k) ∧ Aside0 (wc.heap[gb110]? = some (.cells #[.int .i64 0, .int .i64 0] 23 (0, 0))) ∧ Aside0 (Below w.heap.size w wc))
  case first =>
    have H := HC2.out
    clear HC2
    by_cases c4 : a0 < 0
    · rw [if_pos c4] at H
      have c4b0 : decide (a0 < 0) = true := decide_eq_true c4
      clear c4
      (first | rw [c4b0] | (simp only [i64_w, i32_w]; rw [c4b0]) | skip)
      have H' := Aside0.mk H
      clear H
      go_wp2
      go_meet
      case rel => exact ⟨_, (true), (by first | rfl | (simp; done) | (simp [*]; done)), H', ⟨by first | omega | exact Nat.le_refl _⟩, ⟨by (with_reducible repeat (first | refine blk_drewN ?_ _ | refine blk_drew ?_ | refine blk_alloc ?_ _)); exact BK110.out⟩, ⟨by repeat (first | (with_reducible first | exact HB.out | apply below_alloc | apply pw_below_drewN | apply below_drew1 | refine below_set ?_ GE110.out) | exact HB.out)⟩⟩
    · rw [if_neg c4] at H
      have c4b0 : decide (a0 < 0) = false := decide_eq_false c4
      clear c4
      (first | rw [c4b0] | (simp only [i64_w, i32_w]; rw [c4b0]) | skip)
      have H' := Aside0.mk H
      clear H
      go_wp2
      go_meet
      case rel => exact ⟨_, (decide (a0 ≥ 4294967296)), (by first | rfl | (simp; done) | (simp [*]; done)), H', ⟨by first | omega | exact Nat.le_refl _⟩, ⟨by (with_reducible repeat (first | refine blk_drewN ?_ _ | refine blk_drew ?_ | refine blk_alloc ?_ _)); exact BK110.out⟩, ⟨by repeat (first | (with_reducible first | exact HB.out | apply below_alloc | apply pw_below_drewN | apply below_drew1 | refine below_set ?_ GE110.out) | exact HB.out)⟩⟩
  case rest =>
    clear HC2
    try clear c1
    try clear p2
    try clear c4
    try clear c4b0
    obtain ⟨kq, x15_1, rfl, HA, HJ1, BK110, HB⟩ := hcut
    cases kq with
    | zero => exact absurd HA.out (by simp [hilbert_Decode.j0])
    | succ kj1 =>
      have H := HA.out
      clear HA
      simp only [hilbert_Decode.j0] at H
      by_cases c5 : x15_1 = true
      · subst c5
        have H1 : (some (0, 0, 500)) = some (r1, r2, r3) := by rw [if_pos rfl] at H; exact H
        clear H
        have H := H1
        clear H1
        simp only [Option.some.injEq, Prod.mk.injEq] at H
        obtain ⟨rfl, rfl, rfl⟩ := H
        have hcz6_0 : wc.cell? ⟨gb110, 0, none⟩ = some (.int .i64 0) := (blk_cell BK110.out 0).trans rfl
        have hcz6_1 : wc.cell? ⟨gb110, 1, none⟩ = some (.int .i64 0) := (blk_cell BK110.out 1).trans rfl
        have hfz6_0 := blk_frozen BK110.out 0
        have hfz6_1 := blk_frozen BK110.out 1
        go_wp2
        refine bodyPost_ret (results_ct rfl _ _ gb110 23 #[.int .i64 0, .int .i64 0] (0, 0) _ rfl (by (with_reducible repeat (first | refine blk_drewN ?_ _ | refine blk_drew ?_ | refine blk_alloc ?_ _)); refine blk_put (cs := #[.int .i64 0, .int .i64 0]) ?_ 1 _ rfl; (with_reducible repeat (first | refine blk_drewN ?_ _ | refine blk_drew ?_ | refine blk_alloc ?_ _)); refine blk_put (cs := #[.int .i64 0, .int .i64 0]) ?_ 0 _ rfl; (with_reducible repeat (first | refine blk_drewN ?_ _ | refine blk_drew ?_ | refine blk_alloc ?_ _)); exact BK110.out) Try.underlying23 rfl (by kernel_rfl)) rfl ?_
        exact ⟨by first | rfl | (simp [errW_none, errW_some] <;> rfl) | (simp [*, errW_none, errW_some] <;> rfl), by repeat (first | (with_reducible first | exact HB.out | apply below_alloc | apply pw_below_drewN | apply below_drew1 | refine below_set ?_ GE110.out) | exact HB.out)⟩
      · replace c5 := Bool.eq_false_iff.mpr c5
        subst c5
        have H1 : (hilbert_Decode.l0 kj1 a0 0 0 0) = some (r1, r2, r3) := by rw [if_neg (show ¬ (false = true) by decide)] at H; exact H
        clear H
        have H := H1
        clear H1
        have H' := Aside0.mk H
        clear H
        go_wp2
        go_loopg [4, 5, 17] kj1 (fun kq v4 v5 v17 w' => ∃ (x4_2 : Int) (x5_2 : Int) (x17_2 : Int), v4 = .int .i64 x4_2 ∧ v5 = .int .i64 x5_2 ∧ v17 = .int .i64 x17_2 ∧ Aside0 (hilbert_Decode.l0 kq a0 x4_2 x5_2 x17_2 = some (r1, r2, r3)) ∧ Aside0 (kq ≤ kj1) ∧ Aside0 (w'.heap[gb110]? = some (.cells #[.int .i64 0, .int .i64 0] 23 (0, 0))) ∧ Aside0 (Below w.heap.size w w'))
        case atStart => exact ⟨(0), (0), (0), (by first | rfl | (simp; done) | (simp [*]; done)), (by first | rfl | (simp; done) | (simp [*]; done)), (by first | rfl | (simp; done) | (simp [*]; done)), H', ⟨Nat.le_refl _⟩, ⟨by (with_reducible repeat (first | refine blk_drewN ?_ _ | refine blk_drew ?_ | refine blk_alloc ?_ _)); exact BK110.out⟩, ⟨by repeat (first | (with_reducible first | exact HB.out | apply below_alloc | apply pw_below_drewN | apply below_drew1 | refine below_set ?_ GE110.out) | exact HB.out)⟩⟩
        case round =>
          clear H'
          try clear c1
          try clear p2
          try clear c4
          try clear c4b0
          try clear c5
          try clear hcz6_0
          try clear hcz6_1
          try clear hfz6_0
          try clear hfz6_1
          try clear p2
          obtain ⟨x4_2, x5_2, x17_2, rfl, rfl, rfl, HA, HK2, BK110, HB⟩ := hrel
          cases gk with
          | zero => exact absurd HA.out (by simp [hilbert_Decode.l0])
          | succ k2 =>
            have H := HA.out
            clear HA
            simp only [hilbert_Decode.l0] at H
            by_cases c7 : x17_2 < 16
            · rw [if_pos c7] at H
              have c7b0 : decide (x17_2 < 16) = true := decide_eq_true c7
              clear c7
              obtain ⟨ji8, hji8⟩ : ∃ j_ : Int, (wrap64 (2 * x17_2)) = j_ := ⟨_, rfl⟩
              replace H : (if 0 ≤ (ji8) then (if 0 ≤ x17_2 then ((hilbert_turned.f x4_2 x5_2 (shl .i64 1 x17_2) ((Go.bits .and .i64 (shr .i64 a0 (ji8)) 3) / 2) (Go.bits .and .i64 (Go.bits .xor .i64 (Go.bits .and .i64 (shr .i64 a0 (ji8)) 3) ((Go.bits .and .i64 (shr .i64 a0 (ji8)) 3) / 2)) 1)).bind fun bt111 => (hilbert_Decode.l0 k2 a0 (Go.bits .or .i64 bt111.1 (shl .i64 ((Go.bits .and .i64 (shr .i64 a0 (ji8)) 3) / 2) x17_2)) (Go.bits .or .i64 bt111.2 (shl .i64 (Go.bits .and .i64 (Go.bits .xor .i64 (Go.bits .and .i64 (shr .i64 a0 (ji8)) 3) ((Go.bits .and .i64 (shr .i64 a0 (ji8)) 3) / 2)) 1) x17_2)) (wrap64 (x17_2 + 1)))) else (none)) else (none)) = some (r1, r2, r3) := by first | (rw [hji8] at H; exact H) | (simp only [hji8] at H ⊢; exact H)
              have hji8w : (IntKind.i64.wrap (2 * x17_2)) = ji8 := (i64_w _).trans hji8
              by_cases c9 : 0 ≤ (ji8)
              · rw [if_pos c9] at H
                have c9b0 := eq_true c9
                have c9b1 : decide (0 ≤ (ji8)) = true := decide_eq_true c9
                clear c9
                obtain ⟨ji10, hji10⟩ : ∃ j_ : Int, (shr .i64 a0 (ji8)) = j_ := ⟨_, rfl⟩
                replace H : (if 0 ≤ x17_2 then ((hilbert_turned.f x4_2 x5_2 (shl .i64 1 x17_2) ((Go.bits .and .i64 (ji10) 3) / 2) (Go.bits .and .i64 (Go.bits .xor .i64 (Go.bits .and .i64 (ji10) 3) ((Go.bits .and .i64 (ji10) 3) / 2)) 1)).bind fun bt111 => (hilbert_Decode.l0 k2 a0 (Go.bits .or .i64 bt111.1 (shl .i64 ((Go.bits .and .i64 (ji10) 3) / 2) x17_2)) (Go.bits .or .i64 bt111.2 (shl .i64 (Go.bits .and .i64 (Go.bits .xor .i64 (Go.bits .and .i64 (ji10) 3) ((Go.bits .and .i64 (ji10) 3) / 2)) 1) x17_2)) (wrap64 (x17_2 + 1)))) else (none)) = some (r1, r2, r3) := by first | (rw [hji10] at H; exact H) | (simp only [hji10] at H ⊢; exact H)
                have hji10_ : (a0 / 2 ^ min (ji8).toNat 64) = ji10 := hji10
                have hji10z : (ji8) ≤ 64 → (a0 / 2 ^ (ji8).toNat) = ji10 := shr_small hji10
                by_cases c11 : 0 ≤ x17_2
                · rw [if_pos c11] at H
                  have c11b0 := eq_true c11
                  have c11b1 : decide (0 ≤ x17_2) = true := decide_eq_true c11
                  clear c11
                  obtain ⟨ji12, hji12⟩ : ∃ j_ : Int, (shl .i64 1 x17_2) = j_ := ⟨_, rfl⟩
                  replace H : ((hilbert_turned.f x4_2 x5_2 (ji12) ((Go.bits .and .i64 (ji10) 3) / 2) (Go.bits .and .i64 (Go.bits .xor .i64 (Go.bits .and .i64 (ji10) 3) ((Go.bits .and .i64 (ji10) 3) / 2)) 1)).bind fun bt111 => (hilbert_Decode.l0 k2 a0 (Go.bits .or .i64 bt111.1 (shl .i64 ((Go.bits .and .i64 (ji10) 3) / 2) x17_2)) (Go.bits .or .i64 bt111.2 (shl .i64 (Go.bits .and .i64 (Go.bits .xor .i64 (Go.bits .and .i64 (ji10) 3) ((Go.bits .and .i64 (ji10) 3) / 2)) 1) x17_2)) (wrap64 (x17_2 + 1)))) = some (r1, r2, r3) := by first | (rw [hji12] at H; exact H) | (simp only [hji12] at H ⊢; exact H)
                  have hji12_ : (IntKind.i64.wrap (1 * 2 ^ min x17_2.toNat 64)) = ji12 := hji12
                  have hji12z : x17_2 ≤ 64 → (IntKind.i64.wrap (1 * 2 ^ x17_2.toNat)) = ji12 := shl_small hji12
                  have hji12u : (IntKind.i64.wrap (2 ^ min x17_2.toNat 64)) = ji12 := by have h_ := hji12_; rw [Int.one_mul] at h_; exact h_
                  have hji12v : x17_2 ≤ 64 → (IntKind.i64.wrap (2 ^ x17_2.toNat)) = ji12 := fun hle_ => by have h_ := hji12z hle_; rw [Int.one_mul] at h_; exact h_
                  have hji12y : (wrap64 (1 * 2 ^ min x17_2.toNat 64)) = ji12 := (i64_w _).symm.trans hji12_
                  have hji12x : x17_2 ≤ 64 → (wrap64 (1 * 2 ^ x17_2.toNat)) = ji12 := fun h_ => (i64_w _).symm.trans (hji12z h_)
                  replace H := Option.bind_eq_some_iff.mp H
                  obtain ⟨⟨t111, t112⟩, A130, H⟩ := H
                  replace H : (hilbert_Decode.l0 k2 a0 (Go.bits .or .i64 t111 (shl .i64 ((Go.bits .and .i64 (ji10) 3) / 2) x17_2)) (Go.bits .or .i64 t112 (shl .i64 (Go.bits .and .i64 (Go.bits .xor .i64 (Go.bits .and .i64 (ji10) 3) ((Go.bits .and .i64 (ji10) 3) / 2)) 1) x17_2)) (wrap64 (x17_2 + 1))) = some (r1, r2, r3) := H
                  have A13 := Aside0.mk A130
                  clear A130
                  have c14b0 := eq_true (of_decide_eq_true (by first | (with_reducible assumption) | assumption) : 0 ≤ x17_2)
                  obtain ⟨ji15, hji15⟩ : ∃ j_ : Int, (shl .i64 ((Go.bits .and .i64 (ji10) 3) / 2) x17_2) = j_ := ⟨_, rfl⟩
                  replace H : (hilbert_Decode.l0 k2 a0 (Go.bits .or .i64 t111 (ji15)) (Go.bits .or .i64 t112 (shl .i64 (Go.bits .and .i64 (Go.bits .xor .i64 (Go.bits .and .i64 (ji10) 3) ((Go.bits .and .i64 (ji10) 3) / 2)) 1) x17_2)) (wrap64 (x17_2 + 1))) = some (r1, r2, r3) := by first | (rw [hji15] at H; exact H) | (simp only [hji15] at H ⊢; exact H)
                  (try rw [hji15] at A13)
                  have hji15_ : (IntKind.i64.wrap (((Go.bits .and .i64 (ji10) 3) / 2) * 2 ^ min x17_2.toNat 64)) = ji15 := hji15
                  have hji15z : x17_2 ≤ 64 → (IntKind.i64.wrap (((Go.bits .and .i64 (ji10) 3) / 2) * 2 ^ x17_2.toNat)) = ji15 := shl_small hji15
                  have hji15y : (wrap64 (((Go.bits .and .i64 (ji10) 3) / 2) * 2 ^ min x17_2.toNat 64)) = ji15 := (i64_w _).symm.trans hji15_
                  have hji15x : x17_2 ≤ 64 → (wrap64 (((Go.bits .and .i64 (ji10) 3) / 2) * 2 ^ x17_2.toNat)) = ji15 := fun h_ => (i64_w _).symm.trans (hji15z h_)
                  have c16b0 := eq_true (of_decide_eq_true (by first | (with_reducible assumption) | assumption) : 0 ≤ x17_2)
                  obtain ⟨ji17, hji17⟩ : ∃ j_ : Int, (shl .i64 (Go.bits .and .i64 (Go.bits .xor .i64 (Go.bits .and .i64 (ji10) 3) ((Go.bits .and .i64 (ji10) 3) / 2)) 1) x17_2) = j_ := ⟨_, rfl⟩
                  replace H : (hilbert_Decode.l0 k2 a0 (Go.bits .or .i64 t111 (ji15)) (Go.bits .or .i64 t112 (ji17)) (wrap64 (x17_2 + 1))) = some (r1, r2, r3) := by first | (rw [hji17] at H; exact H) | (simp only [hji17] at H ⊢; exact H)
                  (try rw [hji17] at A13)
                  have hji17_ : (IntKind.i64.wrap ((Go.bits .and .i64 (Go.bits .xor .i64 (Go.bits .and .i64 (ji10) 3) ((Go.bits .and .i64 (ji10) 3) / 2)) 1) * 2 ^ min x17_2.toNat 64)) = ji17 := hji17
                  have hji17z : x17_2 ≤ 64 → (IntKind.i64.wrap ((Go.bits .and .i64 (Go.bits .xor .i64 (Go.bits .and .i64 (ji10) 3) ((Go.bits .and .i64 (ji10) 3) / 2)) 1) * 2 ^ x17_2.toNat)) = ji17 := shl_small hji17
                  have hji17y : (wrap64 ((Go.bits .and .i64 (Go.bits .xor .i64 (Go.bits .and .i64 (ji10) 3) ((Go.bits .and .i64 (ji10) 3) / 2)) 1) * 2 ^ min x17_2.toNat 64)) = ji17 := (i64_w _).symm.trans hji17_
                  have hji17x : x17_2 ≤ 64 → (wrap64 ((Go.bits .and .i64 (Go.bits .xor .i64 (Go.bits .and .i64 (ji10) 3) ((Go.bits .and .i64 (ji10) 3) / 2)) 1) * 2 ^ x17_2.toNat)) = ji17 := fun h_ => (i64_w _).symm.trans (hji17z h_)
                  have H' := Aside0.mk H
                  clear H
                  go_wp2_with (first | ((with_reducible refine gate_callee (f := 18) rfl ?_); refine goesL_ (some 38) rfl rfl Try.func18 (by kernel_rfl) rfl #[.int .i64 x4_2, .int .i64 x5_2, .int .i64 ji12, .int .i64 ((Go.bits .and .i64 (ji10) 3) / 2), .int .i64 (Go.bits .and .i64 (Go.bits .xor .i64 (Go.bits .and .i64 (ji10) 3) ((Go.bits .and .i64 (ji10) 3) / 2)) 1)] rfl (by (try simp only [List.map_toArray, List.map_cons, List.map_nil]); first | done | (simp only [hji10, hji12]; rfl) | rfl | (simp only [List.length_drop, List.length_take]; rfl)) ?_; (with_reducible refine (hilbert_turned.calls x4_2 x5_2 ji12 ((Go.bits .and .i64 (ji10) 3) / 2) (Go.bits .and .i64 (Go.bits .xor .i64 (Go.bits .and .i64 (ji10) 3) ((Go.bits .and .i64 (ji10) 3) / 2)) 1) t111 t112 _ A13.out).mono ?_); rintro e w' ⟨rfl, ⟨nd, rfl⟩⟩; refine ⟨_, rfl, ?_⟩))
                  go_roundg k2
                  case measure => have := HJ1.out; have := HK2.out; omega
                  case rel => exact ⟨(Go.bits .or .i64 t111 (ji15)), (Go.bits .or .i64 t112 (ji17)), (wrap64 (x17_2 + 1)), (by first | rfl | (simp; done) | (simp only [← hji15] <;> (first | rfl | simp)) | (simp [*]; done)), (by first | rfl | (simp; done) | (simp only [← hji17] <;> (first | rfl | simp)) | (simp [*]; done)), (by first | rfl | (simp; done) | (simp [*]; done)), H', ⟨by have := HJ1.out; have := HK2.out; omega⟩, ⟨by (with_reducible repeat (first | refine blk_drewN ?_ _ | refine blk_drew ?_ | refine blk_alloc ?_ _)); exact BK110.out⟩, ⟨by repeat (first | (with_reducible first | exact HB.out | apply below_alloc | apply pw_below_drewN | apply below_drew1 | refine below_set ?_ GE110.out) | exact HB.out)⟩⟩
                · rw [if_neg c11] at H
                  exact absurd H (by simp)
              · rw [if_neg c9] at H
                exact absurd H (by simp)
            · rw [if_neg c7] at H
              have c7b0 : decide (x17_2 < 16) = false := decide_eq_false c7
              clear c7
              simp only [Option.some.injEq, Prod.mk.injEq] at H
              obtain ⟨rfl, rfl, rfl⟩ := H
              have hcz18_0 : wr.cell? ⟨gb110, 0, none⟩ = some (.int .i64 0) := (blk_cell BK110.out 0).trans rfl
              have hcz18_1 : wr.cell? ⟨gb110, 1, none⟩ = some (.int .i64 0) := (blk_cell BK110.out 1).trans rfl
              have hfz18_0 := blk_frozen BK110.out 0
              have hfz18_1 := blk_frozen BK110.out 1
              go_wp2
              refine bodyPost_ret (results_ct rfl _ _ gb110 23 #[.int .i64 (wrap64 (x4_2 * 65536)), .int .i64 (wrap64 (x5_2 * 65536))] (0, 0) _ rfl (by (with_reducible repeat (first | refine blk_drewN ?_ _ | refine blk_drew ?_ | refine blk_alloc ?_ _)); refine blk_put (cs := #[.int .i64 (wrap64 (x4_2 * 65536)), .int .i64 0]) ?_ 1 _ rfl; (with_reducible repeat (first | refine blk_drewN ?_ _ | refine blk_drew ?_ | refine blk_alloc ?_ _)); refine blk_put (cs := #[.int .i64 0, .int .i64 0]) ?_ 0 _ rfl; (with_reducible repeat (first | refine blk_drewN ?_ _ | refine blk_drew ?_ | refine blk_alloc ?_ _)); exact BK110.out) Try.underlying23 rfl (by kernel_rfl)) rfl ?_
              exact ⟨by first | rfl | (simp [errW_none, errW_some] <;> rfl) | (simp [*, errW_none, errW_some] <;> rfl), by repeat (first | (with_reducible first | exact HB.out | apply below_alloc | apply pw_below_drewN | apply below_drew1 | refine below_set ?_ GE110.out) | exact HB.out)⟩

/-! ### furlonglaw0_Num: function 14 -/
def furlonglaw0_Num.f (a0 : Int) : Option (Int) := some a0
set_option maxHeartbeats 8000000 in
set_option maxRecDepth 100000 in
theorem furlonglaw0_Num.calls (a0 : Int) (r : Int) (w : World) (h : furlonglaw0_Num.f a0 = some r) :
    Calls Try.prog 14 #[.int .i64 a0] w fun e w' => e = .returned (.int .i64 r) ∧ Drawn0 w w' := by
  have H : (some a0) = some r := h
  clear h
  obtain rfl := Option.some.inj H
  go_enter Try.func14, Try.ntmps14
  go_wp2
  go_ret
  exact ⟨by first | rfl | (simp; done) | (simp [*]; done), by repeat (first | exact Drawn0.refl _ | apply Drawn0.step)⟩

end Go.Proofs.Ytakibdcemgahaaa.QC
