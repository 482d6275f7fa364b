/- CurveForms: for every input the law answers true. No condition. -/
import Derived.Test.YtakibdcemgahaaaCurveGo
namespace Go.Proofs.Ytakibdcemgahaaa.Pure
open Go.RowKit Go.Proofs.Ytakibdcemgahaaa.QC Go.Proofs.YtakibdcemgahaaaW.PrintWords Go.Proofs.YtakibdcemgahaaaW.PrintLast Go.Proofs.Ytakibdcemgahaaa.Hil Go.Proofs.Ytakibdcemgahaaa.CurveGo

theorem forms_j (k : Nat) (x e : Int) (i : Bool) (hk : 18 < k) (h : (i = true ∧ e = 0) ∨ (i = false ∧ e = 500)) : furlonglaw5_CurveForms.j0 k x e i = some true := by
  obtain ⟨k, rfl⟩ : ∃ m, k = m + 1 := ⟨k - 1, by omega⟩
  simp only [furlonglaw5_CurveForms.j0]
  have hd : ∃ r : Int × Int × Int, hilbert_Decode.f k x = some r ∧ ((r.2.2 == 0) = decide (0 ≤ x ∧ x < 4294967296)) := by
    by_cases c : 0 ≤ x ∧ x < 4294967296
    · obtain ⟨d, rfl⟩ := Int.eq_ofNat_of_zero_le c.1
      exact ⟨_, dec_ok (by omega) (by omega), by rw [decide_eq_true c]; rfl⟩
    · exact ⟨_, dec_no c (by omega), by rw [decide_eq_false c]; rfl⟩
  have he : ∃ r : Int × Int, hilbert_Encode.f k x 0 = some r ∧ ((r.2 == 0) = decide (0 ≤ x ∧ x ≤ 4294967295)) := by
    by_cases c : 0 ≤ x ∧ x ≤ 4294967295
    · exact ⟨_, enc_ok (by omega) (by omega), by rw [decide_eq_true c]; rfl⟩
    · exact ⟨_, enc_no (by omega), by rw [decide_eq_false c]; rfl⟩
  obtain ⟨r, hr, hr2⟩ := hd
  obtain ⟨s, hs, hs2⟩ := he
  rw [hr, hs]
  simp only [Option.bind_some, furlonglaw0_Num.f]
  have t : (if x ≥ 0 then (if ((r.2.2 == 0) == (decide (x < 4294967296))) = true then (some ((s.2 == 0) == (decide (x ≤ 4294967295)))) else (some false)) else (if ((r.2.2 == 0) == false) = true then (some ((s.2 == 0) == false)) else (some false))) = some true := by
    rw [hr2, hs2]
    by_cases c : x ≥ 0
    · rw [if_pos c]; simp [c]
    · rw [if_neg c]; simp [c]
  rcases h with ⟨rfl, rfl⟩ | ⟨rfl, rfl⟩
  · simp only [beq_self_eq_true, if_true]; exact t
  · rw [if_pos (by decide), if_neg (by decide), if_pos rfl]; exact t

theorem small_pow {x : Int} {n : Nat} (h0 : 0 ≤ x) : x / 2 ^ n = 0 ↔ x < 2 ^ n := by
  have hp : (0 : Int) < 2 ^ n := Int.pow_pos (by decide)
  constructor
  · intro h
    have := Int.lt_ediv_add_one_mul_self x hp
    rw [h] at this; simpa using this
  · intro h; exact Int.ediv_eq_zero_of_lt h0 h

theorem CurveForms : furlonglaw5_CurveForms.Pure := by
  intro a0 a1 a2 _ _ _
  refine ⟨20, ?_⟩
  unfold furlonglaw5_CurveForms.f
  rw [awake_ok (by decide)]
  simp only [Option.bind_some, if_true]
  by_cases c : 1 ≤ a2 ∧ a2 ≤ 16 ∧ 0 ≤ a0 ∧ 0 ≤ a1 ∧ a0 < 2 ^ a2.toNat ∧ a1 < 2 ^ a2.toNat
  · obtain ⟨c1, c2, c3, c4, c5, c6⟩ := c
    obtain ⟨n, rfl⟩ := Int.eq_ofNat_of_zero_le (show 0 ≤ a2 by omega)
    obtain ⟨X, rfl⟩ := Int.eq_ofNat_of_zero_le c3
    obtain ⟨Y, rfl⟩ := Int.eq_ofNat_of_zero_le c4
    rw [Int.toNat_natCast] at c5 c6
    have em : (mx 0 (mn (n : Int) 62)).toNat = n := by unfold mx mn; split <;> split <;> omega
    rw [cell_ok (by omega) (by omega) (by exact_mod_cast c5) (by exact_mod_cast c6) (by decide)]
    simp only [Option.bind_some]
    rw [if_pos c1, if_pos c2, if_pos c3, if_pos c4, em, if_pos ((small_pow c3).2 c5), (small_pow c4).2 c6]
    exact forms_j _ _ _ _ (by decide) (.inl ⟨rfl, rfl⟩)
  · rw [cell_no c (by decide)]
    simp only [Option.bind_some]
    have J (i : Bool) (hi : i = false) : furlonglaw5_CurveForms.j0 20 a0 500 i = some true := forms_j _ _ _ _ (by decide) (.inr ⟨hi, rfl⟩)
    by_cases c1 : a2 ≥ 1
    · rw [if_pos c1]
      by_cases c2 : a2 ≤ 16
      · rw [if_pos c2]
        by_cases c3 : a0 ≥ 0
        · rw [if_pos c3]
          by_cases c4 : a1 ≥ 0
          · rw [if_pos c4]
            obtain ⟨n, rfl⟩ := Int.eq_ofNat_of_zero_le (show 0 ≤ a2 by omega)
            have em : (mx 0 (mn (n : Int) 62)).toNat = n := by unfold mx mn; split <;> split <;> omega
            rw [em]
            rw [Int.toNat_natCast] at c
            by_cases c5 : a0 / 2 ^ n = 0
            · rw [if_pos c5]
              refine J _ ?_
              rw [small_pow c3] at c5
              have : ¬ a1 / 2 ^ n = 0 := fun h => c ⟨by omega, by omega, by omega, by omega, c5, (small_pow c4).1 h⟩
              simpa using this
            · rw [if_neg c5]; exact J _ rfl
          · rw [if_neg c4]; exact J _ rfl
        · rw [if_neg c3]; exact J _ rfl
      · rw [if_neg c2]; exact J _ rfl
    · rw [if_neg c1]; exact J _ rfl
end Go.Proofs.Ytakibdcemgahaaa.Pure
