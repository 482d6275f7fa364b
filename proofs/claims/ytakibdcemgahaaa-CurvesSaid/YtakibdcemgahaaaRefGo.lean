/- Curves: for every input the law answers true: the program's curve is the document's. No condition. -/
import Derived.Test.YtakibdcemgahaaaQCx4
import Derived.Test.YtakibdcemgahaaaCurveGo
namespace Go.Proofs.Ytakibdcemgahaaa.RefGo
open Go.RowKit Go.Proofs.Ytakibdcemgahaaa.QC Go.Proofs.YtakibdcemgahaaaW.PrintWords Go.Proofs.YtakibdcemgahaaaW.PrintLast Go.Proofs.Ytakibdcemgahaaa.Hil Go.Proofs.Ytakibdcemgahaaa.CurveGo

theorem dec_half (n d : Nat) : hdec n (d / 4) = ((hdec (n + 1) d).1 / 2, (hdec (n + 1) d).2 / 2) := by
  have h := hdec_lt (n + 1) d
  have hc := cell_half n (hdec (n + 1) d).1 (hdec (n + 1) d).2
  rw [cell_dec] at hc
  have e : d % 4 ^ (n + 1) / 4 = d / 4 % 4 ^ n := by rw [Nat.pow_succ, Nat.mul_comm, Nat.mod_mul_right_div_self]
  rw [← hdec_mod, ← e, hc, dec_cell]
  · rw [Nat.pow_succ] at h; omega
  · rw [Nat.pow_succ] at h; omega

def top (n : Nat) : Nat := if n = 0 then 0 else 2 ^ (n - 1)

theorem tdiv_nat (a b : Nat) : Int.tdiv (a : Int) (b : Int) = ((a / b : Nat) : Int) := by
  rw [Int.tdiv_eq_ediv_of_nonneg (by omega)]; push_cast; rfl

theorem w64n {q : Nat} (h : q < 2 ^ 63) : wrap64 (q : Int) = q := w64 (by omega) (by omega)

theorem ref_loop (n : Nat) : ∀ (k X Y : Nat) (D : Int), n ≤ 16 → X < 2 ^ n → Y < 2 ^ n → 0 ≤ D → D + (4 ^ n : Nat) ≤ 4294967296 → n < k →
    furlongref1_Cell.l0 k X Y D (top n : Nat) = some (D + (hcell n X Y : Int), 0) := by
  induction n with
  | zero =>
    intro k X Y D _ _ _ _ _ hk
    obtain ⟨k, rfl⟩ : ∃ m, k = m + 1 := ⟨k - 1, by omega⟩
    simp only [furlongref1_Cell.l0]; rw [if_neg (by simp [top])]; simp [hcell]
  | succ n ih =>
    intro k X Y D hn hX hY hD hD1 hk
    obtain ⟨k, rfl⟩ : ∃ m, k = m + 1 := ⟨k - 1, by omega⟩
    have h2 := two_pos n
    have hp := pow_le16 (n := n) (by omega)
    have hp4 : 4 ^ n ≤ 1073741824 := pow_le (b := 4) (j := 15) (by decide) (by omega)
    rw [Nat.pow_succ] at hX hY hD1
    have et : top (n + 1) = 2 ^ n := by simp [top]
    have ed : (2 ^ n) / 2 = top n := by
      unfold top
      cases n with
      | zero => rfl
      | succ m => rw [if_neg (by omega), Nat.pow_succ, Nat.mul_div_cancel _ (by decide)]; rfl
    have htn : top n ≤ 65536 := by rw [← ed]; omega
    rw [et]
    simp only [furlongref1_Cell.l0]
    have hXq : X / 2 ^ n < 2 ^ 63 := Nat.lt_of_le_of_lt (Nat.div_le_self _ _) (by omega)
    have hYq : Y / 2 ^ n < 2 ^ 63 := Nat.lt_of_le_of_lt (Nat.div_le_self _ _) (by omega)
    have e2 : ((2 : Int)) = ((2 : Nat) : Int) := rfl
    rw [if_pos (by omega), if_neg (by omega), w64 (n := ((2 ^ n : Nat) : Int) - 1) (by omega) (by omega), and_low (by omega) (by omega), and_low (by omega) (by omega),
      tdiv_nat, tdiv_nat, w64n hXq, w64n hYq, and_one hXq, and_one hYq]
    have ed' : Int.tdiv ((2 ^ n : Nat) : Int) 2 = ((top n : Nat) : Int) := by
      have := tdiv_nat (2 ^ n) 2
      rw [ed] at this; exact this
    have lx := Nat.mod_lt X h2
    have ly := Nat.mod_lt Y h2
    have hd := dig_lt (X / 2 ^ n % 2) (Y / 2 ^ n % 2)
    have hss : (((2 ^ n : Nat) : Int) * ((2 ^ n : Nat) : Int)) = ((4 ^ n : Nat) : Int) := by
      rw [← Int.natCast_mul, ← Nat.mul_pow]
    have hg : ((4 ^ n : Nat) : Int) * (dig (X / 2 ^ n % 2) (Y / 2 ^ n % 2) : Int) = ((4 ^ n * dig (X / 2 ^ n % 2) (Y / 2 ^ n % 2) : Nat) : Int) := by push_cast; rfl
    have hgl : 4 ^ n * dig (X / 2 ^ n % 2) (Y / 2 ^ n % 2) ≤ 4 ^ n * 3 := Nat.mul_le_mul_left _ (by omega)
    rw [xor_dig _ _ (Nat.mod_lt _ (by decide)) (Nat.mod_lt _ (by decide)), hss, w64 (n := ((4 ^ n : Nat) : Int)) (by omega) (by omega), hg,
      w64 (n := ((4 ^ n * dig (X / 2 ^ n % 2) (Y / 2 ^ n % 2) : Nat) : Int)) (by omega) (by omega), ed', w64 (n := ((top n : Nat) : Int)) (by omega) (by omega), w64 (n := D + _) (by omega) (by omega)]
    rw [hcell_succ]
    have hry : Y / 2 ^ n % 2 = 0 ∨ Y / 2 ^ n % 2 = 1 := by omega
    have hrx : X / 2 ^ n % 2 = 0 ∨ X / 2 ^ n % 2 = 1 := by omega
    have hn1 : n ≤ 16 := by omega
    have hk1 : n < k := by omega
    have z0 : ((0 : Nat) : Int) = 0 := rfl
    have z1 : ((1 : Nat) : Int) = 1 := rfl
    generalize hG : ((4 ^ n * dig (X / 2 ^ n % 2) (Y / 2 ^ n % 2) : Nat) : Int) = G at *
    rcases hry with hry | hry
    · rw [hry] at hG ⊢
      rw [z0, if_pos rfl, if_neg (show ¬ (0 : Nat) = 1 by decide)]
      rcases hrx with hrx | hrx
      · rw [hrx] at hG ⊢
        rw [z0, if_neg (by decide), if_neg (show ¬ (0 : Nat) = 1 by decide), ih k _ _ _ hn1 ly lx (by omega) (by omega) hk1, Int.natCast_add, hG, Int.add_assoc]
      · rw [hrx] at hG ⊢
        have sx : wrap64 (((2 ^ n : Nat) : Int) - 1 - ((X % 2 ^ n : Nat) : Int)) = ((2 ^ n - 1 - X % 2 ^ n : Nat) : Int) := by rw [w64 (by omega) (by omega)]; omega
        have sy : wrap64 (((2 ^ n : Nat) : Int) - 1 - ((Y % 2 ^ n : Nat) : Int)) = ((2 ^ n - 1 - Y % 2 ^ n : Nat) : Int) := by rw [w64 (by omega) (by omega)]; omega
        rw [z1, if_pos rfl, if_pos rfl, sx, sy, ih k _ _ _ hn1 (by omega) (by omega) (by omega) (by omega) hk1, Int.natCast_add, hG, Int.add_assoc]
    · rw [hry] at hG ⊢
      rw [z1, if_neg (by decide), if_pos rfl, ih k _ _ _ hn1 lx ly (by omega) (by omega) hk1, Int.natCast_add, hG, Int.add_assoc]

theorem rcell_ok {k n X Y : Nat} (h1 : 1 ≤ n) (h2 : n ≤ 16) (hx : X < 2 ^ n) (hy : Y < 2 ^ n) (hk : 17 < k) : furlongref1_Cell.f k X Y n = some ((hcell n X Y : Int), 0) := by
  obtain ⟨k, rfl⟩ : ∃ m, k = m + 1 := ⟨k - 1, by omega⟩
  unfold furlongref1_Cell.f
  rw [if_neg (by omega), if_neg (by omega), if_neg (by omega), if_pos (by omega), shl_one h2, if_neg (by omega), if_neg (by omega)]
  have e : decide ((Y : Int) ≥ ((2 ^ n : Nat) : Int)) = false := decide_eq_false (by omega)
  rw [e]
  simp only [furlongref1_Cell.j0]
  have e1 : (n : Int) - 1 = ((n - 1 : Nat) : Int) := by omega
  have et : top n = 2 ^ (n - 1) := by unfold top; rw [if_neg (by omega)]
  rw [if_neg (by decide), w64 (by omega) (by omega), if_pos (by omega), e1, shl_one (by omega), ← et, ref_loop n k X Y 0 h2 hx hy (by omega) (by have := pow4_le16 h2; omega) (by omega), Int.zero_add]

theorem rcell_no {k : Nat} {x y l : Int} (h : ¬ (1 ≤ l ∧ l ≤ 16 ∧ 0 ≤ x ∧ 0 ≤ y ∧ x < 2 ^ l.toNat ∧ y < 2 ^ l.toNat)) (hk : 0 < k) : furlongref1_Cell.f k x y l = some (0, 500) := by
  obtain ⟨k, rfl⟩ : ∃ m, k = m + 1 := ⟨k - 1, by omega⟩
  unfold furlongref1_Cell.f
  have j : furlongref1_Cell.j0 (k + 1) x y l true = some (0, 500) := by simp [furlongref1_Cell.j0]
  by_cases a1 : l < 1
  · rw [if_pos a1, j]
  rw [if_neg a1]
  by_cases a2 : l > 16
  · rw [if_pos a2, j]
  rw [if_neg a2]
  by_cases a3 : x < 0
  · rw [if_pos a3, j]
  rw [if_neg a3, if_pos (by omega)]
  obtain ⟨n, rfl⟩ := Int.eq_ofNat_of_zero_le (show 0 ≤ l by omega)
  rw [shl_one (by omega)]
  rw [Int.toNat_natCast] at h
  have e : ((2 : Int) ^ n) = ((2 ^ n : Nat) : Int) := by push_cast; rfl
  rw [e] at h
  by_cases a5 : x ≥ ((2 ^ n : Nat) : Int)
  · rw [if_pos a5, j]
  rw [if_neg a5]
  by_cases a4 : y < 0
  · rw [if_pos a4, j]
  rw [if_neg a4, decide_eq_true (by omega), j]

theorem rmay_eq (x y : Int) : furlongref1_PointMay.f x y = some (decide (0 ≤ x ∧ x ≤ 4294967295 ∧ 0 ≤ y ∧ y ≤ 4294967295)) := by
  unfold furlongref1_PointMay.f
  by_cases h1 : x ≥ 0 <;> by_cases h2 : x ≤ 4294967295 <;> by_cases h3 : y ≥ 0 <;> by_cases h4 : y ≤ 4294967295 <;> simp [h1, h2, h3, h4] <;> omega

theorem renc_ok {k : Nat} {x y : Int} (h : 0 ≤ x ∧ x ≤ 4294967295 ∧ 0 ≤ y ∧ y ≤ 4294967295) (hk : 17 < k) : furlongref1_Encode.f k x y = some ((hcell 16 (x / 65536).toNat (y / 65536).toNat : Int), 0) := by
  unfold furlongref1_Encode.f
  rw [rmay_eq, decide_eq_true h]
  simp only [Option.bind_some, if_true]
  have e1 : wrap64 (Int.tdiv x 65536) = (((x / 65536).toNat : Nat) : Int) := by rw [Int.tdiv_eq_ediv_of_nonneg (by omega), w64 (by omega) (by omega)]; omega
  have e2 : wrap64 (Int.tdiv y 65536) = (((y / 65536).toNat : Nat) : Int) := by rw [Int.tdiv_eq_ediv_of_nonneg (by omega), w64 (by omega) (by omega)]; omega
  have := rcell_ok (k := k) (n := 16) (X := (x / 65536).toNat) (Y := (y / 65536).toNat) (by decide) (by decide) (by omega) (by omega) hk
  have t : ((16 : Nat) : Int) = 16 := rfl
  rw [t] at this
  rw [e1, e2, this]; rfl

theorem renc_no {k : Nat} {x y : Int} (h : ¬ (0 ≤ x ∧ x ≤ 4294967295 ∧ 0 ≤ y ∧ y ≤ 4294967295)) : furlongref1_Encode.f k x y = some (0, 500) := by
  unfold furlongref1_Encode.f
  rw [rmay_eq, decide_eq_false h]; rfl

theorem child_eq {A B K : Nat} (h : K = A % 2 + 2 * (B % 2)) : 2 * (A / 2) + K % 2 = A ∧ 2 * (B / 2) + K / 2 = B := by omega
theorem child_ne {A B K x y : Nat} (hx : x = A / 2) (hy : y = B / 2) (hK : K < A % 2 + 2 * (B % 2)) (h1 : 2 * x + K % 2 = A) (h2 : 2 * y + K / 2 = B) : False := by omega
theorem wx {x K : Nat} (hx : x < 65536) (_hK : K < 4) : wrap64 (wrap64 (2 * (x : Int)) + ((K % 2 : Nat) : Int)) = ((2 * x + K % 2 : Nat) : Int) := by
  rw [w64 (n := 2 * (x : Int)) (by omega) (by omega), w64 (by omega) (by omega)]; omega
theorem wy {y K : Nat} (hy : y < 65536) (hK : K < 4) : wrap64 (wrap64 (2 * (y : Int)) + (K : Int) / 2) = ((2 * y + K / 2 : Nat) : Int) := by
  rw [w64 (n := 2 * (y : Int)) (by omega) (by omega), w64 (by omega) (by omega)]; omega
theorem child_lt {L x u : Nat} (hx : x = u / 2) (hu : u < 2 ^ (L + 1)) (K : Nat) (_hK : K < 2) : 2 * x + K < 2 ^ (L + 1) := by
  have hp := two_pos L
  rw [Nat.pow_succ] at *; omega

theorem l1_succ (k : Nat) (x0 x4 x5 x6 x7 x8 : Int) : furlongref1_Decode.l1 (k + 1) x0 x4 x5 x6 x7 x8 = if x8 < 4 then ((furlongref1_Cell.f k (wrap64 ((wrap64 (2 * x4)) + (Go.bits .and .i64 x8 1))) (wrap64 ((wrap64 (2 * x5)) + (x8 / 2))) x6).bind fun bt172 => (if bt172.1 = x7 then (furlongref1_Decode.l0 k x0 (wrap64 ((wrap64 (2 * x4)) + (Go.bits .and .i64 x8 1))) (wrap64 ((wrap64 (2 * x5)) + (x8 / 2))) (wrap64 (x6 + 1))) else (furlongref1_Decode.l1 k x0 x4 x5 x6 x7 (wrap64 (x8 + 1))))) else (furlongref1_Decode.l0 k x0 x4 x5 (wrap64 (x6 + 1))) := by
  simp only [furlongref1_Decode.l1]
theorem l0_succ (k : Nat) (x0 x4 x5 x6 : Int) : furlongref1_Decode.l0 (k + 1) x0 x4 x5 x6 = if x6 ≤ 16 then (if 0 ≤ (wrap64 (32 - (wrap64 (2 * x6)))) then (furlongref1_Decode.l1 k x0 x4 x5 x6 (shr .i64 x0 (wrap64 (32 - (wrap64 (2 * x6))))) 0) else (none)) else (some (wrap64 (x4 * 65536), wrap64 (x5 * 65536), 0)) := by
  simp only [furlongref1_Decode.l0]

/-- The child that is looked for is number A % 2 + 2 (B % 2). -/
theorem child_loop (j : Nat) : ∀ (k d L A B x y K : Nat), L + 1 ≤ 16 → hdec (L + 1) (d / 4 ^ (16 - (L + 1))) = (A, B) → x = A / 2 → y = B / 2 → K + j = A % 2 + 2 * (B % 2) → d < 4294967296 → 40 < k →
    furlongref1_Decode.l1 (k + j + 1) d x y ((L + 1 : Nat) : Int) ((d / 4 ^ (16 - (L + 1)) : Nat) : Int) K = furlongref1_Decode.l0 k d A B ((L + 2 : Nat) : Int) := by
  induction j with
  | zero =>
    intro k d L A B x y K hL hAB hx hy hK hd hk
    have hl := hdec_lt (L + 1) (d / 4 ^ (16 - (L + 1)))
    have hc := cell_dec (L + 1) (d / 4 ^ (16 - (L + 1)))
    rw [hAB] at hl hc
    simp only at hl hc
    have hp := pow_le16 (n := L + 1) hL
    have hlt : d / 4 ^ (16 - (L + 1)) < 4 ^ (L + 1) := by
      apply Nat.div_lt_of_lt_mul
      rw [← Nat.pow_add]
      have : 16 - (L + 1) + (L + 1) = 16 := by omega
      rw [this]; exact hd
    rw [Nat.mod_eq_of_lt hlt] at hc
    rw [l1_succ]
    have hK4 : K < 4 := by omega
    have ea : Go.bits .and .i64 (K : Int) 1 = ((K % 2 : Nat) : Int) := and_one (by omega)
    rw [if_pos (by omega), ea]
    have hx6 : x < 65536 := by clear hc hlt hd ea; omega
    have hy6 : y < 65536 := by clear hc hlt hd ea; omega
    have ce := child_eq (A := A) (B := B) (K := K) (by clear hc hlt hd ea; omega)
    have e1 := wx hx6 hK4
    have e2 := wy hy6 hK4
    subst hx
    subst hy
    rw [ce.1] at e1
    rw [ce.2] at e2
    rw [e1, e2, rcell_ok (by omega) hL hl.1 hl.2 (by omega), hc]
    simp only [Option.bind_some]
    have e3 : ((L + 1 : Nat) : Int) + 1 = ((L + 2 : Nat) : Int) := by omega
    rw [if_pos trivial, w64 (n := ((L + 1 : Nat) : Int) + 1) (by omega) (by omega), e3]
  | succ j ih =>
    intro k d L A B x y K hL hAB hx hy hK hd hk
    have hl := hdec_lt (L + 1) (d / 4 ^ (16 - (L + 1)))
    have hc := cell_dec (L + 1) (d / 4 ^ (16 - (L + 1)))
    rw [hAB] at hl hc
    simp only at hl hc
    have hp := pow_le16 (n := L + 1) hL
    have hlt : d / 4 ^ (16 - (L + 1)) < 4 ^ (L + 1) := by
      apply Nat.div_lt_of_lt_mul
      rw [← Nat.pow_add]
      have : 16 - (L + 1) + (L + 1) = 16 := by omega
      rw [this]; exact hd
    rw [Nat.mod_eq_of_lt hlt] at hc
    have hK4 : K < 3 := by omega
    have ek : k + (j + 1) + 1 = (k + j + 1) + 1 := by omega
    rw [ek, l1_succ]
    have ea : Go.bits .and .i64 (K : Int) 1 = ((K % 2 : Nat) : Int) := and_one (by omega)
    rw [if_pos (by omega), ea]
    have hx6 : x < 65536 := by clear hc hlt hd ea; omega
    have hy6 : y < 65536 := by clear hc hlt hd ea; omega
    have hK5 : K < 4 := by omega
    have hK6 : K % 2 < 2 := Nat.mod_lt _ (by decide)
    have hK7 : K / 2 < 2 := by clear hc hlt hd ea; omega
    have hK8 : K < A % 2 + 2 * (B % 2) := by clear hc hlt hd ea; omega
    have hK9 : K + 1 + j = A % 2 + 2 * (B % 2) := by clear hc hlt hd ea; omega
    have e3 : wrap64 ((K : Int) + 1) = ((K + 1 : Nat) : Int) := by have := w64n (q := K + 1) (by clear hc hlt hd ea; omega); exact this
    have l1 := child_lt hx hl.1 (K % 2) hK6
    have l2 := child_lt hy hl.2 (K / 2) hK7
    have e1 := wx (K := K) hx6 hK5
    have e2 := wy (K := K) hy6 hK5
    have hkk : 17 < k + j + 1 := by clear hc hlt hd ea e1 e2 e3; omega
    rw [e1, e2, rcell_ok (Nat.le_add_left 1 L) hL l1 l2 hkk]
    simp only [Option.bind_some]
    rw [if_neg (fun he => by
      have he' : hcell (L + 1) (2 * x + K % 2) (2 * y + K / 2) = hcell (L + 1) A B := by rw [hc]; exact_mod_cast he
      have := cell_inj l1 l2 hl.1 hl.2 he'
      exact child_ne hx hy hK8 this.1 this.2)]
    rw [e3]
    exact ih k d L A B x y (K + 1) hL hAB hx hy hK9 hd hk

theorem rdec_loop (m : Nat) : ∀ (k d L : Nat), L + m = 16 → d < 4294967296 → 40 + 6 * m < k →
    furlongref1_Decode.l0 k d (hdec L (d / 4 ^ (16 - L))).1 (hdec L (d / 4 ^ (16 - L))).2 ((L + 1 : Nat) : Int) = some (((hdec 16 d).1 : Int) * 65536, ((hdec 16 d).2 : Int) * 65536, 0) := by
  induction m with
  | zero =>
    intro k d L hL hd hk
    obtain ⟨k, rfl⟩ : ∃ m, k = m + 1 := ⟨k - 1, by omega⟩
    obtain rfl : L = 16 := by omega
    have h := hdec_lt 16 d
    have e0 : d / 4 ^ (16 - 16) = d := by simp
    rw [e0, l0_succ]
    rw [if_neg (by omega), w64 (by omega) (by omega), w64 (by omega) (by omega)]
  | succ m ih =>
    intro k d L hL hd hk
    have hab : ∃ A B, hdec (L + 1) (d / 4 ^ (16 - (L + 1))) = (A, B) := ⟨_, _, rfl⟩
    obtain ⟨A, B, hAB⟩ := hab
    have hh := dec_half L (d / 4 ^ (16 - (L + 1)))
    have e4 : d / 4 ^ (16 - (L + 1)) / 4 = d / 4 ^ (16 - L) := by
      rw [Nat.div_div_eq_div_mul, ← Nat.pow_succ]
      have : (16 - (L + 1)).succ = 16 - L := by omega
      rw [this]
    rw [e4, hAB] at hh
    rw [hh]
    obtain ⟨k', hk'⟩ : ∃ k', k = (k' + (A % 2 + 2 * (B % 2)) + 1) + 1 := ⟨k - 2 - (A % 2 + 2 * (B % 2)), by omega⟩
    subst hk'
    rw [l0_succ]
    have w1 : wrap64 (2 * ((L + 1 : Nat) : Int)) = ((2 * (L + 1) : Nat) : Int) := by rw [w64 (by omega) (by omega)]; omega
    have w2 : wrap64 (32 - ((2 * (L + 1) : Nat) : Int)) = ((2 * (16 - (L + 1)) : Nat) : Int) := by rw [w64 (by omega) (by omega)]; omega
    rw [if_pos (by omega), w1, w2, if_pos (by omega), shr_nat d (by omega), Nat.pow_mul]
    have hch := child_loop (A % 2 + 2 * (B % 2)) k' d L A B (A / 2) (B / 2) 0 (by omega) hAB rfl rfl (by omega) hd (by omega)
    have z0 : ((0 : Nat) : Int) = 0 := rfl
    rw [z0] at hch
    rw [hch]
    have := ih k' d (L + 1) (by omega) hd (by omega)
    rw [hAB] at this
    exact this

theorem rdec_ok {k d : Nat} (h : d < 4294967296) (hk : 200 < k) : furlongref1_Decode.f k d = some (((hdec 16 d).1 : Int) * 65536, ((hdec 16 d).2 : Int) * 65536, 0) := by
  obtain ⟨k, rfl⟩ : ∃ m, k = m + 1 := ⟨k - 1, by omega⟩
  unfold furlongref1_Decode.f
  rw [if_neg (by omega), decide_eq_false (by omega)]
  simp only [furlongref1_Decode.j0]
  rw [if_neg (by decide)]
  exact rdec_loop 16 k d 0 rfl h (by omega)

theorem rdec_no {k : Nat} {d : Int} (h : ¬ (0 ≤ d ∧ d < 4294967296)) (hk : 0 < k) : furlongref1_Decode.f k d = some (0, 0, 500) := by
  obtain ⟨k, rfl⟩ : ∃ m, k = m + 1 := ⟨k - 1, by omega⟩
  unfold furlongref1_Decode.f
  by_cases a : d < 0
  · rw [if_pos a]; simp [furlongref1_Decode.j0]
  · rw [if_neg a, decide_eq_true (by omega)]; simp [furlongref1_Decode.j0]

theorem same_enc (x y : Int) {k : Nat} (hk : 200 < k) : ∃ r, hilbert_Encode.f k x y = some r ∧ furlongref1_Encode.f k x y = some r := by
  by_cases h : 0 ≤ x ∧ x ≤ 4294967295 ∧ 0 ≤ y ∧ y ≤ 4294967295
  · exact ⟨_, enc_ok h (by omega), renc_ok h (by omega)⟩
  · exact ⟨_, enc_no h, renc_no h⟩
theorem same_dec (d : Int) {k : Nat} (hk : 200 < k) : ∃ r, hilbert_Decode.f k d = some r ∧ furlongref1_Decode.f k d = some r := by
  by_cases h : 0 ≤ d ∧ d < 4294967296
  · obtain ⟨n, rfl⟩ := Int.eq_ofNat_of_zero_le h.1
    exact ⟨_, dec_ok (by omega) (by omega), rdec_ok (by omega) (by omega)⟩
  · exact ⟨_, dec_no h (by omega), rdec_no h (by omega)⟩
theorem same_cell (x y l : Int) {k : Nat} (hk : 200 < k) : ∃ r, hilbert_Cell.f k x y l = some r ∧ furlongref1_Cell.f k x y l = some r := by
  by_cases h : 1 ≤ l ∧ l ≤ 16 ∧ 0 ≤ x ∧ 0 ≤ y ∧ x < 2 ^ l.toNat ∧ y < 2 ^ l.toNat
  · obtain ⟨h1, h2, h3, h4, h5, h6⟩ := h
    obtain ⟨n, rfl⟩ := Int.eq_ofNat_of_zero_le (show 0 ≤ l by omega)
    obtain ⟨X, rfl⟩ := Int.eq_ofNat_of_zero_le h3
    obtain ⟨Y, rfl⟩ := Int.eq_ofNat_of_zero_le h4
    rw [Int.toNat_natCast] at h5 h6
    exact ⟨_, cell_ok (by omega) (by omega) (by exact_mod_cast h5) (by exact_mod_cast h6) (by omega), rcell_ok (by omega) (by omega) (by exact_mod_cast h5) (by exact_mod_cast h6) (by omega)⟩
  · exact ⟨_, cell_no h (by omega), rcell_no h (by omega)⟩

theorem curves_true (x y d a b l : Int) : furlonglaw5_Curves.f 300 x y d a b l = some true := by
  obtain ⟨r, r1, r2⟩ := same_enc x y (k := 300) (by decide)
  obtain ⟨s, s1, s2⟩ := same_dec d (k := 300) (by decide)
  obtain ⟨t, t1, t2⟩ := same_cell a b l (k := 300) (by decide)
  unfold furlonglaw5_Curves.f
  rw [r1, r2, s1, s2, t1, t2, awake_ok (by decide)]
  simp [furlonglaw0_Num.f]

end Go.Proofs.Ytakibdcemgahaaa.RefGo
