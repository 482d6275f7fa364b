/- What the program's loops of the curve compute, in the words of the plain laws. -/
import Derived.Test.YtakibdcemgahaaaQCx3
import Derived.Laws.BitsLemmas
import Derived.Test.YtakibdcemgahaaaHil
namespace Go.Proofs.Ytakibdcemgahaaa.CurveGo
open Go.RowKit Go.Proofs.Ytakibdcemgahaaa.QC Go.Proofs.YtakibdcemgahaaaW.PrintWords Go.Proofs.YtakibdcemgahaaaW.PrintLast Go.Proofs.Ytakibdcemgahaaa.Hil

theorem wraps_i64 (n : Int) (h₀ : 0 ≤ n) (h₁ : n < 2 ^ 63) : IntKind.i64.wrap n = n := by rw [IntKind.wrap_i64]; omega
theorem w64 {n : Int} (h0 : -9223372036854775808 ≤ n) (h1 : n < 9223372036854775808) : wrap64 n = n := by unfold wrap64; omega

theorem pow_le {b n j : Nat} (hb : 0 < b) (h : n ≤ j) : b ^ n ≤ b ^ j := Nat.pow_le_pow_right hb h
theorem pow_le16 {n : Nat} (h : n ≤ 16) : 2 ^ n ≤ 65536 := pow_le (b := 2) (j := 16) (by decide) h
theorem pow4_le16 {n : Nat} (h : n ≤ 16) : 4 ^ n ≤ 4294967296 := pow_le (b := 4) (j := 16) (by decide) h

theorem shl_one {n : Nat} (h : n ≤ 16) : shl .i64 1 (n : Int) = ((2 ^ n : Nat) : Int) := by
  have hp := pow_le16 h
  unfold shl
  have e : min ((n : Int).toNat) (IntKind.bits .i64) = n := by
    have : IntKind.bits .i64 = 64 := rfl
    rw [this]; omega
  rw [e, wraps_i64]
  · push_cast; omega
  · rw [Int.one_mul]; exact Int.le_of_lt (Int.pow_pos (by decide))
  · have : ((2 : Int) ^ n) = ((2 ^ n : Nat) : Int) := by push_cast; rfl
    rw [this]; omega

theorem shr_nat {n : Nat} (x : Nat) (h : n ≤ 64) : shr .i64 (x : Int) (n : Int) = ((x / 2 ^ n : Nat) : Int) := by
  unfold shr
  have e : min ((n : Int).toNat) (IntKind.bits .i64) = n := by
    have : IntKind.bits .i64 = 64 := rfl
    rw [this]; omega
  rw [e]; push_cast; rfl

theorem and_low {x n : Nat} (hx : x < 2 ^ 63) (hn : n ≤ 32) : Go.bits .and .i64 (x : Int) (((2 ^ n : Nat) : Int) - 1) = ((x % 2 ^ n : Nat) : Int) := by
  have := bits_mask .i64 63 (by decide) wraps_i64 n (by omega) (x : Int) (by omega) (by exact_mod_cast hx)
  push_cast; exact this

theorem and_one {x : Nat} (hx : x < 2 ^ 63) : Go.bits .and .i64 (x : Int) 1 = ((x % 2 : Nat) : Int) := by
  have := and_low (n := 1) hx (by decide)
  simpa using this

theorem turned_eq {a b s rx ry : Nat} (ha : a < s) (hb : b < s) (hs : s ≤ 65536) (hrx : rx < 2) (hry : ry < 2) :
    hilbert_turned.f a b s rx ry = some (if ry = 1 then ((a : Int), (b : Int)) else if rx = 1 then (((s - 1 - b : Nat) : Int), ((s - 1 - a : Nat) : Int)) else ((b : Int), (a : Int))) := by
  unfold hilbert_turned.f
  have r : ry = 0 ∨ ry = 1 := by omega
  have q : rx = 0 ∨ rx = 1 := by omega
  rcases r with rfl | rfl <;> rcases q with rfl | rfl <;> simp
  unfold wrap64; omega

theorem xor_dig : ∀ rx ry : Nat, rx < 2 → ry < 2 → Go.bits .xor .i64 (wrap64 (3 * (rx : Int))) (ry : Int) = (dig rx ry : Int) := by
  intro rx ry h1 h2
  have r : ry = 0 ∨ ry = 1 := by omega
  have q : rx = 0 ∨ rx = 1 := by omega
  rcases r with rfl | rfl <;> rcases q with rfl | rfl <;> decide +kernel

theorem cell_loop (n : Nat) : ∀ (k X Y : Nat) (D : Int), n ≤ 16 → X < 2 ^ n → Y < 2 ^ n → 0 ≤ D → D + (4 ^ n : Nat) ≤ 4294967296 → n < k →
    hilbert_Cell.l0 k X Y D ((n : Int) - 1) = some (D + (hcell n X Y : Int), 0) := by
  induction n with
  | zero =>
    intro k X Y D _ _ _ _ _ hk
    obtain ⟨k, rfl⟩ : ∃ m, k = m + 1 := ⟨k - 1, by omega⟩
    simp only [hilbert_Cell.l0]; rw [if_neg (by omega)]; simp [hcell]
  | succ n ih =>
    intro k X Y D hn hX hY hD hD1 hk
    obtain ⟨k, rfl⟩ : ∃ m, k = m + 1 := ⟨k - 1, by omega⟩
    have h2 := two_pos n
    have hp := pow_le16 (n := n) (by omega)
    have hp4 : 4 ^ n ≤ 1073741824 := pow_le (b := 4) (j := 15) (by decide) (by omega)
    rw [Nat.pow_succ] at hX hY hD1
    have e : (((n + 1 : Nat) : Int) - 1) = (n : Int) := by omega
    rw [e]
    simp only [hilbert_Cell.l0]
    rw [if_pos (by omega), if_pos (by omega), shl_one (by omega), w64 (by omega) (by omega), and_low (by omega) (by omega), and_low (by omega) (by omega),
      shr_nat X (by omega), shr_nat Y (by omega), and_one (Nat.lt_of_le_of_lt (Nat.div_le_self _ _) (by omega)), and_one (Nat.lt_of_le_of_lt (Nat.div_le_self _ _) (by omega)),
      turned_eq (Nat.mod_lt _ h2) (Nat.mod_lt _ h2) hp (Nat.mod_lt _ (by decide)) (Nat.mod_lt _ (by decide)),
      xor_dig _ _ (Nat.mod_lt _ (by decide)) (Nat.mod_lt _ (by decide))]
    have hd := dig_lt (X / 2 ^ n % 2) (Y / 2 ^ n % 2)
    have hss : (((2 ^ n : Nat) : Int) * ((2 ^ n : Nat) : Int)) = ((4 ^ n : Nat) : Int) := by
      rw [← Int.natCast_mul, ← Nat.mul_pow]
    have hg : ((4 ^ n : Nat) : Int) * (dig (X / 2 ^ n % 2) (Y / 2 ^ n % 2) : Int) = ((4 ^ n * dig (X / 2 ^ n % 2) (Y / 2 ^ n % 2) : Nat) : Int) := by push_cast; rfl
    have hgl : 4 ^ n * dig (X / 2 ^ n % 2) (Y / 2 ^ n % 2) ≤ 4 ^ n * 3 := Nat.mul_le_mul_left _ (by omega)
    rw [hss, w64 (n := ((4 ^ n : Nat) : Int)) (by omega) (by omega), hg, w64 (n := ((4 ^ n * dig (X / 2 ^ n % 2) (Y / 2 ^ n % 2) : Nat) : Int)) (by omega) (by omega),
      w64 (n := (n : Int) - 1) (by omega) (by omega), w64 (n := D + _) (by omega) (by omega)]
    simp only [Option.bind_some]
    have lx := Nat.mod_lt X h2
    have ly := Nat.mod_lt Y h2
    rw [hcell_succ]
    have hry : Y / 2 ^ n % 2 = 0 ∨ Y / 2 ^ n % 2 = 1 := by omega
    have hrx : X / 2 ^ n % 2 = 0 ∨ X / 2 ^ n % 2 = 1 := by omega
    have hn1 : n ≤ 16 := by omega
    have hk1 : n < k := by omega
    generalize hG : ((4 ^ n * dig (X / 2 ^ n % 2) (Y / 2 ^ n % 2) : Nat) : Int) = G at *
    rcases hry with hry | hry
    · rcases hrx with hrx | hrx
      · simp only [hry, hrx, if_neg (show ¬ (0 : Nat) = 1 by decide)] at hG ⊢
        rw [ih k _ _ _ hn1 ly lx (by omega) (by omega) hk1, Int.natCast_add, hG, Int.add_assoc]
      · simp only [hry, hrx, if_neg (show ¬ (0 : Nat) = 1 by decide), if_pos] at hG ⊢
        rw [ih k _ _ _ hn1 (by omega) (by omega) (by omega) (by omega) hk1, Int.natCast_add, hG, Int.add_assoc]
    · simp only [hry, if_pos] at hG ⊢
      rw [ih k _ _ _ hn1 lx ly (by omega) (by omega) hk1, Int.natCast_add, hG, Int.add_assoc]


theorem shl_bit {n r : Nat} (h : n ≤ 16) (hr : r < 2) : shl .i64 (r : Int) (n : Int) = ((2 ^ n * r : Nat) : Int) := by
  have q : r = 0 ∨ r = 1 := by omega
  rcases q with rfl | rfl
  · unfold shl; simp; rfl
  · rw [Nat.mul_one]; exact shl_one h

theorem or_bit {a n r : Nat} (ha : a < 2 ^ n) (hn : n ≤ 16) (hr : r < 2) : Go.bits .or .i64 (a : Int) ((2 ^ n * r : Nat) : Int) = ((2 ^ n * r + a : Nat) : Int) := by
  have hp := pow_le16 hn
  have hm : 2 ^ n * r ≤ 2 ^ n * 1 := Nat.mul_le_mul_left _ (by omega)
  rw [(bits_nat .i64 63 (by decide) wraps_i64 a (2 ^ n * r) (by omega) (by omega)).2, Nat.or_comm, Nat.two_pow_add_eq_or_of_lt ha r]

theorem dec_loop (m : Nat) : ∀ (k d i : Nat), i + m = 16 → d < 2 ^ 63 → m < k →
    hilbert_Decode.l0 k d (hdec i d).1 (hdec i d).2 i = some (((hdec 16 d).1 : Int) * 65536, ((hdec 16 d).2 : Int) * 65536, 0) := by
  induction m with
  | zero =>
    intro k d i hi _ hk
    obtain ⟨k, rfl⟩ : ∃ m, k = m + 1 := ⟨k - 1, by omega⟩
    obtain rfl : i = 16 := by omega
    have h := hdec_lt 16 d
    simp only [hilbert_Decode.l0]
    rw [if_neg (by omega), w64 (by omega) (by omega), w64 (by omega) (by omega)]
  | succ m ih =>
    intro k d i hi hd hk
    obtain ⟨k, rfl⟩ : ∃ m, k = m + 1 := ⟨k - 1, by omega⟩
    have h := hdec_lt i d
    have hp := pow_le16 (n := i) (by omega)
    simp only [hilbert_Decode.l0]
    have e2 : (2 * (i : Int)) = ((2 * i : Nat) : Int) := by push_cast; rfl
    have hq : d / 2 ^ (2 * i) < 2 ^ 63 := Nat.lt_of_le_of_lt (Nat.div_le_self _ _) hd
    have ha3 : Go.bits .and .i64 ((d / 2 ^ (2 * i) : Nat) : Int) 3 = ((d / 2 ^ (2 * i) % 4 : Nat) : Int) := and_low (n := 2) hq (by decide)
    rw [if_pos (by omega), w64 (n := 2 * (i : Int)) (by omega) (by omega), if_pos (by omega), if_pos (by omega), e2, shr_nat d (by omega), ha3, Nat.pow_mul]
    have hg : d / (2 ^ 2) ^ i % 4 = d / 4 ^ i % 4 := rfl
    rw [hg, shl_one (by omega), w64 (n := (i : Int) + 1) (by omega) (by omega)]
    have hs : hdec (i + 1) d = trn (2 ^ i) (d / 4 ^ i % 4) (hdec i d) := rfl
    have ih := ih k d (i + 1) (by omega) hd (by omega)
    rw [hs] at ih
    have hlt : d / 4 ^ i % 4 < 4 := Nat.mod_lt _ (by decide)
    generalize d / 4 ^ i % 4 = g at *
    generalize hdec i d = p at *
    obtain ⟨a, b⟩ := p
    simp only at h ih
    have bits_of : ∀ rx ry : Nat, (g : Int) / 2 = (rx : Int) → Go.bits .and .i64 (Go.bits .xor .i64 (g : Int) (rx : Int)) 1 = (ry : Int) → rx < 2 → ry < 2 →
        (trn (2 ^ i) g (a, b)) = (if ry = 1 then (2 ^ i * rx + a, 2 ^ i * ry + b) else if rx = 1 then (2 ^ i * rx + (2 ^ i - 1 - b), 2 ^ i * ry + (2 ^ i - 1 - a)) else (2 ^ i * rx + b, 2 ^ i * ry + a)) →
        ((hilbert_turned.f (↑a) (↑b) ((2 ^ i : Nat) : Int) ((g : Int) / 2) (Go.bits .and .i64 (Go.bits .xor .i64 (g : Int) ((g : Int) / 2)) 1)).bind fun bt111 =>
          hilbert_Decode.l0 k (↑d) (Go.bits .or .i64 bt111.1 (shl .i64 ((g : Int) / 2) ↑i)) (Go.bits .or .i64 bt111.2 (shl .i64 (Go.bits .and .i64 (Go.bits .xor .i64 (g : Int) ((g : Int) / 2)) 1) ↑i)) (↑i + 1)) =
        some (((hdec 16 d).1 : Int) * 65536, ((hdec 16 d).2 : Int) * 65536, 0) := by
      intro rx ry hx hy hx2 hy2 ht
      rw [hx, hy, turned_eq h.1 h.2 hp hx2 hy2, shl_bit (by omega) hx2, shl_bit (by omega) hy2]
      rw [ht] at ih
      simp only [Option.bind_some]
      by_cases c1 : ry = 1
      · simp only [if_pos c1] at ih ⊢
        rw [or_bit h.1 (by omega) hx2, or_bit h.2 (by omega) hy2]; exact ih
      · simp only [if_neg c1] at ih ⊢
        by_cases c2 : rx = 1
        · simp only [if_pos c2] at ih ⊢
          rw [or_bit (by omega) (by omega) hx2, or_bit (by omega) (by omega) hy2]; exact ih
        · simp only [if_neg c2] at ih ⊢
          rw [or_bit h.2 (by omega) hx2, or_bit h.1 (by omega) hy2]; exact ih
    have g4 : g = 0 ∨ g = 1 ∨ g = 2 ∨ g = 3 := by omega
    rcases g4 with rfl | rfl | rfl | rfl
    · exact bits_of 0 0 (by decide) (by decide +kernel) (by decide) (by decide) (by simp [trn])
    · exact bits_of 0 1 (by decide) (by decide +kernel) (by decide) (by decide) (by simp [trn]; omega)
    · exact bits_of 1 1 (by decide) (by decide +kernel) (by decide) (by decide) (by simp [trn]; omega)
    · exact bits_of 1 0 (by decide) (by decide +kernel) (by decide) (by decide) (by simp [trn]; omega)

theorem cell_ok {k n X Y : Nat} (h1 : 1 ≤ n) (h2 : n ≤ 16) (hx : X < 2 ^ n) (hy : Y < 2 ^ n) (hk : 17 < k) : hilbert_Cell.f k X Y n = some ((hcell n X Y : Int), 0) := by
  obtain ⟨k, rfl⟩ : ∃ m, k = m + 1 := ⟨k - 1, by omega⟩
  unfold hilbert_Cell.f
  rw [if_neg (by omega), if_neg (by omega), if_neg (by omega), if_neg (by omega), if_pos (by omega), shl_one h2, if_neg (by omega)]
  have e : decide ((Y : Int) ≥ ((2 ^ n : Nat) : Int)) = false := decide_eq_false (by omega)
  rw [e]
  simp only [hilbert_Cell.j0]
  rw [if_neg (by decide), w64 (by omega) (by omega), cell_loop n k X Y 0 h2 hx hy (by omega) (by have := pow4_le16 h2; omega) (by omega), Int.zero_add]

theorem cell_no {k : Nat} {x y l : Int} (h : ¬ (1 ≤ l ∧ l ≤ 16 ∧ 0 ≤ x ∧ 0 ≤ y ∧ x < 2 ^ l.toNat ∧ y < 2 ^ l.toNat)) (hk : 0 < k) : hilbert_Cell.f k x y l = some (0, 500) := by
  obtain ⟨k, rfl⟩ : ∃ m, k = m + 1 := ⟨k - 1, by omega⟩
  unfold hilbert_Cell.f
  have j : hilbert_Cell.j0 (k + 1) x y l true = some (0, 500) := by simp [hilbert_Cell.j0]
  by_cases a1 : l < 1
  · rw [if_pos a1, j]
  rw [if_neg a1]
  by_cases a2 : l > 16
  · rw [if_pos a2, j]
  rw [if_neg a2]
  by_cases a3 : x < 0
  · rw [if_pos a3, j]
  rw [if_neg a3]
  by_cases a4 : y < 0
  · rw [if_pos a4, j]
  rw [if_neg a4, if_pos (by omega)]
  obtain ⟨n, rfl⟩ := Int.eq_ofNat_of_zero_le (show 0 ≤ l by omega)
  rw [shl_one (by omega)]
  rw [Int.toNat_natCast] at h
  have e : ((2 : Int) ^ n) = ((2 ^ n : Nat) : Int) := by push_cast; rfl
  rw [e] at h
  by_cases a5 : x ≥ ((2 ^ n : Nat) : Int)
  · rw [if_pos a5, j]
  rw [if_neg a5, decide_eq_true (by omega), j]

theorem may_eq (x y : Int) : geom_PointMay.f x y = some (decide (0 ≤ x ∧ x ≤ 4294967295 ∧ 0 ≤ y ∧ y ≤ 4294967295)) := by
  unfold geom_PointMay.f geom_coord.f
  by_cases h1 : x ≥ 0 <;> by_cases h2 : x ≤ 4294967295 <;> by_cases h3 : y ≥ 0 <;> by_cases h4 : y ≤ 4294967295 <;> simp [h1, h2, h3, h4] <;> omega

theorem enc_ok {k : Nat} {x y : Int} (h : 0 ≤ x ∧ x ≤ 4294967295 ∧ 0 ≤ y ∧ y ≤ 4294967295) (hk : 17 < k) : hilbert_Encode.f k x y = some ((hcell 16 (x / 65536).toNat (y / 65536).toNat : Int), 0) := by
  unfold hilbert_Encode.f
  rw [may_eq, decide_eq_true h]
  simp only [Option.bind_some, if_true]
  have e1 : x / 65536 = (((x / 65536).toNat : Nat) : Int) := by omega
  have e2 : y / 65536 = (((y / 65536).toNat : Nat) : Int) := by omega
  have := cell_ok (k := k) (n := 16) (X := (x / 65536).toNat) (Y := (y / 65536).toNat) (by decide) (by decide) (by omega) (by omega) hk
  rw [← e1, ← e2] at this
  have t : ((16 : Nat) : Int) = 16 := rfl
  rw [t] at this
  rw [this]; rfl

theorem enc_no {k : Nat} {x y : Int} (h : ¬ (0 ≤ x ∧ x ≤ 4294967295 ∧ 0 ≤ y ∧ y ≤ 4294967295)) : hilbert_Encode.f k x y = some (0, 500) := by
  unfold hilbert_Encode.f
  rw [may_eq, decide_eq_false h]; rfl

theorem dec_ok {k d : Nat} (h : d < 4294967296) (hk : 17 < k) : hilbert_Decode.f k d = some (((hdec 16 d).1 : Int) * 65536, ((hdec 16 d).2 : Int) * 65536, 0) := by
  obtain ⟨k, rfl⟩ : ∃ m, k = m + 1 := ⟨k - 1, by omega⟩
  unfold hilbert_Decode.f
  rw [if_neg (by omega), decide_eq_false (by omega)]
  simp only [hilbert_Decode.j0]
  rw [if_neg (by decide)]
  exact dec_loop 16 k d 0 rfl (by omega) (by omega)

theorem dec_no {k : Nat} {d : Int} (h : ¬ (0 ≤ d ∧ d < 4294967296)) (hk : 0 < k) : hilbert_Decode.f k d = some (0, 0, 500) := by
  obtain ⟨k, rfl⟩ : ∃ m, k = m + 1 := ⟨k - 1, by omega⟩
  unfold hilbert_Decode.f
  by_cases a : d < 0
  · rw [if_pos a]; simp [hilbert_Decode.j0]
  · rw [if_neg a, decide_eq_true (by omega)]; simp [hilbert_Decode.j0]

theorem awake_ok {k : Nat} (hk : 17 < k) : furlonglaw5_awake.f k = some true := by
  unfold furlonglaw5_awake.f
  have c1 := cell_ok (k := k) (n := 1) (X := 0) (Y := 1) (by decide) (by decide) (by decide) (by decide) hk
  have c2 := cell_ok (k := k) (n := 1) (X := 1) (Y := 0) (by decide) (by decide) (by decide) (by decide) hk
  have c3 := cell_no (k := k) (x := 2) (y := 0) (l := 1) (by decide) (by omega)
  have c4 := enc_ok (k := k) (x := 4294967295) (y := 0) (by decide) hk
  have c5 := dec_ok (k := k) (d := 4294967295) (by decide) hk
  have c6 := dec_no (k := k) (d := -1) (by decide) (by omega)
  have n1 : hcell 1 0 1 = 1 := by decide
  have n2 : hcell 1 1 0 = 3 := by decide
  have n3 : hcell 16 65535 0 = 4294967295 := by decide +kernel
  have n4 : hdec 16 4294967295 = (65535, 0) := by decide +kernel
  rw [n1] at c1
  rw [n2] at c2
  rw [show ((4294967295 : Int) / 65536).toNat = 65535 from rfl, show ((0 : Int) / 65536).toNat = 0 from rfl, n3] at c4
  rw [n4] at c5
  have q0 : ((0 : Nat) : Int) = 0 := rfl
  have q1 : ((1 : Nat) : Int) = 1 := rfl
  have q3 : ((3 : Nat) : Int) = 3 := rfl
  have q5 : ((4294967295 : Nat) : Int) = 4294967295 := rfl
  have q6 : ((65535 : Nat) : Int) = 65535 := rfl
  simp only [q0, q1, q3, q5, q6] at c1 c2 c4 c5
  rw [c1, c2, c3, c4, c5, c6]
  simp [furlonglaw0_Num.f]

theorem and_any (a : Int) : ∃ m : Nat, m < 4294967296 ∧ Go.bits .and .i64 a 4294967295 = (m : Int) := by
  unfold Go.bits
  simp only [BitVec.toNat_and]
  have hl : (BitVec.ofInt IntKind.i64.bits a).toNat &&& (BitVec.ofInt IntKind.i64.bits 4294967295).toNat ≤ (BitVec.ofInt IntKind.i64.bits 4294967295).toNat := Nat.and_le_right
  have e : (BitVec.ofInt IntKind.i64.bits 4294967295).toNat = 4294967295 := by decide +kernel
  rw [e] at hl ⊢
  refine ⟨_, by omega, wraps_i64 _ (by omega) (by omega)⟩

end Go.Proofs.Ytakibdcemgahaaa.CurveGo
