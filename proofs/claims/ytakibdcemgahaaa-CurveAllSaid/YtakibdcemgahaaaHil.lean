/- Plain laws of the curve: cells to indices and back, neighbors, first bits. No program in sight. -/
namespace Go.Proofs.Ytakibdcemgahaaa.Hil
set_option linter.unusedSimpArgs false
set_option linter.unusedVariables false
set_option linter.defProp false
set_option maxHeartbeats 1000000

def dig (rx ry : Nat) : Nat := if ry = 1 then (if rx = 1 then 2 else 1) else (if rx = 1 then 3 else 0)

def hcell : Nat → Nat → Nat → Nat
  | 0, _, _ => 0
  | n + 1, x, y => 4 ^ n * dig (x / 2 ^ n % 2) (y / 2 ^ n % 2) +
      (if y / 2 ^ n % 2 = 1 then hcell n (x % 2 ^ n) (y % 2 ^ n)
       else if x / 2 ^ n % 2 = 1 then hcell n (2 ^ n - 1 - y % 2 ^ n) (2 ^ n - 1 - x % 2 ^ n)
       else hcell n (y % 2 ^ n) (x % 2 ^ n))

def trn (s : Nat) (g : Nat) (p : Nat × Nat) : Nat × Nat :=
  if g = 0 then (p.2, p.1) else if g = 1 then (p.1, p.2 + s) else if g = 2 then (p.1 + s, p.2 + s) else (s - 1 - p.2 + s, s - 1 - p.1)

def hdec : Nat → Nat → Nat × Nat
  | 0, _ => (0, 0)
  | n + 1, d => trn (2 ^ n) (d / 4 ^ n % 4) (hdec n d)

theorem hcell_succ (n x y : Nat) : hcell (n + 1) x y = 4 ^ n * dig (x / 2 ^ n % 2) (y / 2 ^ n % 2) +
      (if y / 2 ^ n % 2 = 1 then hcell n (x % 2 ^ n) (y % 2 ^ n)
       else if x / 2 ^ n % 2 = 1 then hcell n (2 ^ n - 1 - y % 2 ^ n) (2 ^ n - 1 - x % 2 ^ n)
       else hcell n (y % 2 ^ n) (x % 2 ^ n)) := rfl

theorem two_pos (n : Nat) : 0 < 2 ^ n := Nat.two_pow_pos n
theorem four_pos (n : Nat) : 0 < 4 ^ n := Nat.pow_pos (by decide)

theorem dig_lt (a b : Nat) : dig a b < 4 := by unfold dig; split <;> split <;> omega

theorem hcell_lt : ∀ n x y, hcell n x y < 4 ^ n
  | 0, _, _ => by simp [hcell]
  | n + 1, x, y => by
    unfold hcell
    have hd := dig_lt (x / 2 ^ n % 2) (y / 2 ^ n % 2)
    have h1 := hcell_lt n (x % 2 ^ n) (y % 2 ^ n)
    have h2 := hcell_lt n (2 ^ n - 1 - y % 2 ^ n) (2 ^ n - 1 - x % 2 ^ n)
    have h3 := hcell_lt n (y % 2 ^ n) (x % 2 ^ n)
    have : 4 ^ n * dig (x / 2 ^ n % 2) (y / 2 ^ n % 2) ≤ 4 ^ n * 3 := Nat.mul_le_mul_left _ (by omega)
    rw [Nat.pow_succ]
    split
    · omega
    · split <;> omega

theorem trn_lt {s g : Nat} {p : Nat × Nat} (h1 : p.1 < s) (h2 : p.2 < s) : (trn s g p).1 < 2 * s ∧ (trn s g p).2 < 2 * s := by
  unfold trn; split
  · constructor <;> simp <;> omega
  · split
    · constructor <;> simp <;> omega
    · split <;> constructor <;> simp <;> omega

theorem hdec_lt : ∀ n d, (hdec n d).1 < 2 ^ n ∧ (hdec n d).2 < 2 ^ n
  | 0, _ => by simp [hdec]
  | n + 1, d => by
    have h := hdec_lt n d
    have := trn_lt (g := d / 4 ^ n % 4) h.1 h.2
    rw [Nat.pow_succ, hdec]; omega

theorem hdec_add : ∀ n a b, hdec n (4 ^ n * a + b) = hdec n b
  | 0, _, _ => rfl
  | n + 1, a, b => by
    have e : 4 ^ (n + 1) * a + b = 4 ^ n * (4 * a) + b := by rw [Nat.pow_succ, Nat.mul_assoc]
    rw [hdec, hdec, e, hdec_add n (4 * a) b, Nat.mul_add_div (four_pos n)]
    congr 1; omega

theorem hdec_mod (n d : Nat) : hdec n (d % 4 ^ n) = hdec n d := by
  rw [← hdec_add n (d / 4 ^ n) (d % 4 ^ n), Nat.div_add_mod]

theorem div_mod_of {s x b : Nat} (h : x < s) : (x + b * s) / s = b ∧ (x + b * s) % s = x := by
  have hs : 0 < s := by omega
  rw [Nat.add_mul_div_right _ _ hs, Nat.add_mul_mod_self_right, Nat.div_eq_of_lt h, Nat.mod_eq_of_lt h]; simp

theorem cell_trn {n g x y : Nat} (hx : x < 2 ^ n) (hy : y < 2 ^ n) (hg : g < 4) : hcell (n + 1) (trn (2 ^ n) g (x, y)).1 (trn (2 ^ n) g (x, y)).2 = 4 ^ n * g + hcell n x y := by
  have a0 := div_mod_of (b := 0) hx
  have b0 := div_mod_of (b := 0) hy
  have a1 := div_mod_of (b := 1) hx
  have b1 := div_mod_of (b := 1) hy
  have c0 := div_mod_of (s := 2 ^ n) (x := 2 ^ n - 1 - x) (b := 0) (by omega)
  have c1 := div_mod_of (s := 2 ^ n) (x := 2 ^ n - 1 - y) (b := 1) (by omega)
  simp only [Nat.zero_mul, Nat.add_zero, Nat.one_mul] at a0 b0 a1 b1 c0 c1
  have g4 : g = 0 ∨ g = 1 ∨ g = 2 ∨ g = 3 := by omega
  have e1 : 2 ^ n - 1 - (2 ^ n - 1 - x) = x := by omega
  have e2 : 2 ^ n - 1 - (2 ^ n - 1 - y) = y := by omega
  rcases g4 with rfl | rfl | rfl | rfl
  · simp [trn, hcell, a0, b0, dig]
  · simp [trn, hcell, a0, b1, dig]
  · simp [trn, hcell, a1, b1, dig]
  · simp [trn, hcell, c0, c1, dig, e1, e2]

theorem cell_dec : ∀ n d, hcell n (hdec n d).1 (hdec n d).2 = d % 4 ^ n
  | 0, d => by simp [hcell]; omega
  | n + 1, d => by
    have h := hdec_lt n d
    rw [hdec]
    have := cell_trn (g := d / 4 ^ n % 4) h.1 h.2 (by omega)
    rw [this, cell_dec n d, Nat.pow_succ, Nat.mod_mul, Nat.add_comm]

/-- which quarter, and the place in it -/
theorem dec_cell : ∀ n x y, x < 2 ^ n → y < 2 ^ n → hdec n (hcell n x y) = (x, y)
  | 0, x, y, hx, hy => by simp at hx hy; subst hx hy; rfl
  | n + 1, x, y, hx, hy => by
    have key : ∃ g u v, g < 4 ∧ u < 2 ^ n ∧ v < 2 ^ n ∧ (x, y) = trn (2 ^ n) g (u, v) := by
      rw [Nat.pow_succ] at hx hy
      by_cases h1 : x < 2 ^ n <;> by_cases h2 : y < 2 ^ n
      · exact ⟨0, y, x, by omega, h2, h1, by simp [trn]⟩
      · exact ⟨1, x, y - 2 ^ n, by omega, h1, by omega, by simp [trn]; omega⟩
      · exact ⟨3, 2 ^ n - 1 - y, 2 ^ n - 1 - (x - 2 ^ n), by omega, by omega, by omega, by simp [trn]; omega⟩
      · exact ⟨2, x - 2 ^ n, y - 2 ^ n, by omega, by omega, by omega, by simp [trn]; omega⟩
    obtain ⟨g, u, v, hg, hu, hv, e⟩ := key
    have e1 : x = (trn (2 ^ n) g (u, v)).1 := by rw [← e]
    have e2 : y = (trn (2 ^ n) g (u, v)).2 := by rw [← e]
    have hc := cell_trn hu hv hg
    rw [← e1, ← e2] at hc
    have hl := hcell_lt n u v
    rw [hc, hdec, hdec_add, dec_cell n u v hu hv, Nat.mul_add_div (four_pos n), Nat.div_eq_of_lt hl]
    rw [e]; congr 1; omega

theorem cell_inj {n x y u v : Nat} (hx : x < 2 ^ n) (hy : y < 2 ^ n) (hu : u < 2 ^ n) (hv : v < 2 ^ n) (h : hcell n x y = hcell n u v) : x = u ∧ y = v := by
  have a := dec_cell n x y hx hy
  rw [h, dec_cell n u v hu hv] at a
  exact ⟨(congrArg Prod.fst a).symm, (congrArg Prod.snd a).symm⟩

def near (p q : Nat × Nat) : Prop := (p.1 = q.1 ∧ (p.2 = q.2 + 1 ∨ q.2 = p.2 + 1)) ∨ (p.2 = q.2 ∧ (p.1 = q.1 + 1 ∨ q.1 = p.1 + 1))

theorem dec_zero : ∀ n, hdec n 0 = (0, 0)
  | 0 => rfl
  | n + 1 => by rw [hdec, dec_zero n]; simp [trn]

theorem dec_last : ∀ n, hdec n (4 ^ n - 1) = (2 ^ n - 1, 0)
  | 0 => rfl
  | n + 1 => by
    have h4 := four_pos n
    have h2 := two_pos n
    have e : 4 ^ (n + 1) - 1 = 4 ^ n * 3 + (4 ^ n - 1) := by rw [Nat.pow_succ]; omega
    rw [hdec, e, hdec_add, dec_last n, Nat.mul_add_div h4, Nat.div_eq_of_lt (by omega)]
    simp [trn]; rw [Nat.pow_succ]; omega

theorem near_trn {s g : Nat} {p q : Nat × Nat} (h1 : p.1 < s) (h2 : p.2 < s) (h3 : q.1 < s) (h4 : q.2 < s) (h : near p q) : near (trn s g p) (trn s g q) := by
  unfold near at *; unfold trn
  split
  · simp; omega
  · split
    · simp; omega
    · split
      · simp; omega
      · simp; omega

theorem dec_near : ∀ n d, d + 1 < 4 ^ n → near (hdec n d) (hdec n (d + 1))
  | 0, d, h => by simp at h
  | n + 1, d, h => by
    have h4 := four_pos n
    have h2 := two_pos n
    have hm := Nat.mod_lt d h4
    have hdm := Nat.div_add_mod d (4 ^ n)
    generalize ha : d / 4 ^ n = a at *
    generalize hb : d % 4 ^ n = b at *
    subst hdm
    have ha3 : a ≤ 3 := by
      rw [Nat.pow_succ] at h
      have : 4 ^ n * a < 4 ^ n * 4 := by omega
      have := Nat.lt_of_mul_lt_mul_left this
      omega
    by_cases hlt : b + 1 < 4 ^ n
    · have ih := dec_near n b hlt
      rw [hdec, hdec, Nat.add_assoc, hdec_add, hdec_add, Nat.mul_add_div h4, Nat.mul_add_div h4, Nat.div_eq_of_lt hlt, Nat.div_eq_of_lt (by omega)]
      exact near_trn (hdec_lt _ _).1 (hdec_lt _ _).2 (hdec_lt _ _).1 (hdec_lt _ _).2 ih
    · have hbe : b = 4 ^ n - 1 := by omega
      have e : 4 ^ n * a + b + 1 = 4 ^ n * (a + 1) + 0 := by rw [Nat.mul_add]; omega
      have ha2 : a ≤ 2 := by
        rw [Nat.pow_succ] at h
        rcases Nat.lt_or_ge a 3 with h' | h'
        · omega
        · have : a = 3 := by omega
          subst this; omega
      have hb' : b / 4 ^ n = 0 := Nat.div_eq_of_lt (by omega)
      rw [hdec, hdec, e, hdec_add, hdec_add, Nat.mul_add_div h4, Nat.mul_add_div h4, hb', Nat.zero_div, dec_zero, hbe, dec_last]
      have a3 : a = 0 ∨ a = 1 ∨ a = 2 := by omega
      rcases a3 with rfl | rfl | rfl <;> simp [trn, near] <;> omega

/-- one bit less: the index's first digits -/
theorem cell_half : ∀ n x y, hcell (n + 1) x y / 4 = hcell n (x / 2) (y / 2)
  | 0, x, y => by
    have := hcell_lt 1 x y
    simp [hcell]; have := dig_lt (x % 2) (y % 2); simpa using this
  | n + 1, x, y => by
    have h2 := two_pos n
    have hp : 2 ^ (n + 1) = 2 * 2 ^ n := by rw [Nat.pow_succ]; omega
    have ex : x / 2 ^ (n + 1) = x / 2 / 2 ^ n := by rw [hp, Nat.div_div_eq_div_mul]
    have ey : y / 2 ^ (n + 1) = y / 2 / 2 ^ n := by rw [hp, Nat.div_div_eq_div_mul]
    have mx : x % 2 ^ (n + 1) / 2 = x / 2 % 2 ^ n := by rw [hp, Nat.mod_mul_right_div_self]
    have my : y % 2 ^ (n + 1) / 2 = y / 2 % 2 ^ n := by rw [hp, Nat.mod_mul_right_div_self]
    have lx := Nat.mod_lt x (show 0 < 2 ^ (n + 1) by omega)
    have ly := Nat.mod_lt y (show 0 < 2 ^ (n + 1) by omega)
    have sx : (2 ^ (n + 1) - 1 - x % 2 ^ (n + 1)) / 2 = 2 ^ n - 1 - x / 2 % 2 ^ n := by rw [← mx]; omega
    have sy : (2 ^ (n + 1) - 1 - y % 2 ^ (n + 1)) / 2 = 2 ^ n - 1 - y / 2 % 2 ^ n := by rw [← my]; omega
    rw [hcell_succ (n + 1) x y, hcell_succ n (x / 2) (y / 2), ex, ey]
    have q (a b : Nat) : (4 ^ (n + 1) * a + b) / 4 = 4 ^ n * a + b / 4 := by
      rw [Nat.pow_succ, Nat.mul_comm (4 ^ n) 4, Nat.mul_assoc, Nat.mul_add_div (by decide)]
    rw [q]
    congr 1
    split
    · rw [cell_half, mx, my]
    · split
      · rw [cell_half, sx, sy]
      · rw [cell_half, mx, my]

end Go.Proofs.Ytakibdcemgahaaa.Hil
