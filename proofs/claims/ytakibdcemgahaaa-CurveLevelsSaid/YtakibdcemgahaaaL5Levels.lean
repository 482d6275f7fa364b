/- CurveLevels: for every cell and level the law's function answers true. -/
import Derived.Test.YtakibdcemgahaaaL5Cell
import Derived.KernelRfl
namespace Go.Proofs.Ytakibdcemgahaaa.VM
set_option linter.unusedSimpArgs false
set_option linter.unusedVariables false
set_option linter.defProp false
open Go.Proofs.Ytakibdcemgahaaa.Hil

/-- which of four were met -/
def seenL (d : Nat → Nat) (i : Nat) : List AV := (List.range 4).map fun j => .bool (decide (∃ m, m < i ∧ d m = j))
theorem seenL_len (d : Nat → Nat) (i : Nat) : (seenL d i).length = 4 := by simp [seenL]
theorem seenL_get (d : Nat → Nat) (i j : Nat) (hj : j < (seenL d i).length) : (seenL d i)[j] = .bool (decide (∃ m, m < i ∧ d m = j)) := by
  simp [seenL]
theorem seenL_set (d : Nat → Nat) (i : Nat) : (seenL d i).set (d i) (.bool true) = seenL d (i + 1) := by
  apply List.ext_getElem (by simp [seenL])
  intro j h1 h2
  rw [List.getElem_set]
  by_cases e : d i = j
  · rw [if_pos e, seenL_get]
    congr 1
    exact (decide_eq_true (show ∃ m, m < i + 1 ∧ d m = j from ⟨i, by omega, e⟩)).symm
  · rw [if_neg e, seenL_get, seenL_get]
    congr 2
    rw [eq_iff_iff]
    constructor
    · rintro ⟨m, a, b⟩; exact ⟨m, by omega, b⟩
    · rintro ⟨m, a, b⟩
      refine ⟨m, ?_, b⟩
      rcases Nat.lt_or_ge m i with h | h
      · exact h
      · have : m = i := by omega
        subst this; exact absurd b e

/-- the four cells of one -/
def four (k X Y i : Nat) : Nat := hcell k (X / 2 * 2 + i % 2) (Y / 2 * 2 + i / 2)
theorem four_half (k X Y i : Nat) (hi : i < 4) : four (k + 1) X Y i / 4 = hcell k (X / 2) (Y / 2) := by
  unfold four
  rw [cell_half]
  have a : (X / 2 * 2 + i % 2) / 2 = X / 2 := by omega
  have b : (Y / 2 * 2 + i / 2) / 2 = Y / 2 := by omega
  rw [a, b]
theorem four_inj (k X Y i j : Nat) (hX : X < 2 ^ (k + 1)) (hY : Y < 2 ^ (k + 1)) (hi : i < 4) (hj : j < 4) (h : four (k + 1) X Y i % 4 = four (k + 1) X Y j % 4) : i = j := by
  have e : four (k + 1) X Y i = four (k + 1) X Y j := by
    have a := four_half k X Y i hi
    have b := four_half k X Y j hj
    omega
  have hp : 2 ^ (k + 1) = 2 * 2 ^ k := by rw [Nat.pow_succ]; omega
  have := cell_inj (n := k + 1) (x := X / 2 * 2 + i % 2) (y := Y / 2 * 2 + i / 2) (u := X / 2 * 2 + j % 2) (v := Y / 2 * 2 + j / 2) (by omega) (by omega) (by omega) (by omega) e
  omega

theorem andNot_one {x : Nat} (hx : x < 9223372036854775808) : bitsOf .andNot .i64 (x : Int) 1 = ((x / 2 * 2 : Nat) : Int) := by
  unfold bitsOf
  simp only
  rw [mod64 (by omega)]
  have e1 : ((1 : Int) % 2 ^ IntKind.bits .i64).toNat = 1 := rfl
  have eb : IntKind.bits .i64 = 64 := rfl
  rw [e1, eb]
  have : Nat.land x (2 ^ 64 - 1 - 1) = x / 2 * 2 := by
    have e : (2 ^ 64 - 1 - 1 : Nat) = (2 ^ 63 - 1) * 2 := rfl
    have h1 : x &&& (2 ^ 63 - 1) * 2 = x / 2 * 2 := by
      apply Nat.eq_of_testBit_eq
      intro i
      rw [Nat.testBit_and]
      cases i with
      | zero => simp [Nat.testBit_zero]
      | succ i =>
        rw [Nat.testBit_succ, Nat.testBit_succ, Nat.testBit_succ, Nat.mul_div_cancel _ (by decide), Nat.mul_div_cancel _ (by decide), Nat.testBit_two_pow_sub_one]
        by_cases hi : i < 63
        · simp [hi]
        · have : (x / 2).testBit i = false := Nat.testBit_lt_two_pow (Nat.lt_of_lt_of_le (by omega) (Nat.pow_le_pow_right (by decide) (show 63 ≤ i by omega)))
          simp [this]
    rw [e]
    exact h1
  rw [this]
  exact w64 (by omega) (by omega)

section
variable {P : Program}
theorem awake_pu (g : Pg P tab) : Pu P 15 [] (fun v => v = .bool true) := g.run (n := 300) (by kernel_rfl)

theorem levels_loop (g : Pg P tab) (k X Y : Nat) (hk : k + 1 ≤ 16) (hX : X < 2 ^ (k + 1)) (hY : Y < 2 ^ (k + 1)) (e : TypeId) (b : Nat) (n : Nat) : ∀ (i : Nat) (s : T AV) (h : Heap) (ver : Nat) (c : List Fr) (Q : Ex → T AV → Heap → Prop), i + n = 4 →
    sg s 7 = .int .i64 ((k + 1 : Nat) : Int) → sg s 8 = .int .i64 X → sg s 9 = .int .i64 Y → sg s 12 = .int .i64 (hcell k (X / 2) (Y / 2) : Int) → sg s 14 = .ptr b 0 → sg s 15 = .int .i64 i →
    h.get b = some (.cells (seenL (fun m => four (k + 1) X Y m % 4) i) e ver) → (∀ s' h', Un P c Q (.exit 0) s' h') → Lp P b5_0 s h (Un P c Q) := by
  have hp : 2 ^ (k + 1) ≤ 2 ^ 16 := Nat.pow_le_pow_right (by decide) hk
  induction n with
  | zero =>
    intro i s h ver c Q hi h7 h8 h9 h12 h14 h15 hg hK
    obtain rfl : i = 4 := by omega
    refine g.lpe b5_0.eq_1 ?_
    have c1 : ¬ (((4 : Nat) : Int) < 4) := by omega
    simp only [h15, c1, R0, R1, R2, R3, R4, R5, R6, R7, bxC, fill, bsC, lnV, AV.cells, un, most, callsOf, List.contains_nil, List.contains_cons, beq_iff_eq, List.getElem?_cons_zero, List.getElem?_cons_succ, seval, Int.reducePow, ↓reduceIte, Nat.reduceEqDiff, reduceCtorEq]
    exact hK _ _
  | succ n ih =>
    intro i s h ver c Q hi h7 h8 h9 h12 h14 h15 hg hK
    refine g.lpe b5_0.eq_1 ?_
    have c1 : (i : Int) < 4 := by omega
    have a1 := andNot_one (x := X) (by omega)
    have a2 := andNot_one (x := Y) (by omega)
    have a3 := and_one (x := i) (by omega)
    have s1 : (i : Int) / 2 = ((i / 2 : Nat) : Int) := by omega
    have w1 : IntKind.i64.wrap (((X / 2 * 2 : Nat) : Int) + ((i % 2 : Nat) : Int)) = ((X / 2 * 2 + i % 2 : Nat) : Int) := by
      rw [w64 (by omega) (by omega)]; push_cast; rfl
    have w2 : IntKind.i64.wrap (((Y / 2 * 2 : Nat) : Int) + ((i / 2 : Nat) : Int)) = ((Y / 2 * 2 + i / 2 : Nat) : Int) := by
      rw [w64 (by omega) (by omega)]; push_cast; rfl
    simp only [h15, h8, h9, h7, c1, a1, a2, a3, s1, w1, w2, R0, R1, R2, R3, R4, R5, R6, R7, bxC, fill, bsC, lnV, AV.cells, un, most, callsOf, List.contains_nil, List.contains_cons, beq_iff_eq, List.getElem?_cons_zero, List.getElem?_cons_succ, seval, Int.reducePow, ↓reduceIte, Nat.reduceEqDiff, reduceCtorEq]
    have l1 : X / 2 * 2 + i % 2 < 2 ^ (k + 1) := by rw [Nat.pow_succ] at *; omega
    have l2 : Y / 2 * 2 + i / 2 < 2 ^ (k + 1) := by rw [Nat.pow_succ] at *; omega
    refine (cell_pu g (by omega) hk l1 l2).go rfl ?_
    rintro v rfl
    simp only [R0, R1, R2, R3, R4, R5, R6, R7, bxC, fill, bsC, lnV, AV.cells, un, most, callsOf, List.contains_nil, List.contains_cons, beq_iff_eq, List.getElem?_cons_zero, List.getElem?_cons_succ, seval, Int.reducePow, ↓reduceIte, Nat.reduceEqDiff, reduceCtorEq]
    refine (num_pu g 0).go rfl ?_
    rintro v rfl
    have hf : hcell (k + 1) (X / 2 * 2 + i % 2) (Y / 2 * 2 + i / 2) = four (k + 1) X Y i := rfl
    have hlt := hcell_lt (k + 1) (X / 2 * 2 + i % 2) (Y / 2 * 2 + i / 2)
    have hp4 : 4 ^ (k + 1) ≤ 4 ^ 16 := Nat.pow_le_pow_right (by decide) hk
    have hh := four_half k X Y i (by omega)
    rw [hf] at hlt ⊢
    have s2 : ((four (k + 1) X Y i : Nat) : Int) / 4 = ((hcell k (X / 2) (Y / 2) : Nat) : Int) := by omega
    have a4 : bitsOf .and .i64 ((four (k + 1) X Y i : Nat) : Int) 3 = ((four (k + 1) X Y i % 4 : Nat) : Int) := by
      have := and_low (x := four (k + 1) X Y i) (n := 2) (by omega) (by decide)
      simpa using this
    have c3 : ((four (k + 1) X Y i % 4 : Nat) : Int) < 4 := by omega
    have c4 : (0 : Int) ≤ ((four (k + 1) X Y i % 4 : Nat) : Int) := by omega
    generalize hj : four (k + 1) X Y i % 4 = j at *
    have hj4 : j < (seenL (fun m => four (k + 1) X Y m % 4) i).length := by rw [seenL_len]; omega
    have hno : (seenL (fun m => four (k + 1) X Y m % 4) i)[j] = .bool false := by
      rw [seenL_get]
      congr 1
      refine decide_eq_false ?_
      rintro ⟨m, hm, e⟩
      have := four_inj k X Y m i hX hY (by omega) (by omega) (e.trans hj.symm)
      omega
    have hl := ldB_at (h := h) (e := e) (ver := ver) hj4
    rw [hno] at hl
    have hst := wr_at hg hj4 (x := .bool true) rfl
    rw [← hj, seenL_set, hj] at hst
    simp only [h12, h14, s2, a4, c3, c4, hg, hl, hst, R0, R1, R2, R3, R4, R5, R6, R7, bxC, fill, bsC, lnV, AV.cells, un, most, callsOf, List.contains_nil, List.contains_cons, beq_iff_eq, List.getElem?_cons_zero, List.getElem?_cons_succ, seval, Int.reducePow, ↓reduceIte, Nat.reduceEqDiff, reduceCtorEq]
    have w3 : IntKind.i64.wrap ((i : Int) + 1) = ((i + 1 : Nat) : Int) := by rw [w64 (by omega) (by omega)]; push_cast; rfl
    simp only [h15, w3, R0, R1, R2, R3, R4, R5, R6, R7, bxC, fill, bsC, lnV, AV.cells, un, most, callsOf, List.contains_nil, List.contains_cons, beq_iff_eq, List.getElem?_cons_zero, List.getElem?_cons_succ, seval, Int.reducePow, ↓reduceIte, Nat.reduceEqDiff, reduceCtorEq]
    refine ih (i + 1) _ _ (ver + 1) c Q (by omega) ?_ ?_ ?_ ?_ ?_ ?_ ?_ hK
    · simp only [h7, sg_set, Nat.reduceEqDiff, ↓reduceIte]
    · simp only [h8, sg_set, Nat.reduceEqDiff, ↓reduceIte]
    · simp only [h9, sg_set, Nat.reduceEqDiff, ↓reduceIte]
    · simp only [h12, sg_set, Nat.reduceEqDiff, ↓reduceIte]
    · simp only [h14, sg_set, Nat.reduceEqDiff, ↓reduceIte]
    · simp only [sg_set, Nat.reduceEqDiff, ↓reduceIte]
    · rw [Heap.get_put, if_pos rfl]

theorem levels_pu (g : Pg P tab) (x y level : Int) : Pu P 5 [.int .i64 x, .int .i64 y, .int .i64 level] (fun v => v = .bool true) := by
  refine g.pu (vf := v5) rfl rfl ?_
  simp only [v5, R0, R1, R2, R3, R4, R5, R6, R7, bxC, fill, bsC, lnV, AV.cells, un, most, callsOf, List.contains_nil, List.contains_cons, beq_iff_eq, List.getElem?_cons_zero, List.getElem?_cons_succ, seval, Int.reducePow, ↓reduceIte, Nat.reduceEqDiff, reduceCtorEq]
  refine (awake_pu g).go rfl ?_
  rintro v rfl
  obtain ⟨k, hk1, hk2, hk⟩ : ∃ k : Nat, 1 ≤ k ∧ k + 1 ≤ 16 ∧ IntKind.i64.wrap (2 + IntKind.i64.wrap ((IntKind.u64.wrap level).tmod 15)) = ((k + 1 : Nat) : Int) := by
    have e1 : IntKind.u64.wrap level = level % 18446744073709551616 := IntKind.wrap_u64 level
    have h0 : 0 ≤ level % 18446744073709551616 := Int.emod_nonneg _ (by decide)
    have e2 : (level % 18446744073709551616).tmod 15 = level % 18446744073709551616 % 15 := Int.tmod_eq_emod_of_nonneg h0
    refine ⟨(level % 18446744073709551616 % 15).toNat + 1, by omega, by omega, ?_⟩
    rw [e1, e2, w64 (n := level % 18446744073709551616 % 15) (by omega) (by omega), w64 (by omega) (by omega)]
    omega
  have hp : 2 ^ (k + 1) ≤ 2 ^ 16 := Nat.pow_le_pow_right (by decide) hk2
  have hp0 : 0 < 2 ^ (k + 1) := two_pos _
  have c0 : (0 : Int) ≤ ((k + 1 : Nat) : Int) := by omega
  have s3 : IntKind.i64.wrap (1 * 2 ^ min (k + 1) 64) = ((2 ^ (k + 1) : Nat) : Int) := shl_nat (by omega)
  have w2 : IntKind.i64.wrap (((2 ^ (k + 1) : Nat) : Int) - 1) = ((2 ^ (k + 1) : Nat) : Int) - 1 := by
    generalize 2 ^ (k + 1) = m at *
    exact w64 (by omega) (by omega)
  have a1 := and_any x (n := k + 1) (by omega)
  have a2 := and_any y (n := k + 1) (by omega)
  have hX := Nat.mod_lt (x % 18446744073709551616).toNat hp0
  have hY := Nat.mod_lt (y % 18446744073709551616).toNat hp0
  generalize (x % 18446744073709551616).toNat % 2 ^ (k + 1) = X at *
  generalize (y % 18446744073709551616).toNat % 2 ^ (k + 1) = Y at *
  simp only [hk, s3, w2, a1, a2, c0, R0, R1, R2, R3, R4, R5, R6, R7, bxC, fill, bsC, lnV, AV.cells, un, most, callsOf, List.contains_nil, List.contains_cons, beq_iff_eq, List.getElem?_cons_zero, List.getElem?_cons_succ, seval, Int.reducePow, ↓reduceIte, Nat.reduceEqDiff, reduceCtorEq]
  refine (cell_pu g (by omega) hk2 hX hY).go rfl ?_
  rintro v rfl
  have s1 : (X : Int) / 2 = ((X / 2 : Nat) : Int) := by omega
  have s2 : (Y : Int) / 2 = ((Y / 2 : Nat) : Int) := by omega
  have w3 : IntKind.i64.wrap (((k + 1 : Nat) : Int) - 1) = (k : Int) := by rw [w64 (by omega) (by omega)]; omega
  have hp2 : 2 ^ (k + 1) = 2 * 2 ^ k := by rw [Nat.pow_succ]; omega
  simp only [s1, s2, w3, R0, R1, R2, R3, R4, R5, R6, R7, bxC, fill, bsC, lnV, AV.cells, un, most, callsOf, List.contains_nil, List.contains_cons, beq_iff_eq, List.getElem?_cons_zero, List.getElem?_cons_succ, seval, Int.reducePow, ↓reduceIte, Nat.reduceEqDiff, reduceCtorEq]
  refine (cell_pu g hk1 (by omega) (show X / 2 < 2 ^ k by omega) (show Y / 2 < 2 ^ k by omega)).go rfl ?_
  rintro v rfl
  simp only [R0, R1, R2, R3, R4, R5, R6, R7, bxC, fill, bsC, lnV, AV.cells, un, most, callsOf, List.contains_nil, List.contains_cons, beq_iff_eq, List.getElem?_cons_zero, List.getElem?_cons_succ, seval, Int.reducePow, ↓reduceIte, Nat.reduceEqDiff, reduceCtorEq]
  refine (num_pu g 0).go rfl ?_
  rintro v rfl
  simp only [R0, R1, R2, R3, R4, R5, R6, R7, bxC, fill, bsC, lnV, AV.cells, un, most, callsOf, List.contains_nil, List.contains_cons, beq_iff_eq, List.getElem?_cons_zero, List.getElem?_cons_succ, seval, Int.reducePow, ↓reduceIte, Nat.reduceEqDiff, reduceCtorEq]
  refine (num_pu g 0).go rfl ?_
  rintro v rfl
  have hh := cell_half k X Y
  have s4 : ((hcell (k + 1) X Y : Nat) : Int) / 4 = ((hcell k (X / 2) (Y / 2) : Nat) : Int) := by omega
  simp only [s4, R0, R1, R2, R3, R4, R5, R6, R7, bxC, fill, bsC, lnV, AV.cells, un, most, callsOf, List.contains_nil, List.contains_cons, beq_iff_eq, List.getElem?_cons_zero, List.getElem?_cons_succ, seval, Int.reducePow, ↓reduceIte, Nat.reduceEqDiff, reduceCtorEq]
  refine levels_loop g k X Y hk2 hX hY 40 0 4 0 _ _ 0 _ _ rfl ?_ ?_ ?_ ?_ ?_ ?_ ?_ ?_
  · simp only [sg_set, Nat.reduceEqDiff, ↓reduceIte]
  · simp only [sg_set, Nat.reduceEqDiff, ↓reduceIte]
  · simp only [sg_set, Nat.reduceEqDiff, ↓reduceIte]
  · simp only [sg_set, Nat.reduceEqDiff, ↓reduceIte]
  · simp only [sg_set, Nat.reduceEqDiff, ↓reduceIte]
  · simp only [sg_set, Nat.reduceEqDiff, ↓reduceIte]
    rfl
  · rw [Heap.get_mk, if_pos rfl]
    simp [seenL, List.range_succ]
  · intro s' h'
    simp only [R0, R1, R2, R3, R4, R5, R6, R7, bxC, fill, bsC, lnV, AV.cells, un, most, callsOf, List.contains_nil, List.contains_cons, beq_iff_eq, List.getElem?_cons_zero, List.getElem?_cons_succ, seval, Int.reducePow, ↓reduceIte, Nat.reduceEqDiff, reduceCtorEq]

end
end Go.Proofs.Ytakibdcemgahaaa.VM
