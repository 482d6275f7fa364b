/- CurveAll: for every level the law's function answers true. -/
import Derived.Test.YtakibdcemgahaaaL5Cell
import Derived.KernelRfl
namespace Go.Proofs.Ytakibdcemgahaaa.VM
set_option linter.unusedSimpArgs false
set_option linter.unusedVariables false
set_option linter.defProp false
set_option maxHeartbeats 1000000
open Go.Proofs.Ytakibdcemgahaaa.Hil
attribute [local irreducible] Af Nx EvO Ev Un Gd Cd EvR EvQ EvC Nc Gc Lp EvM NxM AfM GdM EvMR EvMQ EvMD EvMC Nm Gm

/-- the cells of a level that were come through: place by place -/
def inC (k c d : Nat) : Prop := d < 4 ^ k ∧ (hdec k d).1 * 2 ^ k + (hdec k d).2 < c
instance (k c d : Nat) : Decidable (inC k c d) := by unfold inC; infer_instance
def rowX (k c : Nat) : List AV := (List.range 256).map fun d => .int .i64 (if inC k c d then (((hdec k d).1 : Nat) : Int) else 0)
def rowY (k c : Nat) : List AV := (List.range 256).map fun d => .int .i64 (if inC k c d then (((hdec k d).2 : Nat) : Int) else 0)
def rowS (k c : Nat) : List AV := (List.range 256).map fun d => .bool (decide (inC k c d))
theorem row_len {f : Nat → AV} : ((List.range 256).map f).length = 256 := by simp
theorem row_at {f : Nat → AV} {d : Nat} (h : d < ((List.range 256).map f).length) : ((List.range 256).map f)[d] = f d := by simp
theorem row_set {f g : Nat → AV} {d : Nat} (h : ∀ j, j < 256 → g j = if j = d then g d else f j) : ((List.range 256).map f).set d (g d) = (List.range 256).map g := by
  apply List.ext_getElem (by simp)
  intro j h1 h2
  have hj : j < 256 := by simpa using h2
  rw [List.getElem_set]
  simp only [List.getElem_map, List.getElem_range]
  rw [h j hj]
  by_cases e : d = j
  · rw [if_pos e, if_pos e.symm]
  · rw [if_neg e, if_neg (fun e' => e e'.symm)]
theorem four_le {k : Nat} (hk : k ≤ 4) : 4 ^ k ≤ 256 := Nat.le_trans (Nat.pow_le_pow_right (by decide) hk) (by decide)
theorem two_le {k : Nat} (hk : k ≤ 4) : 2 ^ k ≤ 16 := Nat.le_trans (Nat.pow_le_pow_right (by decide) hk) (by decide)
theorem sq2 (k : Nat) : 2 ^ k * 2 ^ k = 4 ^ k := by rw [← Nat.mul_pow]
/-- one more place -/
theorem inC_next {k x y d : Nat} (hx : x < 2 ^ k) (hy : y < 2 ^ k) : inC k (x * 2 ^ k + (y + 1)) d ↔ d = hcell k x y ∨ inC k (x * 2 ^ k + y) d := by
  have hdl := hdec_lt k d
  constructor
  · rintro ⟨h1, h2⟩
    by_cases e : (hdec k d).1 * 2 ^ k + (hdec k d).2 < x * 2 ^ k + y
    · exact .inr ⟨h1, e⟩
    · left
      have e2 : (hdec k d).1 * 2 ^ k + (hdec k d).2 = x * 2 ^ k + y := by omega
      have a := div_mod_of (x := (hdec k d).2) (b := (hdec k d).1) hdl.2
      have b := div_mod_of (x := y) (b := x) hy
      rw [Nat.add_comm, e2, Nat.add_comm] at a
      have e3 : (hdec k d).1 = x := by rw [← a.1, b.1]
      have e4 : (hdec k d).2 = y := by rw [← a.2, b.2]
      have := cell_dec k d
      rw [e3, e4, Nat.mod_eq_of_lt h1] at this
      exact this.symm
  · rintro (rfl | ⟨h1, h2⟩)
    · refine ⟨hcell_lt _ _ _, ?_⟩
      rw [dec_cell k x y hx hy]
      simp only; omega
    · exact ⟨h1, by omega⟩
theorem inC_not {k x y : Nat} (hx : x < 2 ^ k) (hy : y < 2 ^ k) : ¬ inC k (x * 2 ^ k + y) (hcell k x y) := by
  rintro ⟨_, h⟩
  rw [dec_cell k x y hx hy] at h
  simp only at h; omega
theorem inC_all {k d : Nat} (hd : d < 4 ^ k) : inC k (2 ^ k * 2 ^ k) d := by
  refine ⟨hd, ?_⟩
  obtain ⟨h1, h2⟩ := hdec_lt k d
  have : ((hdec k d).1 + 1) * 2 ^ k ≤ 2 ^ k * 2 ^ k := Nat.mul_le_mul_right _ h1
  rw [Nat.add_mul, Nat.one_mul] at this
  omega
/-- what memory holds -/
structure AllM (k c : Nat) (h : Heap) : Prop where
  xs : ∃ v, h.get 0 = some (.cells (rowX k c) 42 v)
  ys : ∃ v, h.get 1 = some (.cells (rowY k c) 42 v)
  seen : ∃ v, h.get 2 = some (.cells (rowS k c) 43 v)

section
variable {P : Program}
theorem awake_pu (g : Pg P tab) : Pu P 15 [] (fun v => v = .bool true) := g.run (n := 300) (by kernel_rfl)
theorem all_in (g : Pg P tab) {K x : Nat} (hk1 : 1 ≤ K) (hk : K ≤ 4) (hx : x < 2 ^ K) (n : Nat) : ∀ (y : Nat) (s : T AV) (h : Heap) (k : List Fr) (Q : Ex → T AV → Heap → Prop), y + n = 2 ^ K → AllM K (x * 2 ^ K + y) h →
    sg s 3 = .int .i64 K → sg s 4 = .int .i64 (2 ^ K : Nat) → sg s 5 = .ptr 0 0 → sg s 6 = .ptr 1 0 → sg s 7 = .ptr 2 0 → sg s 8 = .int .i64 x → sg s 9 = .int .i64 y →
    (∀ s' h', AllM K (x * 2 ^ K + 2 ^ K) h' → sg s' 3 = .int .i64 K → sg s' 4 = .int .i64 (2 ^ K : Nat) → sg s' 5 = .ptr 0 0 → sg s' 6 = .ptr 1 0 → sg s' 7 = .ptr 2 0 → sg s' 8 = .int .i64 x → Un P k Q (.exit 2) s' h') → Lp P b7_0 s h (Un P k Q) := by
  have hM := two_le hk
  have h4 := four_le hk
  have hsq := sq2 K
  have hsqI : ((2 ^ K : Nat) : Int) * ((2 ^ K : Nat) : Int) = ((4 ^ K : Nat) : Int) := by rw [← hsq]; push_cast; rfl
  induction n with
  | zero =>
    intro y s h k Q hy m h3 h4' h5 h6 h7 h8 h9 hK
    refine g.lpe b7_0.eq_1 ?_
    generalize hM' : 2 ^ K = M at *
    have c1 : ¬ ((y : Int) < (M : Int)) := by omega
    simp only [h3, h4', h5, h6, h7, h8, h9, c1, R0, R1, R2, R3, R4, R5, R6, R7, R8, R9, VOp.fresh, bxC, bsC, AV.cells, un, most, callsOf, List.contains_nil, List.contains_cons, beq_iff_eq, List.getElem?_cons_zero, List.getElem?_cons_succ, seval, Int.reducePow, ↓reduceIte, Nat.reduceEqDiff, reduceCtorEq, and_self]
    have : y = M := by omega
    subst this
    refine hK _ _ m ?_ ?_ ?_ ?_ ?_ ?_
    · simp only [h3, sg_set, Nat.reduceEqDiff, ↓reduceIte]
    · simp only [h4', sg_set, Nat.reduceEqDiff, ↓reduceIte]
    · simp only [h5, sg_set, Nat.reduceEqDiff, ↓reduceIte]
    · simp only [h6, sg_set, Nat.reduceEqDiff, ↓reduceIte]
    · simp only [h7, sg_set, Nat.reduceEqDiff, ↓reduceIte]
    · simp only [h8, sg_set, Nat.reduceEqDiff, ↓reduceIte]
  | succ n ih =>
    intro y s h k Q hy m h3 h4' h5 h6 h7 h8 h9 hK
    have hyM : y < 2 ^ K := by omega
    refine g.lpe b7_0.eq_1 ?_
    have c1 : (y : Int) < ((2 ^ K : Nat) : Int) := by omega
    obtain ⟨⟨v0, g0⟩, ⟨v1, g1⟩, ⟨v2, g2⟩⟩ := m
    generalize hM' : ((2 ^ K : Nat) : Int) = M at *
    simp only [h3, h4', h5, h6, h7, h8, h9, c1, R0, R1, R2, R3, R4, R5, R6, R7, R8, R9, VOp.fresh, bxC, bsC, AV.cells, un, most, callsOf, List.contains_nil, List.contains_cons, beq_iff_eq, List.getElem?_cons_zero, List.getElem?_cons_succ, seval, Int.reducePow, ↓reduceIte, Nat.reduceEqDiff, reduceCtorEq, and_self]
    refine (cell_pu g hk1 (by omega) hx hyM).go rfl ?_
    rintro v rfl
    have hd := hcell_lt K x y
    have hno := inC_not hx hyM
    have hstep : ∀ j, inC K (x * 2 ^ K + (y + 1)) j ↔ j = hcell K x y ∨ inC K (x * 2 ^ K + y) j := fun j => inC_next hx hyM
    have hdc := dec_cell K x y hx hyM
    have hin : inC K (x * 2 ^ K + (y + 1)) (hcell K x y) := (hstep _).2 (.inl rfl)
    generalize hcd : hcell K x y = d at *
    simp only [R0, R1, R2, R3, R4, R5, R6, R7, R8, R9, VOp.fresh, bxC, bsC, AV.cells, un, most, callsOf, List.contains_nil, List.contains_cons, beq_iff_eq, List.getElem?_cons_zero, List.getElem?_cons_succ, seval, Int.reducePow, ↓reduceIte, Nat.reduceEqDiff, reduceCtorEq, and_self]
    refine (num_pu g _).go rfl ?_
    rintro v rfl
    have c2 : ¬ ((d : Int) < 0) := by omega
    have w1 : IntKind.i64.wrap (M * M) = ((4 ^ K : Nat) : Int) := by rw [hsqI]; exact w64 (by omega) (by omega)
    have c3 : ¬ (((4 ^ K : Nat) : Int) ≤ (d : Int)) := by omega
    have c4 : (0 : Int) ≤ (d : Int) ∧ (d : Int) < ((256 : Nat) : Int) := by omega
    have w2 : IntKind.i64.wrap ((y : Int) + 1) = ((y + 1 : Nat) : Int) := by rw [w64 (by omega) (by omega)]; push_cast; rfl
    have ld2 : ldB false d 1 h (some (.cells (rowS K (x * 2 ^ K + y)) 43 v2)) = .val (.bool false) h := by
      rw [ldB_at (by rw [rowS, row_len]; omega)]
      congr 1
      simp only [rowS, row_at, hno, decide_false]
    have l0 : d < (rowX K (x * 2 ^ K + y)).length := by rw [rowX, row_len]; omega
    have l1 : d < (rowY K (x * 2 ^ K + y)).length := by rw [rowY, row_len]; omega
    have l2 : d < (rowS K (x * 2 ^ K + y)).length := by rw [rowS, row_len]; omega
    have s2 : ∀ H : Heap, H.get 2 = some (.cells (rowS K (x * 2 ^ K + y)) 43 v2) → writeAt H 2 d [.bool true] = some (H.put 2 (.cells (rowS K (x * 2 ^ K + (y + 1))) 43 (v2 + 1))) := by
      intro H hH
      rw [wr_at hH l2 rfl]
      congr 3
      rw [rowS, rowS, ← row_set (f := fun d => .bool (decide (inC K (x * 2 ^ K + y) d))) (g := fun d => .bool (decide (inC K (x * 2 ^ K + (y + 1)) d))) (d := d) (fun j _ => ?_)]
      · simp only [hin, decide_true]
      · by_cases e : j = d
        · rw [if_pos e, e]
        · rw [if_neg e]
          simp only [hstep, e, false_or]
    have s0 : ∀ H : Heap, H.get 0 = some (.cells (rowX K (x * 2 ^ K + y)) 42 v0) → writeAt H 0 d [.int .i64 x] = some (H.put 0 (.cells (rowX K (x * 2 ^ K + (y + 1))) 42 (v0 + 1))) := by
      intro H hH
      rw [wr_at hH l0 rfl]
      congr 3
      rw [rowX, rowX, ← row_set (f := fun d => .int .i64 (if inC K (x * 2 ^ K + y) d then (((hdec K d).1 : Nat) : Int) else 0)) (g := fun d => .int .i64 (if inC K (x * 2 ^ K + (y + 1)) d then (((hdec K d).1 : Nat) : Int) else 0)) (d := d) (fun j _ => ?_)]
      · simp only [hin, if_true, hdc]
      · by_cases e : j = d
        · rw [if_pos e, e]
        · rw [if_neg e]
          simp only [hstep, e, false_or]
    have s1 : ∀ H : Heap, H.get 1 = some (.cells (rowY K (x * 2 ^ K + y)) 42 v1) → writeAt H 1 d [.int .i64 y] = some (H.put 1 (.cells (rowY K (x * 2 ^ K + (y + 1))) 42 (v1 + 1))) := by
      intro H hH
      rw [wr_at hH l1 rfl]
      congr 3
      rw [rowY, rowY, ← row_set (f := fun d => .int .i64 (if inC K (x * 2 ^ K + y) d then (((hdec K d).2 : Nat) : Int) else 0)) (g := fun d => .int .i64 (if inC K (x * 2 ^ K + (y + 1)) d then (((hdec K d).2 : Nat) : Int) else 0)) (d := d) (fun j _ => ?_)]
      · simp only [hin, if_true, hdc]
      · by_cases e : j = d
        · rw [if_pos e, e]
        · rw [if_neg e]
          simp only [hstep, e, false_or]
    have t2 := s2 h g2
    have t0 := s0 (h.put 2 (.cells (rowS K (x * 2 ^ K + (y + 1))) 43 (v2 + 1))) (by rw [Heap.get_put, if_neg (by decide)]; exact g0)
    have t1 := s1 ((h.put 2 (.cells (rowS K (x * 2 ^ K + (y + 1))) 43 (v2 + 1))).put 0 (.cells (rowX K (x * 2 ^ K + (y + 1))) 42 (v0 + 1))) (by rw [Heap.get_put, if_neg (by decide), Heap.get_put, if_neg (by decide)]; exact g1)
    have c5 : (d : Int) < 256 := by omega
    simp only [c2, c3, c4, c5, w1, h5, h6, h7, h4', g2, ld2, h8, h9, t2, t0, t1, w2, R0, R1, R2, R3, R4, R5, R6, R7, R8, R9, VOp.fresh, bxC, bsC, AV.cells, un, most, callsOf, List.contains_nil, List.contains_cons, beq_iff_eq, List.getElem?_cons_zero, List.getElem?_cons_succ, seval, Int.reducePow, ↓reduceIte, Nat.reduceEqDiff, reduceCtorEq, and_self]
    refine ih (y + 1) _ _ k Q (by omega) ⟨⟨v0 + 1, ?_⟩, ⟨v1 + 1, ?_⟩, ⟨v2 + 1, ?_⟩⟩ ?_ ?_ ?_ ?_ ?_ ?_ ?_ hK
    · simp only [Heap.get_put, if_true]; rfl
    · simp only [Heap.get_put, if_true]
    · simp only [Heap.get_put, if_true]; rfl
    · simp only [h3, sg_set, Nat.reduceEqDiff, ↓reduceIte]
    · simp only [h4', sg_set, Nat.reduceEqDiff, ↓reduceIte]
    · simp only [h5, sg_set, Nat.reduceEqDiff, ↓reduceIte]
    · simp only [h6, sg_set, Nat.reduceEqDiff, ↓reduceIte]
    · simp only [h7, sg_set, Nat.reduceEqDiff, ↓reduceIte]
    · simp only [h8, sg_set, Nat.reduceEqDiff, ↓reduceIte]
    · simp only [sg_set, Nat.reduceEqDiff, ↓reduceIte]
theorem all_out (g : Pg P tab) {K : Nat} (hk1 : 1 ≤ K) (hk : K ≤ 4) (n : Nat) : ∀ (x : Nat) (s : T AV) (h : Heap) (k : List Fr) (Q : Ex → T AV → Heap → Prop), x + n = 2 ^ K → AllM K (x * 2 ^ K) h →
    sg s 3 = .int .i64 K → sg s 4 = .int .i64 (2 ^ K : Nat) → sg s 5 = .ptr 0 0 → sg s 6 = .ptr 1 0 → sg s 7 = .ptr 2 0 → sg s 8 = .int .i64 x →
    (∀ s' h', AllM K (2 ^ K * 2 ^ K) h' → sg s' 4 = .int .i64 (2 ^ K : Nat) → sg s' 5 = .ptr 0 0 → sg s' 6 = .ptr 1 0 → Un P k Q (.exit 0) s' h') → Lp P b7_1 s h (Un P k Q) := by
  have hM := two_le hk
  induction n with
  | zero =>
    intro x s h k Q hy m h3 h4' h5 h6 h7 h8 hK
    refine g.lpe b7_1.eq_1 ?_
    have e : x = 2 ^ K := by omega
    rw [e] at m
    generalize hM' : ((2 ^ K : Nat) : Int) = M at *
    have c1 : ¬ ((x : Int) < M) := by omega
    simp only [h3, h4', h5, h6, h7, h8, c1, R0, R1, R2, R3, R4, R5, R6, R7, R8, R9, VOp.fresh, bxC, bsC, AV.cells, un, most, callsOf, List.contains_nil, List.contains_cons, beq_iff_eq, List.getElem?_cons_zero, List.getElem?_cons_succ, seval, Int.reducePow, ↓reduceIte, Nat.reduceEqDiff, reduceCtorEq, and_self]
    refine hK _ _ m ?_ ?_ ?_
    · simp only [h4', sg_set, Nat.reduceEqDiff, ↓reduceIte]
    · simp only [h5, sg_set, Nat.reduceEqDiff, ↓reduceIte]
    · simp only [h6, sg_set, Nat.reduceEqDiff, ↓reduceIte]
  | succ n ih =>
    intro x s h k Q hy m h3 h4' h5 h6 h7 h8 hK
    refine g.lpe b7_1.eq_1 ?_
    have c1 : (x : Int) < ((2 ^ K : Nat) : Int) := by omega
    have w2 : IntKind.i64.wrap ((x : Int) + 1) = ((x + 1 : Nat) : Int) := by rw [w64 (by omega) (by omega)]; push_cast; rfl
    generalize hM' : ((2 ^ K : Nat) : Int) = M at *
    simp only [h3, h4', h5, h6, h7, h8, c1, R0, R1, R2, R3, R4, R5, R6, R7, R8, R9, VOp.fresh, bxC, bsC, AV.cells, un, most, callsOf, List.contains_nil, List.contains_cons, beq_iff_eq, List.getElem?_cons_zero, List.getElem?_cons_succ, seval, Int.reducePow, ↓reduceIte, Nat.reduceEqDiff, reduceCtorEq, and_self]
    refine all_in g hk1 hk (x := x) (by omega) (2 ^ K) 0 _ _ _ _ (by omega) m ?_ ?_ ?_ ?_ ?_ ?_ ?_ ?_
    · simp only [h3, sg_set, Nat.reduceEqDiff, ↓reduceIte]
    · simp only [h4', sg_set, Nat.reduceEqDiff, ↓reduceIte]
      rw [hM']
    · simp only [h5, sg_set, Nat.reduceEqDiff, ↓reduceIte]
    · simp only [h6, sg_set, Nat.reduceEqDiff, ↓reduceIte]
    · simp only [h7, sg_set, Nat.reduceEqDiff, ↓reduceIte]
    · simp only [h8, sg_set, Nat.reduceEqDiff, ↓reduceIte]
    · simp only [sg_set, Nat.reduceEqDiff, ↓reduceIte]
      rfl
    · intro s' h' m' a3 a4 a5 a6 a7 a8
      simp only [a3, a4, a5, a6, a7, a8, w2, R0, R1, R2, R3, R4, R5, R6, R7, R8, R9, VOp.fresh, bxC, bsC, AV.cells, un, most, callsOf, List.contains_nil, List.contains_cons, beq_iff_eq, List.getElem?_cons_zero, List.getElem?_cons_succ, seval, Int.reducePow, ↓reduceIte, Nat.reduceEqDiff, reduceCtorEq, and_self]
      refine ih (x + 1) _ _ k Q (by omega) (by rw [Nat.add_mul, Nat.one_mul]; exact m') ?_ ?_ ?_ ?_ ?_ ?_ hK
      · simp only [a3, sg_set, Nat.reduceEqDiff, ↓reduceIte]
      · simp only [a4, sg_set, Nat.reduceEqDiff, ↓reduceIte]
        rw [hM']
      · simp only [a5, sg_set, Nat.reduceEqDiff, ↓reduceIte]
      · simp only [a6, sg_set, Nat.reduceEqDiff, ↓reduceIte]
      · simp only [a7, sg_set, Nat.reduceEqDiff, ↓reduceIte]
      · simp only [sg_set, Nat.reduceEqDiff, ↓reduceIte]
theorem all_last (g : Pg P tab) {K : Nat} (hk1 : 1 ≤ K) (hk : K ≤ 4) (n : Nat) : ∀ (d : Nat) (s : T AV) (h : Heap) (k : List Fr) (Q : Ex → T AV → Heap → Prop), 1 ≤ d → d + n = 4 ^ K → AllM K (2 ^ K * 2 ^ K) h →
    sg s 4 = .int .i64 (2 ^ K : Nat) → sg s 5 = .ptr 0 0 → sg s 6 = .ptr 1 0 → sg s 12 = .int .i64 d →
    (∀ s', sg s' 4 = .int .i64 (2 ^ K : Nat) → sg s' 5 = .ptr 0 0 → sg s' 6 = .ptr 1 0 → Un P k Q (.exit 4) s' h) → Lp P b7_2 s h (Un P k Q) := by
  have hM := two_le hk
  have h4 := four_le hk
  have hsqI : ((2 ^ K : Nat) : Int) * ((2 ^ K : Nat) : Int) = ((4 ^ K : Nat) : Int) := by rw [← sq2]; push_cast; rfl
  have w1 : IntKind.i64.wrap (((2 ^ K : Nat) : Int) * ((2 ^ K : Nat) : Int)) = ((4 ^ K : Nat) : Int) := by rw [hsqI]; generalize 4 ^ K = z at h4; exact w64 (by omega) (by omega)
  induction n with
  | zero =>
    intro d s h k Q hd1 hy m h4' h5 h6 h12 hK
    refine g.lpe b7_2.eq_1 ?_
    have c1 : ¬ ((d : Int) < ((4 ^ K : Nat) : Int)) := by omega
    generalize hM' : ((2 ^ K : Nat) : Int) = M at *
    simp only [h4', h5, h6, h12, w1, c1, R0, R1, R2, R3, R4, R5, R6, R7, R8, R9, VOp.fresh, bxC, bsC, AV.cells, un, most, callsOf, List.contains_nil, List.contains_cons, beq_iff_eq, List.getElem?_cons_zero, List.getElem?_cons_succ, seval, Int.reducePow, ↓reduceIte, Nat.reduceEqDiff, reduceCtorEq, and_self]
    refine hK _ ?_ ?_ ?_
    · simp only [h4', sg_set, Nat.reduceEqDiff, ↓reduceIte]
    · simp only [h5, sg_set, Nat.reduceEqDiff, ↓reduceIte]
    · simp only [h6, sg_set, Nat.reduceEqDiff, ↓reduceIte]
  | succ n ih =>
    intro d s h k Q hd1 hy m h4' h5 h6 h12 hK
    refine g.lpe b7_2.eq_1 ?_
    have c1 : (d : Int) < ((4 ^ K : Nat) : Int) := by omega
    obtain ⟨⟨v0, g0⟩, ⟨v1, g1⟩, _⟩ := m
    obtain ⟨e, rfl⟩ : ∃ e, d = e + 1 := ⟨d - 1, by omega⟩
    have ld0 : ∀ j, j < 4 ^ K → ldB false j 1 h (some (.cells (rowX K (2 ^ K * 2 ^ K)) 42 v0)) = .val (.int .i64 (hdec K j).1) h := by
      intro j hj
      rw [ldB_at (by rw [rowX, row_len]; omega)]
      congr 1
      simp only [rowX, row_at, inC_all hj, if_true]
    have ld1 : ∀ j, j < 4 ^ K → ldB false j 1 h (some (.cells (rowY K (2 ^ K * 2 ^ K)) 42 v1)) = .val (.int .i64 (hdec K j).2) h := by
      intro j hj
      rw [ldB_at (by rw [rowY, row_len]; omega)]
      congr 1
      simp only [rowY, row_at, inC_all hj, if_true]
    have a0 := ld0 e (by omega)
    have a1 := ld0 (e + 1) (by omega)
    have b0 := ld1 e (by omega)
    have b1 := ld1 (e + 1) (by omega)
    have c2 : (0 : Int) ≤ ((e + 1 : Nat) : Int) ∧ ((e + 1 : Nat) : Int) < ((256 : Nat) : Int) := by omega
    have c3 : (0 : Int) ≤ (e : Int) ∧ (e : Int) < ((256 : Nat) : Int) := by omega
    have w2 : IntKind.i64.wrap (((e + 1 : Nat) : Int) - 1) = (e : Int) := by rw [w64 (by omega) (by omega)]; omega
    have w3 : IntKind.i64.wrap (((e + 1 : Nat) : Int) + 1) = ((e + 2 : Nat) : Int) := by rw [w64 (by omega) (by omega)]; push_cast; rfl
    have hn := dec_near K e (by omega)
    obtain ⟨l1, l2⟩ := hdec_lt K e
    obtain ⟨l3, l4⟩ := hdec_lt K (e + 1)
    obtain ⟨u, v, hu, hv, huv⟩ : ∃ u v : Int, ((hdec K (e + 1)).1 : Int) - (hdec K e).1 = u ∧ ((hdec K (e + 1)).2 : Int) - (hdec K e).2 = v ∧ ((u = 0 ∧ (v = 1 ∨ v = -1)) ∨ (v = 0 ∧ (u = 1 ∨ u = -1))) := by
      refine ⟨_, _, rfl, rfl, ?_⟩
      unfold near at hn
      omega
    generalize hM' : ((2 ^ K : Nat) : Int) = M at *
    have c4 : ((e + 1 : Nat) : Int) < 256 := by omega
    have c5 : (e : Int) < 256 := by omega
    have c6 : (0 : Int) ≤ ((e + 1 : Nat) : Int) := by omega
    have c7 : (0 : Int) ≤ (e : Int) := by omega
    have z0 : IntKind.i64.wrap 0 = 0 := rfl
    have z1 : IntKind.i64.wrap 1 = 1 := rfl
    have z2 : IntKind.i64.wrap (-1) = -1 := rfl
    have fin : ∀ {s' : T AV}, sg s' 4 = .int .i64 M → sg s' 5 = .ptr 0 0 → sg s' 6 = .ptr 1 0 → sg s' 12 = .int .i64 ((e + 2 : Nat) : Int) → Lp P b7_2 s' h (Un P k Q) :=
      fun q1 q2 q3 q4 => ih (e + 2) _ h k Q (by omega) (by omega) ⟨⟨v0, g0⟩, ⟨v1, g1⟩, by assumption⟩ q1 q2 q3 q4 hK
    rcases huv with ⟨rfl, rfl | rfl⟩ | ⟨rfl, rfl | rfl⟩ <;>
      simp only [h4', h5, h6, h12, w1, c1, c2, c3, c4, c5, c6, c7, g0, g1, a0, a1, b0, b1, w2, w3, hu, hv, z0, z1, z2, R0, R1, R2, R3, R4, R5, R6, R7, R8, R9, VOp.fresh, bxC, bsC, AV.cells, un, most, callsOf, List.contains_nil, List.contains_cons, beq_iff_eq, List.getElem?_cons_zero, List.getElem?_cons_succ, seval, Int.reducePow, ↓reduceIte, Nat.reduceEqDiff, reduceCtorEq, and_self] <;>
      refine fin ?_ ?_ ?_ ?_ <;> simp only [h4', h5, h6, sg_set, Nat.reduceEqDiff, ↓reduceIte]
theorem shl_one {K : Nat} (hk : K ≤ 4) : IntKind.i64.wrap (1 * 2 ^ min ((K : Int)).toNat 64) = ((2 ^ K : Nat) : Int) := by
  rw [Int.toNat_natCast]
  exact shl_nat (by omega)
theorem all_pu (g : Pg P tab) (level : Int) : Pu P 7 [.int .i64 level] (fun v => v = .bool true) := by
  refine g.pu (vf := v7) rfl rfl ?_
  simp only [v7, R0, R1, R2, R3, R4, R5, R6, R7, R8, R9, VOp.fresh, bxC, bsC, AV.cells, un, most, callsOf, List.contains_nil, List.contains_cons, beq_iff_eq, List.getElem?_cons_zero, List.getElem?_cons_succ, seval, Int.reducePow, ↓reduceIte, Nat.reduceEqDiff, reduceCtorEq, and_self, -List.reduceReplicate]
  refine (awake_pu g).go rfl ?_
  rintro v rfl
  obtain ⟨x, hx, ex⟩ : ∃ x : Nat, x < 4 ∧ bitsOf .and .i64 level 3 = x := by
    have := and_any level (n := 2) (by decide)
    exact ⟨_, Nat.mod_lt (level % 18446744073709551616).toNat (by decide), this⟩
  obtain ⟨K, hK⟩ : ∃ K, K = x + 1 := ⟨_, rfl⟩
  have hk1 : 1 ≤ K := by omega
  have hk : K ≤ 4 := by omega
  have hM := two_le hk
  have h4 := four_le hk
  have w1 : IntKind.i64.wrap (1 + (x : Int)) = (K : Int) := by rw [w64 (by omega) (by omega)]; omega
  have w2 := shl_one hk
  have k0 : (0 : Int) ≤ (K : Int) := by omega
  have r0 : List.replicate 256 (AV.int .i64 0) = rowX K 0 := by
    simp [rowX, inC, List.map_const', Function.const]
  have r1 : List.replicate 256 (AV.int .i64 0) = rowY K 0 := by
    simp [rowY, inC, List.map_const', Function.const]
  have r2 : List.replicate 256 (AV.bool false) = rowS K 0 := by
    simp [rowS, inC, List.map_const', Function.const]
  simp only [ex, w1, w2, k0, R0, R1, R2, R3, R4, R5, R6, R7, R8, R9, VOp.fresh, bxC, bsC, AV.cells, un, most, callsOf, List.contains_nil, List.contains_cons, beq_iff_eq, List.getElem?_cons_zero, List.getElem?_cons_succ, seval, Int.reducePow, ↓reduceIte, Nat.reduceEqDiff, reduceCtorEq, and_self, -List.reduceReplicate]
  refine all_out g hk1 hk (2 ^ K) 0 _ _ _ _ (by omega) ⟨⟨0, ?_⟩, ⟨0, ?_⟩, ⟨0, ?_⟩⟩ ?_ ?_ ?_ ?_ ?_ ?_ ?_
  · simp only [Heap.get_mk]; rw [Nat.zero_mul, ← r0]; rfl
  · simp only [Heap.get_mk]; rw [Nat.zero_mul, ← r1]; rfl
  · simp only [Heap.get_mk]; rw [Nat.zero_mul, ← r2]; rfl
  · simp only [sg_set, Nat.reduceEqDiff, ↓reduceIte]
  · simp only [sg_set, Nat.reduceEqDiff, ↓reduceIte]
    rw [shl_nat (by omega)]
  · simp only [sg_set, Nat.reduceEqDiff, ↓reduceIte]
  · simp only [sg_set, Nat.reduceEqDiff, ↓reduceIte]
  · simp only [sg_set, Nat.reduceEqDiff, ↓reduceIte]
  · simp only [sg_set, Nat.reduceEqDiff, ↓reduceIte]
    rfl
  · intro s' h' m a4 a5 a6
    simp only [a4, a5, a6, R0, R1, R2, R3, R4, R5, R6, R7, R8, R9, VOp.fresh, bxC, bsC, AV.cells, un, most, callsOf, List.contains_nil, List.contains_cons, beq_iff_eq, List.getElem?_cons_zero, List.getElem?_cons_succ, seval, Int.reducePow, ↓reduceIte, Nat.reduceEqDiff, reduceCtorEq, and_self]
    have four_pos := four_pos K
    refine all_last g hk1 hk (4 ^ K - 1) 1 _ _ _ _ (by omega) (by omega) m ?_ ?_ ?_ ?_ ?_
    · simp only [a4, sg_set, Nat.reduceEqDiff, ↓reduceIte]
    · simp only [a5, sg_set, Nat.reduceEqDiff, ↓reduceIte]
    · simp only [a6, sg_set, Nat.reduceEqDiff, ↓reduceIte]
    · simp only [sg_set, Nat.reduceEqDiff, ↓reduceIte]
      rfl
    · intro s'' b4 b5 b6
      obtain ⟨⟨v0, g0⟩, ⟨v1, g1⟩, _⟩ := m
      have ld0 : ∀ j, j < 4 ^ K → ldB false j 1 h' (some (.cells (rowX K (2 ^ K * 2 ^ K)) 42 v0)) = .val (.int .i64 (hdec K j).1) h' := by
        intro j hj
        rw [ldB_at (by rw [rowX, row_len]; omega)]
        congr 1
        simp only [rowX, row_at, inC_all hj, if_true]
      have ld1 : ∀ j, j < 4 ^ K → ldB false j 1 h' (some (.cells (rowY K (2 ^ K * 2 ^ K)) 42 v1)) = .val (.int .i64 (hdec K j).2) h' := by
        intro j hj
        rw [ldB_at (by rw [rowY, row_len]; omega)]
        congr 1
        simp only [rowY, row_at, inC_all hj, if_true]
      have p0 := ld0 0 (by omega)
      have p1 := ld1 0 (by omega)
      have p2 := ld0 (4 ^ K - 1) (by omega)
      have p3 := ld1 (4 ^ K - 1) (by omega)
      rw [dec_zero] at p0 p1
      rw [dec_last] at p2 p3
      have hsqI : ((2 ^ K : Nat) : Int) * ((2 ^ K : Nat) : Int) = ((4 ^ K : Nat) : Int) := by rw [← sq2]; push_cast; rfl
      have hp2 := two_pos K
      have w3 : IntKind.i64.wrap (((2 ^ K : Nat) : Int) * ((2 ^ K : Nat) : Int)) = ((4 ^ K : Nat) : Int) := by rw [hsqI]; generalize 4 ^ K = z at h4; exact w64 (by omega) (by omega)
      have w4 : IntKind.i64.wrap (((4 ^ K : Nat) : Int) - 1) = ((4 ^ K - 1 : Nat) : Int) := by generalize 4 ^ K = z at h4 four_pos; rw [w64 (by omega) (by omega)]; omega
      have w5 : IntKind.i64.wrap (((2 ^ K : Nat) : Int) - 1) = ((2 ^ K - 1 : Nat) : Int) := by rw [w64 (by omega) (by omega)]; omega
      have c1 : ((4 ^ K - 1 : Nat) : Int) < 256 := by generalize 4 ^ K = z at h4 four_pos; omega
      have c2 : (0 : Int) ≤ ((4 ^ K - 1 : Nat) : Int) := Int.natCast_nonneg _
      generalize hM' : ((2 ^ K : Nat) : Int) = M at *
      simp only [b4, b5, b6, g0, g1, p0, p1, p2, p3, w3, w4, w5, c1, c2, R0, R1, R2, R3, R4, R5, R6, R7, R8, R9, VOp.fresh, bxC, bsC, AV.cells, un, most, callsOf, List.contains_nil, List.contains_cons, beq_iff_eq, List.getElem?_cons_zero, List.getElem?_cons_succ, seval, Int.reducePow, ↓reduceIte, Nat.reduceEqDiff, reduceCtorEq, and_self]
end
end Go.Proofs.Ytakibdcemgahaaa.VM
