/- The program's reader: numbers. What bytes are read as. -/
import Derived.Test.YtinonmcnofjeeaaL11Put
import Derived.Test.YtinonmcnofjeeaaSE8
namespace Go.Proofs.Ytinonmcnofjeeaa.VM
set_option linter.unusedSimpArgs false
set_option linter.unusedVariables false
set_option linter.defProp false
set_option maxHeartbeats 1000000
attribute [local irreducible] Af Nx EvO Ev Un Gd Cd EvR EvQ EvC Nc Gc Lp EvM NxM AfM GdM EvMR EvMQ EvMD EvMC Nm Gm

def beV (l : List Nat) : Nat := l.foldl (fun x b => x * 256 + b) 0
/-- so many bytes as a number, and what is left -/
def rdN (n : Nat) (s : List Nat) : Int × List Nat := if s.length < n then (0, []) else ((beV (s.take n) : Int), s.drop n)
theorem By.drop {s : List Nat} (h : By s) (n : Nat) : By (s.drop n) := fun x hx => h x (List.mem_of_mem_drop hx)
theorem By.take {s : List Nat} (h : By s) (n : Nat) : By (s.take n) := fun x hx => h x (List.mem_of_mem_take hx)
theorem rdN_by {n : Nat} {s : List Nat} (h : By s) : By (rdN n s).2 := by
  unfold rdN; split
  · exact By.nil
  · exact h.drop n
theorem rdN_len (n : Nat) (s : List Nat) : (rdN n s).2.length ≤ s.length := by
  unfold rdN; split
  · simp
  · simp
theorem beV_snoc (l : List Nat) (b : Nat) : beV (l ++ [b]) = beV l * 256 + b := by simp [beV]
theorem beV_from : ∀ (l : List Nat) (x : Nat), By l → l.foldl (fun x b => x * 256 + b) x + 1 ≤ (x + 1) * 256 ^ l.length
  | [], x, _ => by simp
  | b :: l, x, h => by
    have h1 := beV_from l (x * 256 + b) fun y hy => h y (List.mem_cons_of_mem _ hy)
    have h2 := h b List.mem_cons_self
    have h3 : (x * 256 + b + 1) * 256 ^ l.length ≤ ((x + 1) * 256) * 256 ^ l.length := Nat.mul_le_mul_right _ (by omega)
    rw [List.foldl_cons, List.length_cons, Nat.pow_succ, Nat.mul_comm (256 ^ l.length) 256, ← Nat.mul_assoc]
    omega
theorem beV_lt {l : List Nat} (h : By l) : beV l < 256 ^ l.length := by
  have := beV_from l 0 h
  simp only [Nat.zero_add, Nat.one_mul] at this
  exact this
theorem rdN_le {n : Nat} (hn : n ≤ 4) {s : List Nat} (h : By s) : 0 ≤ (rdN n s).1 ∧ (rdN n s).1 ≤ 4294967295 := by
  unfold rdN; split
  · simp
  · rename_i hl
    have := beV_lt (h.take n)
    rw [List.length_take, Nat.min_eq_left (by omega)] at this
    have h4 : 256 ^ n ≤ 256 ^ 4 := Nat.pow_le_pow_right (by decide) hn
    simp only
    omega
theorem rdN1_le {s : List Nat} (h : By s) : (rdN 1 s).1 ≤ 255 := by
  unfold rdN; split
  · simp
  · rename_i hl
    have := beV_lt (h.take 1)
    rw [List.length_take, Nat.min_eq_left (by omega)] at this
    simp only
    omega
theorem or_low {x b : Nat} (hb : b < 256) (hx : x < 16777216) : bitsOf .or .i64 (((x : Nat) : Int) * 256) (b : Int) = ((x * 256 + b : Nat) : Int) := by
  have e : ((x : Int) * 256) = ((x * 256 : Nat) : Int) := (Int.natCast_mul x 256).symm
  rw [e]
  unfold bitsOf
  simp only
  rw [mod64 (by omega), mod64 (by omega)]
  have : Nat.lor (x * 256) b = x * 256 + b := by
    have := Nat.two_pow_add_eq_or_of_lt (i := 8) (b := b) (by omega) x
    have e2 : 2 ^ 8 * x = x * 256 := Nat.mul_comm _ _
    rw [e2] at this
    exact this.symm
  rw [this]
  exact w64 (by omega) (by omega)
theorem sliceS_lo {s : List Nat} {k : IntKind} {n : Nat} (hn : n ≤ s.length) : sliceS (.str s) (some (.int k (n : Int))) none = some (.str (s.drop n)) := by
  have h1 : (0 : Int) ≤ (n : Int) ∧ (n : Int) ≤ (s.length : Int) := by omega
  simp only [sliceS, bounds, natOf, Option.isSome_none, Bool.false_eq_true, if_false]
  rw [if_pos h1, Int.toNat_natCast]
  have : (s.drop n).take (s.length - n) = s.drop n := List.take_of_length_le (by simp)
  simp only [this]
theorem OK.of_cl {P : Program} {f : Nat} {args : List AV} {h h0 : Heap} {v : AV} (c : Cl P f args h fun v' h' => v' = v ∧ h' = h0) : OK P f args h v h0 :=
  let ⟨_, _, o, e1, e2⟩ := c
  e1 ▸ e2 ▸ o
section
variable {P : Program}
theorem rnum_loop (g : Pg P tab) {rb N : Nat} (hN : N ≤ 4) {t : List Nat} (ht : By t) (hl : N ≤ t.length) {h : Heap} {e : TypeId} {ver : Nat} (hb : h.get rb = some (.cells [.str t] e ver)) (n : Nat) : ∀ (i : Nat) (s : T AV) (k : List Fr) (Q : Ex → T AV → Heap → Prop), i + n = N →
    sg s 0 = .ptr rb 0 → sg s 1 = .int .i64 N → sg s 17 = .int .i64 N → sg s 18 = .int .i64 i → sg s 5 = .int .i64 (beV (t.take i)) →
    (∀ s', sg s' 0 = .ptr rb 0 → sg s' 1 = .int .i64 N → sg s' 5 = .int .i64 (beV (t.take N)) → Un P k Q (.exit 0) s' h) → Lp P b57_0 s h (Un P k Q) := by
  induction n with
  | zero =>
    intro i s k Q hi h0 h1 h17 h18 h5 hQ
    refine g.lpe b57_0.eq_1 ?_
    have c1 : ¬ ((i : Int) < (N : Int)) := by omega
    simp only [h17, h18, c1, R0, R1, R2, R3, R4, R5, R6, R7, R8, R9, VOp.fresh, bxC, bsC, R10, un, most, callsOf, List.contains_nil, List.contains_cons, beq_iff_eq, List.getElem?_cons_zero, List.getElem?_cons_succ, seval, Option.map_none, Int.reducePow, ↓reduceIte, Nat.reduceEqDiff, reduceCtorEq, and_self]
    have e : i = N := by omega
    subst e
    refine hQ _ ?_ ?_ ?_
    · simp only [h0, sg_set, Nat.reduceEqDiff, ↓reduceIte]
    · simp only [h1, sg_set, Nat.reduceEqDiff, ↓reduceIte]
    · simp only [h5, sg_set, Nat.reduceEqDiff, ↓reduceIte]
  | succ n ih =>
    intro i s k Q hi h0 h1 h17 h18 h5 hQ
    refine g.lpe b57_0.eq_1 ?_
    have c1 : (i : Int) < (N : Int) := by omega
    have c2 : (0 : Int) ≤ (i : Int) := by omega
    have hb' : t[i]? = some t[i] := List.getElem?_eq_getElem (by omega)
    have h256 : t[i] < 256 := ht _ (List.getElem_mem _)
    have hx := beV_lt (ht.take i)
    rw [List.length_take, Nat.min_eq_left (by omega)] at hx
    have hp : 256 ^ i ≤ 256 ^ 3 := Nat.pow_le_pow_right (by decide) (by omega)
    have w1 : IntKind.i64.wrap ((i : Int) + 1) = ((i + 1 : Nat) : Int) := by rw [w64 (by omega) (by omega)]; push_cast; rfl
    have w2 : IntKind.i64.wrap ((beV (t.take i) : Int) * 256) = (beV (t.take i) : Int) * 256 := w64 (by omega) (by omega)
    have w3 : IntKind.i64.wrap (t[i] : Int) = (t[i] : Int) := w64 (by omega) (by omega)
    have w4 := or_low (x := beV (t.take i)) h256 (by omega)
    have w5 : beV (t.take i) * 256 + t[i] = beV (t.take (i + 1)) := by
      rw [List.take_add_one, hb']
      exact (beV_snoc _ _).symm
    simp only [h0, h1, h5, h17, h18, c1, c2, hb, RS, hb', w1, w2, w3, w4, w5, R0, R1, R2, R3, R4, R5, R6, R7, R8, R9, VOp.fresh, bxC, bsC, R10, un, most, callsOf, List.contains_nil, List.contains_cons, beq_iff_eq, List.getElem?_cons_zero, List.getElem?_cons_succ, seval, Option.map_none, Int.reducePow, ↓reduceIte, Nat.reduceEqDiff, reduceCtorEq, and_self]
    refine ih (i + 1) _ k Q (by omega) ?_ ?_ ?_ ?_ ?_ hQ
    · simp only [h0, sg_set, Nat.reduceEqDiff, ↓reduceIte]
    · simp only [h1, sg_set, Nat.reduceEqDiff, ↓reduceIte]
    · simp only [h17, sg_set, Nat.reduceEqDiff, ↓reduceIte]
    · simp only [sg_set, Nat.reduceEqDiff, ↓reduceIte]
    · simp only [sg_set, Nat.reduceEqDiff, ↓reduceIte]
theorem rnum (g : Pg P tab) {rb N : Nat} (hN : N ≤ 4) {t : List Nat} (ht : By t) (hlt : t.length < 4611686018427387904) {h : Heap} {e : TypeId} {ver : Nat} (hb : h.get rb = some (.cells [.str t] e ver)) :
    OK P 57 [.ptr rb 0, .int .i64 N] h (.int .i64 (rdN N t).1) (h.put rb (.cells [.str (rdN N t).2] e (ver + 1))) := by
  refine OK.of_cl (g.cl (vf := v57) rfl rfl ?_)
  by_cases hl : t.length < N
  · have c1 : (t.length : Int) < (N : Int) := by omega
    simp only [v57, hb, c1, RW, rdN, hl, R0, R1, R2, R3, R4, R5, R6, R7, R8, R9, VOp.fresh, bxC, bsC, R10, un, most, callsOf, List.contains_nil, List.contains_cons, beq_iff_eq, List.getElem?_cons_zero, List.getElem?_cons_succ, seval, Option.map_none, Int.reducePow, ↓reduceIte, Nat.reduceEqDiff, reduceCtorEq, and_self]
  · have c1 : ¬ ((t.length : Int) < (N : Int)) := by omega
    have c2 := sliceS_lo (s := t) (k := .i64) (n := N) (by omega)
    simp only [v57, hb, c1, R0, R1, R2, R3, R4, R5, R6, R7, R8, R9, VOp.fresh, bxC, bsC, R10, un, most, callsOf, List.contains_nil, List.contains_cons, beq_iff_eq, List.getElem?_cons_zero, List.getElem?_cons_succ, seval, Option.map_none, Int.reducePow, ↓reduceIte, Nat.reduceEqDiff, reduceCtorEq, and_self]
    refine rnum_loop g hN ht (by omega) hb N 0 _ _ _ (by omega) ?_ ?_ ?_ ?_ ?_ ?_
    · simp only [sg_set, Nat.reduceEqDiff, ↓reduceIte]
    · simp only [sg_set, Nat.reduceEqDiff, ↓reduceIte]
    · simp only [sg_set, Nat.reduceEqDiff, ↓reduceIte]
    · simp only [sg_set, Nat.reduceEqDiff, ↓reduceIte]
      rfl
    · simp only [sg_set, Nat.reduceEqDiff, ↓reduceIte]
      rfl
    · intro s' a0 a1 a5
      simp only [a0, a1, a5, hb, c2, RW, rdN, hl, R0, R1, R2, R3, R4, R5, R6, R7, R8, R9, VOp.fresh, bxC, bsC, R10, un, most, callsOf, List.contains_nil, List.contains_cons, beq_iff_eq, List.getElem?_cons_zero, List.getElem?_cons_succ, seval, Option.map_none, Int.reducePow, ↓reduceIte, Nat.reduceEqDiff, reduceCtorEq, and_self]
end
end Go.Proofs.Ytinonmcnofjeeaa.VM
