/- RecordForms: whatever part of a record is not what it may be, nothing is written. -/
import Derived.Test.YtinonmcnofjeeaaL11Run
namespace Go.Proofs.Ytinonmcnofjeeaa.VM
set_option linter.unusedSimpArgs false
set_option linter.unusedVariables false
set_option linter.defProp false
set_option maxHeartbeats 1000000
attribute [local irreducible] Af Nx EvO Ev Un Gd Cd EvR EvQ EvC Nc Gc Lp
section
variable {P : Program}
theorem num_pu (g : Pg P tab) (n : Int) : Pu P 19 [.int .i64 n] (fun v => v = .int .i64 n) := by
  refine g.pu (vf := v19) rfl rfl ?_
  simp +contextual (maxSteps := 2000000) (disch := omega) only [v19, R0, R1, R2, R3, R4, R5, R6, R7, bxC, bsC, AV.cells, un, most, callsOf, List.contains_nil, List.contains_cons, beq_iff_eq, List.getElem?_cons_zero, List.getElem?_cons_succ, seval, Int.reducePow, ↓reduceIte, Nat.reduceEqDiff, reduceCtorEq, and_self]
theorem numOf_eq {v : AV} (h : numOf v = true) : ∃ s, v = .tup [.str s, .int .i64 0] := by
  unfold numOf at h
  split at h
  · exact ⟨_, rfl⟩
  · cases h

/-! the data -/
def f5 : Feat := ⟨5, 0, [[⟨6, 7⟩]]⟩
def m0 : Mp := ⟨0, [], []⟩
abbrev ring5 : AV := .rs [.rs [.int .i64 6, .int .i64 7] 1] 1
theorem i64c {n : Int} (a : -1000000 ≤ n) (b : n ≤ 1000000) : I64 n := ⟨by omega, by omega⟩
theorem i0 : I64 0 := i64c (by decide) (by decide)
theorem i1 : I64 1 := i64c (by decide) (by decide)
theorem i5 : I64 5 := i64c (by decide) (by decide)
theorem i9 : I64 9 := i64c (by decide) (by decide)
theorem ring5_is : IsL 24 RRing ring5 [[⟨6, 7⟩]] := by
  have h1 : IsL 16 RPt (.rs [.int .i64 6, .int .i64 7] 1) [⟨6, 7⟩] := isL_rs (R := RPt) (l := [⟨6, 7⟩]) (c := [.int .i64 6, .int .i64 7]) (.cons (show RPt ⟨6, 7⟩ [.int .i64 6, .int .i64 7] from ⟨rfl, i64c (by decide) (by decide), i64c (by decide) (by decide)⟩) .nil) (by decide)
  exact isL_rs (R := RRing) (l := [[⟨6, 7⟩]]) (c := [.rs [.int .i64 6, .int .i64 7] 1]) (.cons (show RRing [⟨6, 7⟩] _ from ⟨_, rfl, h1⟩) .nil) (by decide)
theorem putOp {id : Int} (h : I64 id) : ROp ⟨0, f5, id, m0⟩ [.int .i64 0, .int .i64 5, .int .i64 0, ring5, .int .i64 id, .int .i64 0, .nils, .nils] :=
  ⟨_, _, _, rfl, i0, i5, i0, ring5_is, h, i0, isL_nil _ _, isL_nil _ _⟩
theorem delOp {id : Int} (h : I64 id) : ROp ⟨1, ⟨0, 0, []⟩, id, m0⟩ [.int .i64 1, .int .i64 0, .int .i64 0, .nils, .int .i64 id, .int .i64 0, .nils, .nils] :=
  ⟨_, _, _, rfl, i1, i0, i0, isL_nil _ _, h, i0, isL_nil _ _, isL_nil _ _⟩
theorem two_is {o o' : Op} {c c' : List AV} (h : ROp o c) (h' : ROp o' c') : IsL 112 ROp (.rs (c ++ (c' ++ [])) 2) [o, o'] := isL_rs (l := [o, o']) (.cons h (.cons h' .nil)) (show 2 * 112 ≤ reachBytes by decide)
abbrev opsC : AV := .rs [.int .i64 0, .int .i64 5, .int .i64 0, ring5, .int .i64 0, .int .i64 0, .nils, .nils, .int .i64 1, .int .i64 0, .int .i64 0, .nils, .int .i64 9, .int .i64 0, .nils, .nils] 2
def opsG : List Op := [⟨0, f5, 0, m0⟩, ⟨1, ⟨0, 0, []⟩, 9, m0⟩]
theorem opsC_is : IsL 112 ROp opsC opsG := two_is (putOp i0) (delOp i9)
theorem recC (kind node seq base : Int) (commit : Bool) (epoch : Int) {w : AV} {ops : List Op} (h : IsL 112 ROp w ops) : RRc ⟨kind, node, seq, base, commit, ⟨epoch, [], []⟩, ops⟩ [.int .i64 kind, .int .i64 node, .int .i64 seq, .int .i64 base, .bool commit, .int .i64 epoch, .nils, .nils, w] :=
  ⟨_, _, _, rfl, isL_nil _ _, isL_nil _ _, h⟩

theorem one1_is : IsL 8 RInt (.rs [.int .i64 0] 1) [0] := isL_rs (R := RInt) (l := [0]) (c := [.int .i64 0]) (.cons (show RInt 0 [.int .i64 0] from ⟨rfl, i0⟩) .nil) (show 1 * 8 ≤ reachBytes by decide)
theorem mapOp : ROp ⟨2, ⟨0, 0, []⟩, 0, ⟨1, [0], [0]⟩⟩ [.int .i64 2, .int .i64 0, .int .i64 0, .nils, .int .i64 0, .int .i64 1, .rs [.int .i64 0] 1, .rs [.int .i64 0] 1] :=
  ⟨_, _, _, rfl, (i64c (by decide) (by decide) : I64 2), i0, i0, isL_nil _ _, i0, i1, one1_is, one1_is⟩
theorem three_is : IsL 112 ROp (.rs [.int .i64 0, .int .i64 5, .int .i64 0, ring5, .int .i64 0, .int .i64 0, .nils, .nils, .int .i64 1, .int .i64 0, .int .i64 0, .nils, .int .i64 9, .int .i64 0, .nils, .nils, .int .i64 2, .int .i64 0, .int .i64 0, .nils, .int .i64 0, .int .i64 1, .rs [.int .i64 0] 1, .rs [.int .i64 0] 1] 3) [⟨0, f5, 0, m0⟩, ⟨1, ⟨0, 0, []⟩, 9, m0⟩, ⟨2, ⟨0, 0, []⟩, 0, ⟨1, [0], [0]⟩⟩] :=
  isL_rs (.cons (putOp i0) (.cons (delOp i9) (.cons mapOp .nil))) (show 3 * 112 ≤ reachBytes by decide)
theorem rep_is (n : Nat) (h : n ≤ 1000) : IsL 112 ROp (.rs (List.replicate n [.int .i64 0, .int .i64 0, .int .i64 0, .nils, .int .i64 0, .int .i64 0, .nils, .nils]).flatten n) (List.replicate n op0) := by
  have hc : ∀ n, Cat ROp (List.replicate n op0) (List.replicate n [.int .i64 0, .int .i64 0, .int .i64 0, .nils, .int .i64 0, .int .i64 0, .nils, .nils]).flatten := by
    intro n
    induction n with
    | zero => exact .nil
    | succ n ih =>
      rw [List.replicate_succ, List.replicate_succ, List.flatten_cons]
      exact .cons (show ROp op0 [.int .i64 0, .int .i64 0, .int .i64 0, .nils, .int .i64 0, .int .i64 0, .nils, .nils] from ⟨_, _, _, rfl, i0, i0, i0, isL_nil _ _, i0, i0, isL_nil _ _, isL_nil _ _⟩) ih
  have e : reachBytes = 140737488351232 := rfl
  have := isL_rs (hc n) (b := 112) (by rw [List.length_replicate, e]; omega)
  rwa [List.length_replicate] at this
theorem rep_told (n : Nat) : AV.tolds (List.replicate n [.int .i64 0, .int .i64 0, .int .i64 0, .nils, .int .i64 0, .int .i64 0, .nils, .nils]).flatten = true := by
  induction n with
  | zero => rfl
  | succ n ih => rw [List.replicate_succ, List.flatten_cons, Cat.told.tolds_append, ih]; rfl
theorem rep_len (n : Nat) : (List.replicate n ([.int .i64 0, .int .i64 0, .int .i64 0, .nils, .int .i64 0, .int .i64 0, .nils, .nils] : List AV)).flatten.length = n * 8 := by
  induction n with
  | zero => rfl
  | succ n ih => rw [List.replicate_succ, List.flatten_cons, List.length_append, ih]; simp; omega
theorem one15 {n : Nat} (h0 : 0 < n) (hn : n ≤ 1000) {h : Heap} {e : TypeId} {ver : Nat}
    (hg : h.get 5 = some (.cells (List.replicate n [.int .i64 0, .int .i64 0, .int .i64 0, .nils, .int .i64 0, .int .i64 0, .nils, .nils]).flatten e ver)) :
    Fz true h (.agg [.int .i64 1, .int .i64 1, .int .i64 2, .int .i64 3, .bool false, .int .i64 0, .nils, .nils, .sl 5 0 n n 8])
      (.agg [.int .i64 1, .int .i64 1, .int .i64 2, .int .i64 3, .bool false, .int .i64 0, .nils, .nils, .rs (List.replicate n [.int .i64 0, .int .i64 0, .int .i64 0, .nils, .int .i64 0, .int .i64 0, .nils, .nils]).flatten n]) := by
  refine .agg (.cons (.int _ _) (.cons (.int _ _) (.cons (.int _ _) (.cons (.int _ _) (.cons (.bool _) (.cons (.int _ _) (.cons .nils (.cons .nils (.cons ?_ .nil)))))))))
  refine .sl h0 hg (cs := (List.replicate n [.int .i64 0, .int .i64 0, .int .i64 0, .nils, .int .i64 0, .int .i64 0, .nils, .nils]).flatten) ?_ (Fzs.refl (rep_told n))
  have e := rep_len n
  rw [cut_eq, List.drop_zero, ← e, List.take_length, if_pos rfl]
theorem no_kind {r : Rc} (h : r.kind < 0 ∨ 4 < r.kind) : ¬ recOk r := by
  rintro (⟨k, _⟩ | ⟨k | k, _⟩ | ⟨k, _⟩ | ⟨k, _⟩) <;> omega
theorem no_one {r : Rc} (hk : r.kind = 1) (h : txOk r.node r.seq → -1 ≤ r.base → r.base ≤ 65535 → opsOk 8 r.ops → r.commit = false → ¬ mpZero r.m) : ¬ recOk r := by
  rintro (⟨k, _⟩ | ⟨_, a, b, c, d, e, f⟩ | ⟨k, _⟩ | ⟨k, _⟩)
  · omega
  · exact h a b c d e f
  · omega
  · omega

theorem forms_pu (g : Pg P tab) (which x : Int) : Pu P 4 [.int .i64 which, .int .i64 x] (fun v => v = .bool true) := by
  refine g.pu (vf := v4) rfl rfl ?_
  simp only [v4, R0, R1, R2, R3, R4, R5, R6, R7, bxC, bsC, AV.cells, un, most, callsOf, List.contains_nil, List.contains_cons, beq_iff_eq, List.getElem?_cons_zero, List.getElem?_cons_succ, seval, Int.reducePow, ↓reduceIte, Nat.reduceEqDiff, reduceCtorEq, and_self]
  refine (awake_pu g).go rfl ?_
  rintro v rfl
  obtain ⟨D, hD1, hD2, hD⟩ : ∃ D : Int, 1 ≤ D ∧ D ≤ 64 ∧ IntKind.i64.wrap (1 + bitsOf .and .i64 x 63) = D := by
    have h1 := and_any x (n := 6) (by decide)
    have h2 := Nat.mod_lt (x % 18446744073709551616).toNat (show 0 < 2 ^ 6 by decide)
    have h3 : bitsOf .and .i64 x 63 = (((x % 18446744073709551616).toNat % 2 ^ 6 : Nat) : Int) := by simpa using h1
    rw [h3]
    refine ⟨_, ?_, ?_, w64 (by omega) (by omega)⟩ <;> omega
  obtain ⟨w, hw0, hw1, hw⟩ : ∃ w : Int, 0 ≤ w ∧ w ≤ 16 ∧ (IntKind.u64.wrap which).tmod 17 = w := by
    have e1 : IntKind.u64.wrap which = which % 18446744073709551616 := IntKind.wrap_u64 which
    have h0 : 0 ≤ which % 18446744073709551616 := Int.emod_nonneg _ (by decide)
    have e2 : (which % 18446744073709551616).tmod 17 = which % 18446744073709551616 % 17 := Int.tmod_eq_emod_of_nonneg h0
    rw [e1, e2]
    exact ⟨_, by omega, by omega, rfl⟩
  simp only [RW, hD, R0, R1, R2, R3, R4, R5, R6, R7, bxC, bsC, AV.cells, un, most, callsOf, List.contains_nil, List.contains_cons, beq_iff_eq, List.getElem?_cons_zero, List.getElem?_cons_succ, seval, Int.reducePow, ↓reduceIte, Nat.reduceEqDiff, reduceCtorEq, and_self]
  refine (good_pu g).one (by kernel_rfl) ?_
  intro v hv
  obtain ⟨s1, rfl⟩ := numOf_eq hv
  have W : ∀ n : Int, -100000 ≤ n → n ≤ 100000 → IntKind.i64.wrap n = n := fun n a b => w64 (by omega) (by omega)
  have a1 := W (0 - D) (by omega) (by omega)
  have a2 := W (4 + D) (by omega) (by omega)
  have a3 := W (7 + D) (by omega) (by omega)
  have a4 := W (1 - D) (by omega) (by omega)
  have a5 := W (65535 + D) (by omega) (by omega)
  have a6 := W (-1 - D) (by omega) (by omega)
  have a7 := W (32 + D) (by omega) (by omega)
  rcases (by omega : w = 0 ∨ w = 1 ∨ w = 2 ∨ w = 3 ∨ w = 4 ∨ w = 5 ∨ w = 6 ∨ w = 7 ∨ w = 8 ∨ w = 9 ∨ w = 10 ∨ w = 11 ∨ w = 12 ∨ w = 13 ∨ w = 14 ∨ w = 15 ∨ w = 16) with rfl | rfl | rfl | rfl | rfl | rfl | rfl | rfl | rfl | rfl | rfl | rfl | rfl | rfl | rfl | rfl | rfl
  · simp only [RW, hw, a1, a2, a3, a4, a5, a6, R0, R1, R2, R3, R4, R5, R6, R7, bxC, bsC, AV.cells, un, most, callsOf, List.contains_nil, List.contains_cons, beq_iff_eq, List.getElem?_cons_zero, List.getElem?_cons_succ, seval, Int.reducePow, ↓reduceIte, Nat.reduceEqDiff, reduceCtorEq, and_self]
    refine (put_bad g (r := ⟨4 + D, 1, 2, 3, false, ⟨0, [], []⟩, opsG⟩) (recC (4 + D) (1) (2) (3) false (0) opsC_is) (no_kind (.inr (by simp only; omega)))).one (by kernel_rfl) ?_
    rintro v rfl
    simp only [R0, R1, R2, R3, R4, R5, R6, R7, bxC, bsC, AV.cells, un, most, callsOf, List.contains_nil, List.contains_cons, beq_iff_eq, List.getElem?_cons_zero, List.getElem?_cons_succ, seval, Int.reducePow, ↓reduceIte, Nat.reduceEqDiff, reduceCtorEq, and_self]
    refine (num_pu g 0).go rfl ?_
    rintro v rfl
    simp only [R0, R1, R2, R3, R4, R5, R6, R7, bxC, bsC, AV.cells, un, most, callsOf, List.contains_nil, List.contains_cons, beq_iff_eq, List.getElem?_cons_zero, List.getElem?_cons_succ, seval, Int.reducePow, ↓reduceIte, Nat.reduceEqDiff, reduceCtorEq, and_self]
    refine (num_pu g 1100).go rfl ?_
    rintro v rfl
    simp only [R0, R1, R2, R3, R4, R5, R6, R7, bxC, bsC, AV.cells, un, most, callsOf, List.contains_nil, List.contains_cons, beq_iff_eq, List.getElem?_cons_zero, List.getElem?_cons_succ, seval, Int.reducePow, ↓reduceIte, Nat.reduceEqDiff, reduceCtorEq, and_self]
  · simp only [RW, hw, a1, a2, a3, a4, a5, a6, R0, R1, R2, R3, R4, R5, R6, R7, bxC, bsC, AV.cells, un, most, callsOf, List.contains_nil, List.contains_cons, beq_iff_eq, List.getElem?_cons_zero, List.getElem?_cons_succ, seval, Int.reducePow, ↓reduceIte, Nat.reduceEqDiff, reduceCtorEq, and_self]
    refine (put_bad g (r := ⟨0 - D, 1, 2, 3, false, ⟨0, [], []⟩, opsG⟩) (recC (0 - D) (1) (2) (3) false (0) opsC_is) (no_kind (.inl (by simp only; omega)))).one (by kernel_rfl) ?_
    rintro v rfl
    simp only [R0, R1, R2, R3, R4, R5, R6, R7, bxC, bsC, AV.cells, un, most, callsOf, List.contains_nil, List.contains_cons, beq_iff_eq, List.getElem?_cons_zero, List.getElem?_cons_succ, seval, Int.reducePow, ↓reduceIte, Nat.reduceEqDiff, reduceCtorEq, and_self]
    refine (num_pu g 0).go rfl ?_
    rintro v rfl
    simp only [R0, R1, R2, R3, R4, R5, R6, R7, bxC, bsC, AV.cells, un, most, callsOf, List.contains_nil, List.contains_cons, beq_iff_eq, List.getElem?_cons_zero, List.getElem?_cons_succ, seval, Int.reducePow, ↓reduceIte, Nat.reduceEqDiff, reduceCtorEq, and_self]
    refine (num_pu g 1100).go rfl ?_
    rintro v rfl
    simp only [R0, R1, R2, R3, R4, R5, R6, R7, bxC, bsC, AV.cells, un, most, callsOf, List.contains_nil, List.contains_cons, beq_iff_eq, List.getElem?_cons_zero, List.getElem?_cons_succ, seval, Int.reducePow, ↓reduceIte, Nat.reduceEqDiff, reduceCtorEq, and_self]
  · simp only [RW, hw, a1, a2, a3, a4, a5, a6, R0, R1, R2, R3, R4, R5, R6, R7, bxC, bsC, AV.cells, un, most, callsOf, List.contains_nil, List.contains_cons, beq_iff_eq, List.getElem?_cons_zero, List.getElem?_cons_succ, seval, Int.reducePow, ↓reduceIte, Nat.reduceEqDiff, reduceCtorEq, and_self]
    refine (put_bad g (r := ⟨1, 0 - D, 2, 3, false, ⟨0, [], []⟩, opsG⟩) (recC (1) (0 - D) (2) (3) false (0) opsC_is) (no_one rfl fun h _ _ _ _ _ => by simp only [txOk] at h; omega)).one (by kernel_rfl) ?_
    rintro v rfl
    simp only [R0, R1, R2, R3, R4, R5, R6, R7, bxC, bsC, AV.cells, un, most, callsOf, List.contains_nil, List.contains_cons, beq_iff_eq, List.getElem?_cons_zero, List.getElem?_cons_succ, seval, Int.reducePow, ↓reduceIte, Nat.reduceEqDiff, reduceCtorEq, and_self]
    refine (num_pu g 0).go rfl ?_
    rintro v rfl
    simp only [R0, R1, R2, R3, R4, R5, R6, R7, bxC, bsC, AV.cells, un, most, callsOf, List.contains_nil, List.contains_cons, beq_iff_eq, List.getElem?_cons_zero, List.getElem?_cons_succ, seval, Int.reducePow, ↓reduceIte, Nat.reduceEqDiff, reduceCtorEq, and_self]
    refine (num_pu g 1100).go rfl ?_
    rintro v rfl
    simp only [R0, R1, R2, R3, R4, R5, R6, R7, bxC, bsC, AV.cells, un, most, callsOf, List.contains_nil, List.contains_cons, beq_iff_eq, List.getElem?_cons_zero, List.getElem?_cons_succ, seval, Int.reducePow, ↓reduceIte, Nat.reduceEqDiff, reduceCtorEq, and_self]
  · simp only [RW, hw, a1, a2, a3, a4, a5, a6, R0, R1, R2, R3, R4, R5, R6, R7, bxC, bsC, AV.cells, un, most, callsOf, List.contains_nil, List.contains_cons, beq_iff_eq, List.getElem?_cons_zero, List.getElem?_cons_succ, seval, Int.reducePow, ↓reduceIte, Nat.reduceEqDiff, reduceCtorEq, and_self]
    refine (put_bad g (r := ⟨1, 7 + D, 2, 3, false, ⟨0, [], []⟩, opsG⟩) (recC (1) (7 + D) (2) (3) false (0) opsC_is) (no_one rfl fun h _ _ _ _ _ => by simp only [txOk] at h; omega)).one (by kernel_rfl) ?_
    rintro v rfl
    simp only [R0, R1, R2, R3, R4, R5, R6, R7, bxC, bsC, AV.cells, un, most, callsOf, List.contains_nil, List.contains_cons, beq_iff_eq, List.getElem?_cons_zero, List.getElem?_cons_succ, seval, Int.reducePow, ↓reduceIte, Nat.reduceEqDiff, reduceCtorEq, and_self]
    refine (num_pu g 0).go rfl ?_
    rintro v rfl
    simp only [R0, R1, R2, R3, R4, R5, R6, R7, bxC, bsC, AV.cells, un, most, callsOf, List.contains_nil, List.contains_cons, beq_iff_eq, List.getElem?_cons_zero, List.getElem?_cons_succ, seval, Int.reducePow, ↓reduceIte, Nat.reduceEqDiff, reduceCtorEq, and_self]
    refine (num_pu g 1100).go rfl ?_
    rintro v rfl
    simp only [R0, R1, R2, R3, R4, R5, R6, R7, bxC, bsC, AV.cells, un, most, callsOf, List.contains_nil, List.contains_cons, beq_iff_eq, List.getElem?_cons_zero, List.getElem?_cons_succ, seval, Int.reducePow, ↓reduceIte, Nat.reduceEqDiff, reduceCtorEq, and_self]
  · simp only [RW, hw, a1, a2, a3, a4, a5, a6, R0, R1, R2, R3, R4, R5, R6, R7, bxC, bsC, AV.cells, un, most, callsOf, List.contains_nil, List.contains_cons, beq_iff_eq, List.getElem?_cons_zero, List.getElem?_cons_succ, seval, Int.reducePow, ↓reduceIte, Nat.reduceEqDiff, reduceCtorEq, and_self]
    refine (put_bad g (r := ⟨1, 1, 1 - D, 3, false, ⟨0, [], []⟩, opsG⟩) (recC (1) (1) (1 - D) (3) false (0) opsC_is) (no_one rfl fun h _ _ _ _ _ => by simp only [txOk] at h; omega)).one (by kernel_rfl) ?_
    rintro v rfl
    simp only [R0, R1, R2, R3, R4, R5, R6, R7, bxC, bsC, AV.cells, un, most, callsOf, List.contains_nil, List.contains_cons, beq_iff_eq, List.getElem?_cons_zero, List.getElem?_cons_succ, seval, Int.reducePow, ↓reduceIte, Nat.reduceEqDiff, reduceCtorEq, and_self]
    refine (num_pu g 0).go rfl ?_
    rintro v rfl
    simp only [R0, R1, R2, R3, R4, R5, R6, R7, bxC, bsC, AV.cells, un, most, callsOf, List.contains_nil, List.contains_cons, beq_iff_eq, List.getElem?_cons_zero, List.getElem?_cons_succ, seval, Int.reducePow, ↓reduceIte, Nat.reduceEqDiff, reduceCtorEq, and_self]
    refine (num_pu g 1100).go rfl ?_
    rintro v rfl
    simp only [R0, R1, R2, R3, R4, R5, R6, R7, bxC, bsC, AV.cells, un, most, callsOf, List.contains_nil, List.contains_cons, beq_iff_eq, List.getElem?_cons_zero, List.getElem?_cons_succ, seval, Int.reducePow, ↓reduceIte, Nat.reduceEqDiff, reduceCtorEq, and_self]
  · simp only [RW, hw, a1, a2, a3, a4, a5, a6, R0, R1, R2, R3, R4, R5, R6, R7, bxC, bsC, AV.cells, un, most, callsOf, List.contains_nil, List.contains_cons, beq_iff_eq, List.getElem?_cons_zero, List.getElem?_cons_succ, seval, Int.reducePow, ↓reduceIte, Nat.reduceEqDiff, reduceCtorEq, and_self]
    refine (put_bad g (r := ⟨1, 1, 65535 + D, 3, false, ⟨0, [], []⟩, opsG⟩) (recC (1) (1) (65535 + D) (3) false (0) opsC_is) (no_one rfl fun h _ _ _ _ _ => by simp only [txOk] at h; omega)).one (by kernel_rfl) ?_
    rintro v rfl
    simp only [R0, R1, R2, R3, R4, R5, R6, R7, bxC, bsC, AV.cells, un, most, callsOf, List.contains_nil, List.contains_cons, beq_iff_eq, List.getElem?_cons_zero, List.getElem?_cons_succ, seval, Int.reducePow, ↓reduceIte, Nat.reduceEqDiff, reduceCtorEq, and_self]
    refine (num_pu g 0).go rfl ?_
    rintro v rfl
    simp only [R0, R1, R2, R3, R4, R5, R6, R7, bxC, bsC, AV.cells, un, most, callsOf, List.contains_nil, List.contains_cons, beq_iff_eq, List.getElem?_cons_zero, List.getElem?_cons_succ, seval, Int.reducePow, ↓reduceIte, Nat.reduceEqDiff, reduceCtorEq, and_self]
    refine (num_pu g 1100).go rfl ?_
    rintro v rfl
    simp only [R0, R1, R2, R3, R4, R5, R6, R7, bxC, bsC, AV.cells, un, most, callsOf, List.contains_nil, List.contains_cons, beq_iff_eq, List.getElem?_cons_zero, List.getElem?_cons_succ, seval, Int.reducePow, ↓reduceIte, Nat.reduceEqDiff, reduceCtorEq, and_self]
  · simp only [RW, hw, a1, a2, a3, a4, a5, a6, R0, R1, R2, R3, R4, R5, R6, R7, bxC, bsC, AV.cells, un, most, callsOf, List.contains_nil, List.contains_cons, beq_iff_eq, List.getElem?_cons_zero, List.getElem?_cons_succ, seval, Int.reducePow, ↓reduceIte, Nat.reduceEqDiff, reduceCtorEq, and_self]
    refine (put_bad g (r := ⟨1, 1, 2, -1 - D, false, ⟨0, [], []⟩, opsG⟩) (recC (1) (1) (2) (-1 - D) false (0) opsC_is) (no_one rfl fun _ h _ _ _ _ => by simp only at h; omega)).one (by kernel_rfl) ?_
    rintro v rfl
    simp only [R0, R1, R2, R3, R4, R5, R6, R7, bxC, bsC, AV.cells, un, most, callsOf, List.contains_nil, List.contains_cons, beq_iff_eq, List.getElem?_cons_zero, List.getElem?_cons_succ, seval, Int.reducePow, ↓reduceIte, Nat.reduceEqDiff, reduceCtorEq, and_self]
    refine (num_pu g 0).go rfl ?_
    rintro v rfl
    simp only [R0, R1, R2, R3, R4, R5, R6, R7, bxC, bsC, AV.cells, un, most, callsOf, List.contains_nil, List.contains_cons, beq_iff_eq, List.getElem?_cons_zero, List.getElem?_cons_succ, seval, Int.reducePow, ↓reduceIte, Nat.reduceEqDiff, reduceCtorEq, and_self]
    refine (num_pu g 1100).go rfl ?_
    rintro v rfl
    simp only [R0, R1, R2, R3, R4, R5, R6, R7, bxC, bsC, AV.cells, un, most, callsOf, List.contains_nil, List.contains_cons, beq_iff_eq, List.getElem?_cons_zero, List.getElem?_cons_succ, seval, Int.reducePow, ↓reduceIte, Nat.reduceEqDiff, reduceCtorEq, and_self]
  · simp only [RW, hw, a1, a2, a3, a4, a5, a6, R0, R1, R2, R3, R4, R5, R6, R7, bxC, bsC, AV.cells, un, most, callsOf, List.contains_nil, List.contains_cons, beq_iff_eq, List.getElem?_cons_zero, List.getElem?_cons_succ, seval, Int.reducePow, ↓reduceIte, Nat.reduceEqDiff, reduceCtorEq, and_self]
    refine (put_bad g (r := ⟨1, 1, 2, 65535 + D, false, ⟨0, [], []⟩, opsG⟩) (recC (1) (1) (2) (65535 + D) false (0) opsC_is) (no_one rfl fun _ _ h _ _ _ => by simp only at h; omega)).one (by kernel_rfl) ?_
    rintro v rfl
    simp only [R0, R1, R2, R3, R4, R5, R6, R7, bxC, bsC, AV.cells, un, most, callsOf, List.contains_nil, List.contains_cons, beq_iff_eq, List.getElem?_cons_zero, List.getElem?_cons_succ, seval, Int.reducePow, ↓reduceIte, Nat.reduceEqDiff, reduceCtorEq, and_self]
    refine (num_pu g 0).go rfl ?_
    rintro v rfl
    simp only [R0, R1, R2, R3, R4, R5, R6, R7, bxC, bsC, AV.cells, un, most, callsOf, List.contains_nil, List.contains_cons, beq_iff_eq, List.getElem?_cons_zero, List.getElem?_cons_succ, seval, Int.reducePow, ↓reduceIte, Nat.reduceEqDiff, reduceCtorEq, and_self]
    refine (num_pu g 1100).go rfl ?_
    rintro v rfl
    simp only [R0, R1, R2, R3, R4, R5, R6, R7, bxC, bsC, AV.cells, un, most, callsOf, List.contains_nil, List.contains_cons, beq_iff_eq, List.getElem?_cons_zero, List.getElem?_cons_succ, seval, Int.reducePow, ↓reduceIte, Nat.reduceEqDiff, reduceCtorEq, and_self]
  · simp only [RW, hw, a1, a2, a3, a4, a5, a6, R0, R1, R2, R3, R4, R5, R6, R7, bxC, bsC, AV.cells, un, most, callsOf, List.contains_nil, List.contains_cons, beq_iff_eq, List.getElem?_cons_zero, List.getElem?_cons_succ, seval, Int.reducePow, ↓reduceIte, Nat.reduceEqDiff, reduceCtorEq, and_self]
    refine (put_bad g (r := ⟨1, 1, 2, 3, true, ⟨0, [], []⟩, opsG⟩) (recC (1) (1) (2) (3) true (0) opsC_is) (no_one rfl fun _ _ _ _ h _ => by cases h)).one (by kernel_rfl) ?_
    rintro v rfl
    simp only [R0, R1, R2, R3, R4, R5, R6, R7, bxC, bsC, AV.cells, un, most, callsOf, List.contains_nil, List.contains_cons, beq_iff_eq, List.getElem?_cons_zero, List.getElem?_cons_succ, seval, Int.reducePow, ↓reduceIte, Nat.reduceEqDiff, reduceCtorEq, and_self]
    refine (num_pu g 0).go rfl ?_
    rintro v rfl
    simp only [R0, R1, R2, R3, R4, R5, R6, R7, bxC, bsC, AV.cells, un, most, callsOf, List.contains_nil, List.contains_cons, beq_iff_eq, List.getElem?_cons_zero, List.getElem?_cons_succ, seval, Int.reducePow, ↓reduceIte, Nat.reduceEqDiff, reduceCtorEq, and_self]
    refine (num_pu g 1100).go rfl ?_
    rintro v rfl
    simp only [R0, R1, R2, R3, R4, R5, R6, R7, bxC, bsC, AV.cells, un, most, callsOf, List.contains_nil, List.contains_cons, beq_iff_eq, List.getElem?_cons_zero, List.getElem?_cons_succ, seval, Int.reducePow, ↓reduceIte, Nat.reduceEqDiff, reduceCtorEq, and_self]
  · simp only [RW, hw, a1, a2, a3, a4, a5, a6, R0, R1, R2, R3, R4, R5, R6, R7, bxC, bsC, AV.cells, un, most, callsOf, List.contains_nil, List.contains_cons, beq_iff_eq, List.getElem?_cons_zero, List.getElem?_cons_succ, seval, Int.reducePow, ↓reduceIte, Nat.reduceEqDiff, reduceCtorEq, and_self]
    refine (put_bad g (r := ⟨1, 1, 2, 3, false, ⟨D, [], []⟩, opsG⟩) (recC (1) (1) (2) (3) false (D) opsC_is) (no_one rfl fun _ _ _ _ _ h => by have := h.1; simp only at this; omega)).one (by kernel_rfl) ?_
    rintro v rfl
    simp only [R0, R1, R2, R3, R4, R5, R6, R7, bxC, bsC, AV.cells, un, most, callsOf, List.contains_nil, List.contains_cons, beq_iff_eq, List.getElem?_cons_zero, List.getElem?_cons_succ, seval, Int.reducePow, ↓reduceIte, Nat.reduceEqDiff, reduceCtorEq, and_self]
    refine (num_pu g 0).go rfl ?_
    rintro v rfl
    simp only [R0, R1, R2, R3, R4, R5, R6, R7, bxC, bsC, AV.cells, un, most, callsOf, List.contains_nil, List.contains_cons, beq_iff_eq, List.getElem?_cons_zero, List.getElem?_cons_succ, seval, Int.reducePow, ↓reduceIte, Nat.reduceEqDiff, reduceCtorEq, and_self]
    refine (num_pu g 1100).go rfl ?_
    rintro v rfl
    simp only [R0, R1, R2, R3, R4, R5, R6, R7, bxC, bsC, AV.cells, un, most, callsOf, List.contains_nil, List.contains_cons, beq_iff_eq, List.getElem?_cons_zero, List.getElem?_cons_succ, seval, Int.reducePow, ↓reduceIte, Nat.reduceEqDiff, reduceCtorEq, and_self]
  · simp only [RW, hw, a1, a2, a3, a4, a5, a6, R0, R1, R2, R3, R4, R5, R6, R7, bxC, bsC, AV.cells, un, most, callsOf, List.contains_nil, List.contains_cons, beq_iff_eq, List.getElem?_cons_zero, List.getElem?_cons_succ, seval, Int.reducePow, ↓reduceIte, Nat.reduceEqDiff, reduceCtorEq, and_self]
    refine (put_bad g (r := ⟨1, 1, 2, 3, false, ⟨0, [], []⟩, []⟩) (recC (1) (1) (2) (3) false (0) (isL_nil 112 ROp)) (no_one rfl fun _ _ _ h _ _ => by have := h.1; simp at this)).one (by kernel_rfl) ?_
    rintro v rfl
    simp only [R0, R1, R2, R3, R4, R5, R6, R7, bxC, bsC, AV.cells, un, most, callsOf, List.contains_nil, List.contains_cons, beq_iff_eq, List.getElem?_cons_zero, List.getElem?_cons_succ, seval, Int.reducePow, ↓reduceIte, Nat.reduceEqDiff, reduceCtorEq, and_self]
    refine (num_pu g 0).go rfl ?_
    rintro v rfl
    simp only [R0, R1, R2, R3, R4, R5, R6, R7, bxC, bsC, AV.cells, un, most, callsOf, List.contains_nil, List.contains_cons, beq_iff_eq, List.getElem?_cons_zero, List.getElem?_cons_succ, seval, Int.reducePow, ↓reduceIte, Nat.reduceEqDiff, reduceCtorEq, and_self]
    refine (num_pu g 1100).go rfl ?_
    rintro v rfl
    simp only [R0, R1, R2, R3, R4, R5, R6, R7, bxC, bsC, AV.cells, un, most, callsOf, List.contains_nil, List.contains_cons, beq_iff_eq, List.getElem?_cons_zero, List.getElem?_cons_succ, seval, Int.reducePow, ↓reduceIte, Nat.reduceEqDiff, reduceCtorEq, and_self]
  · simp only [RW, hw, a1, a2, a3, a4, a5, a6, R0, R1, R2, R3, R4, R5, R6, R7, bxC, bsC, AV.cells, un, most, callsOf, List.contains_nil, List.contains_cons, beq_iff_eq, List.getElem?_cons_zero, List.getElem?_cons_succ, seval, Int.reducePow, ↓reduceIte, Nat.reduceEqDiff, reduceCtorEq, and_self]
    refine (put_bad g (r := ⟨1, 1, 2, 3, false, ⟨0, [], []⟩, [⟨0, f5, 0, m0⟩, ⟨1, ⟨0, 0, []⟩, 5, m0⟩]⟩) (recC (1) (1) (2) (3) false (0) (two_is (putOp i0) (delOp i5))) (no_one rfl fun _ _ _ h _ _ => absurd rfl ((h.2.2 1 (by decide)).2.2 (by decide) 0 (by decide)))).one (by kernel_rfl) ?_
    rintro v rfl
    simp only [R0, R1, R2, R3, R4, R5, R6, R7, bxC, bsC, AV.cells, un, most, callsOf, List.contains_nil, List.contains_cons, beq_iff_eq, List.getElem?_cons_zero, List.getElem?_cons_succ, seval, Int.reducePow, ↓reduceIte, Nat.reduceEqDiff, reduceCtorEq, and_self]
    refine (num_pu g 0).go rfl ?_
    rintro v rfl
    simp only [R0, R1, R2, R3, R4, R5, R6, R7, bxC, bsC, AV.cells, un, most, callsOf, List.contains_nil, List.contains_cons, beq_iff_eq, List.getElem?_cons_zero, List.getElem?_cons_succ, seval, Int.reducePow, ↓reduceIte, Nat.reduceEqDiff, reduceCtorEq, and_self]
    refine (num_pu g 1100).go rfl ?_
    rintro v rfl
    simp only [R0, R1, R2, R3, R4, R5, R6, R7, bxC, bsC, AV.cells, un, most, callsOf, List.contains_nil, List.contains_cons, beq_iff_eq, List.getElem?_cons_zero, List.getElem?_cons_succ, seval, Int.reducePow, ↓reduceIte, Nat.reduceEqDiff, reduceCtorEq, and_self]
  · simp only [RW, hw, a1, a2, a3, a4, a5, a6, R0, R1, R2, R3, R4, R5, R6, R7, bxC, bsC, AV.cells, un, most, callsOf, List.contains_nil, List.contains_cons, beq_iff_eq, List.getElem?_cons_zero, List.getElem?_cons_succ, seval, Int.reducePow, ↓reduceIte, Nat.reduceEqDiff, reduceCtorEq, and_self]
    refine (put_bad g (r := ⟨1, 1, 2, 3, false, ⟨0, [], []⟩, [⟨0, f5, D, m0⟩, ⟨1, ⟨0, 0, []⟩, 9, m0⟩]⟩) (recC (1) (1) (2) (3) false (0) (two_is (putOp (i64c (by omega) (by omega))) (delOp i9))) (no_one rfl fun _ _ _ h _ _ => by rcases (h.2.2 0 (show 0 < 2 by decide)).1 with ⟨_, _, k, _⟩ | ⟨k, _⟩ | ⟨k, _⟩ <;> simp [List.getD] at k <;> omega)).one (by kernel_rfl) ?_
    rintro v rfl
    simp only [R0, R1, R2, R3, R4, R5, R6, R7, bxC, bsC, AV.cells, un, most, callsOf, List.contains_nil, List.contains_cons, beq_iff_eq, List.getElem?_cons_zero, List.getElem?_cons_succ, seval, Int.reducePow, ↓reduceIte, Nat.reduceEqDiff, reduceCtorEq, and_self]
    refine (num_pu g 0).go rfl ?_
    rintro v rfl
    simp only [R0, R1, R2, R3, R4, R5, R6, R7, bxC, bsC, AV.cells, un, most, callsOf, List.contains_nil, List.contains_cons, beq_iff_eq, List.getElem?_cons_zero, List.getElem?_cons_succ, seval, Int.reducePow, ↓reduceIte, Nat.reduceEqDiff, reduceCtorEq, and_self]
    refine (num_pu g 1100).go rfl ?_
    rintro v rfl
    simp only [R0, R1, R2, R3, R4, R5, R6, R7, bxC, bsC, AV.cells, un, most, callsOf, List.contains_nil, List.contains_cons, beq_iff_eq, List.getElem?_cons_zero, List.getElem?_cons_succ, seval, Int.reducePow, ↓reduceIte, Nat.reduceEqDiff, reduceCtorEq, and_self]
  · simp only [RW, hw, a1, a2, a3, a4, a5, a6, R0, R1, R2, R3, R4, R5, R6, R7, bxC, bsC, AV.cells, un, most, callsOf, List.contains_nil, List.contains_cons, beq_iff_eq, List.getElem?_cons_zero, List.getElem?_cons_succ, seval, Int.reducePow, ↓reduceIte, Nat.reduceEqDiff, reduceCtorEq, and_self]
    refine (put_bad g (r := ⟨1, 1, 2, 3, false, ⟨0, [], []⟩, [⟨0, f5, 0, m0⟩, ⟨1, f5, 9, m0⟩]⟩) (recC (1) (1) (2) (3) false (0) (two_is (putOp i0) (⟨_, _, _, rfl, i1, i5, i0, ring5_is, i9, i0, isL_nil _ _, isL_nil _ _⟩ : ROp ⟨1, f5, 9, m0⟩ [.int .i64 1, .int .i64 5, .int .i64 0, ring5, .int .i64 9, .int .i64 0, .nils, .nils]))) (no_one rfl fun _ _ _ h _ _ => by rcases (h.2.2 1 (by decide)).1 with ⟨k, _⟩ | ⟨_, _, _, k, _⟩ | ⟨k, _⟩ <;> simp [List.getD, ftZero, f5] at k)).one (by kernel_rfl) ?_
    rintro v rfl
    simp only [R0, R1, R2, R3, R4, R5, R6, R7, bxC, bsC, AV.cells, un, most, callsOf, List.contains_nil, List.contains_cons, beq_iff_eq, List.getElem?_cons_zero, List.getElem?_cons_succ, seval, Int.reducePow, ↓reduceIte, Nat.reduceEqDiff, reduceCtorEq, and_self]
    refine (num_pu g 0).go rfl ?_
    rintro v rfl
    simp only [R0, R1, R2, R3, R4, R5, R6, R7, bxC, bsC, AV.cells, un, most, callsOf, List.contains_nil, List.contains_cons, beq_iff_eq, List.getElem?_cons_zero, List.getElem?_cons_succ, seval, Int.reducePow, ↓reduceIte, Nat.reduceEqDiff, reduceCtorEq, and_self]
    refine (num_pu g 1100).go rfl ?_
    rintro v rfl
    simp only [R0, R1, R2, R3, R4, R5, R6, R7, bxC, bsC, AV.cells, un, most, callsOf, List.contains_nil, List.contains_cons, beq_iff_eq, List.getElem?_cons_zero, List.getElem?_cons_succ, seval, Int.reducePow, ↓reduceIte, Nat.reduceEqDiff, reduceCtorEq, and_self]
  · simp only [RW, hw, a1, a2, a3, a4, a5, a6, R0, R1, R2, R3, R4, R5, R6, R7, bxC, bsC, AV.cells, un, most, callsOf, List.contains_nil, List.contains_cons, beq_iff_eq, List.getElem?_cons_zero, List.getElem?_cons_succ, seval, Int.reducePow, ↓reduceIte, Nat.reduceEqDiff, reduceCtorEq, and_self]
    simp +contextual (maxSteps := 2000000) (disch := omega) only [RW, appendV, lenV, cellsOf, cut_eq, most2, R0, R1, R2, R3, R4, R5, R6, R7, bxC, bsC, AV.cells, un, most, callsOf, List.contains_nil, List.contains_cons, beq_iff_eq, List.getElem?_cons_zero, List.getElem?_cons_succ, seval, Int.reducePow, ↓reduceIte, Nat.reduceEqDiff, reduceCtorEq, and_self]
    refine (put_bad g (r := ⟨1, 1, 2, 3, false, ⟨0, [], []⟩, [⟨0, f5, 0, m0⟩, ⟨1, ⟨0, 0, []⟩, 9, m0⟩, ⟨2, ⟨0, 0, []⟩, 0, ⟨1, [0], [0]⟩⟩]⟩) (recC (1) (1) (2) (3) false (0) three_is) (no_one rfl fun _ _ _ h _ _ => absurd ((h.2.2 2 (by decide)).2.1 rfl) (by decide))).one (by kernel_rfl) ?_
    rintro v rfl
    simp only [R0, R1, R2, R3, R4, R5, R6, R7, bxC, bsC, AV.cells, un, most, callsOf, List.contains_nil, List.contains_cons, beq_iff_eq, List.getElem?_cons_zero, List.getElem?_cons_succ, seval, Int.reducePow, ↓reduceIte, Nat.reduceEqDiff, reduceCtorEq, and_self]
    refine (num_pu g 0).go rfl ?_
    rintro v rfl
    simp only [R0, R1, R2, R3, R4, R5, R6, R7, bxC, bsC, AV.cells, un, most, callsOf, List.contains_nil, List.contains_cons, beq_iff_eq, List.getElem?_cons_zero, List.getElem?_cons_succ, seval, Int.reducePow, ↓reduceIte, Nat.reduceEqDiff, reduceCtorEq, and_self]
    refine (num_pu g 1100).go rfl ?_
    rintro v rfl
    simp only [R0, R1, R2, R3, R4, R5, R6, R7, bxC, bsC, AV.cells, un, most, callsOf, List.contains_nil, List.contains_cons, beq_iff_eq, List.getElem?_cons_zero, List.getElem?_cons_succ, seval, Int.reducePow, ↓reduceIte, Nat.reduceEqDiff, reduceCtorEq, and_self]
  · simp only [RW, hw, a1, a2, a3, a4, a5, a6, R0, R1, R2, R3, R4, R5, R6, R7, bxC, bsC, AV.cells, un, most, callsOf, List.contains_nil, List.contains_cons, beq_iff_eq, List.getElem?_cons_zero, List.getElem?_cons_succ, seval, Int.reducePow, ↓reduceIte, Nat.reduceEqDiff, reduceCtorEq, and_self]
    simp +contextual (maxSteps := 2000000) (disch := omega) only [RW, a7, R0, R1, R2, R3, R4, R5, R6, R7, bxC, bsC, AV.cells, un, most, callsOf, List.contains_nil, List.contains_cons, beq_iff_eq, List.getElem?_cons_zero, List.getElem?_cons_succ, seval, Int.reducePow, ↓reduceIte, Nat.reduceEqDiff, reduceCtorEq, and_self]
    have hn : (32 + D).toNat ≤ 1000 := by omega
    refine (put_bad g (r := ⟨1, 1, 2, 3, false, ⟨0, [], []⟩, List.replicate (32 + D).toNat op0⟩) (recC (1) (1) (2) (3) false (0) (rep_is _ hn)) (no_one rfl fun _ _ _ h _ _ => by have := h.2.1; simp only [List.length_replicate] at this; omega)).cl (.cons (one15 (by omega) hn (by rfl)) .nil) ?_
    rintro v rfl
    simp only [R0, R1, R2, R3, R4, R5, R6, R7, bxC, bsC, AV.cells, un, most, callsOf, List.contains_nil, List.contains_cons, beq_iff_eq, List.getElem?_cons_zero, List.getElem?_cons_succ, seval, Int.reducePow, ↓reduceIte, Nat.reduceEqDiff, reduceCtorEq, and_self]
    refine (num_pu g 0).go rfl ?_
    rintro v rfl
    simp only [R0, R1, R2, R3, R4, R5, R6, R7, bxC, bsC, AV.cells, un, most, callsOf, List.contains_nil, List.contains_cons, beq_iff_eq, List.getElem?_cons_zero, List.getElem?_cons_succ, seval, Int.reducePow, ↓reduceIte, Nat.reduceEqDiff, reduceCtorEq, and_self]
    refine (num_pu g 1100).go rfl ?_
    rintro v rfl
    simp only [R0, R1, R2, R3, R4, R5, R6, R7, bxC, bsC, AV.cells, un, most, callsOf, List.contains_nil, List.contains_cons, beq_iff_eq, List.getElem?_cons_zero, List.getElem?_cons_succ, seval, Int.reducePow, ↓reduceIte, Nat.reduceEqDiff, reduceCtorEq, and_self]
  · simp only [RW, hw, a1, a2, a3, a4, a5, a6, R0, R1, R2, R3, R4, R5, R6, R7, bxC, bsC, AV.cells, un, most, callsOf, List.contains_nil, List.contains_cons, beq_iff_eq, List.getElem?_cons_zero, List.getElem?_cons_succ, seval, Int.reducePow, ↓reduceIte, Nat.reduceEqDiff, reduceCtorEq, and_self]
    refine (put_bad g (r := ⟨3, 1, 2, 3, false, ⟨0, [], []⟩, opsG⟩) (recC (3) (1) (2) (3) false (0) opsC_is) (by rintro (⟨k, _⟩ | ⟨k | k, _⟩ | ⟨_, _, k, _⟩ | ⟨k, _⟩) <;> simp at k)).one (by kernel_rfl) ?_
    rintro v rfl
    simp only [R0, R1, R2, R3, R4, R5, R6, R7, bxC, bsC, AV.cells, un, most, callsOf, List.contains_nil, List.contains_cons, beq_iff_eq, List.getElem?_cons_zero, List.getElem?_cons_succ, seval, Int.reducePow, ↓reduceIte, Nat.reduceEqDiff, reduceCtorEq, and_self]
    refine (num_pu g 0).go rfl ?_
    rintro v rfl
    simp only [R0, R1, R2, R3, R4, R5, R6, R7, bxC, bsC, AV.cells, un, most, callsOf, List.contains_nil, List.contains_cons, beq_iff_eq, List.getElem?_cons_zero, List.getElem?_cons_succ, seval, Int.reducePow, ↓reduceIte, Nat.reduceEqDiff, reduceCtorEq, and_self]
    refine (num_pu g 1100).go rfl ?_
    rintro v rfl
    simp only [R0, R1, R2, R3, R4, R5, R6, R7, bxC, bsC, AV.cells, un, most, callsOf, List.contains_nil, List.contains_cons, beq_iff_eq, List.getElem?_cons_zero, List.getElem?_cons_succ, seval, Int.reducePow, ↓reduceIte, Nat.reduceEqDiff, reduceCtorEq, and_self]
end
end Go.Proofs.Ytinonmcnofjeeaa.VM
