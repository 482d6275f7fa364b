/- RecordRows: how records of each kind are laid. -/
import Derived.Test.YtinonmcnofjeeaaL11PutC
import Derived.Test.YtinonmcnofjeeaaL11Forms
namespace Go.Proofs.Ytinonmcnofjeeaa.VM
set_option linter.unusedSimpArgs false
set_option linter.unusedVariables false
set_option linter.defProp false
set_option maxHeartbeats 1000000
attribute [local irreducible] Af Nx EvO Ev Un Gd Cd EvR EvQ EvC Nc Gc Lp
theorem putAns_of {r : Rc} {l : List Nat} (e : recB r = l) (h : l.length ≤ 8192) : putAns r = .tup [.str l, .int .i64 0] := by rw [putAns, e, if_pos h]
def nmOf (A S : Int) : List Nat := [(A % 256).toNat, (S / 256 % 256).toNat, (S % 256).toNat]
theorem txB_nm (A S : Int) : txB A S = nmOf A S := by simp [txB, numB, nmOf]
theorem mapRow (E : Int) (h1 : 1 ≤ E) (h2 : E ≤ 40000) : mpOk 8 ⟨E, [0, 258], [3, 4]⟩ := by
  refine ⟨by decide, by decide, by simp only; omega, by simp only; omega, show 1 ≤ 2 by decide, show 2 ≤ 32 by decide, rfl, rfl, ?_⟩
  intro i hi
  have : i < 2 := hi
  rcases (by omega : i = 0 ∨ i = 1) with rfl | rfl
  · exact ⟨show (0 : Int) < 4294967296 by decide, .inl rfl, show (0 : Int) ≤ 3 by decide, show (3 : Int) < 8 by decide⟩
  · exact ⟨show (258 : Int) < 4294967296 by decide, .inr (show (0 : Int) < 258 by decide), show (0 : Int) ≤ 4 by decide, show (4 : Int) < 8 by decide⟩
theorem two_ints {x y : Int} (hx : I64 x) (hy : I64 y) : IsL 8 RInt (.rs [.int .i64 x, .int .i64 y] 2) [x, y] :=
  isL_rs (R := RInt) (l := [x, y]) (c := [.int .i64 x, .int .i64 y]) (.cons (c := [.int .i64 x]) ⟨rfl, hx⟩ (.cons (c := [.int .i64 y]) ⟨rfl, hy⟩ .nil)) (show 2 * 8 ≤ reachBytes by decide)
theorem one_is {id : Int} (h : I64 id) : IsL 112 ROp (.rs [.int .i64 1, .int .i64 0, .int .i64 0, .nils, .int .i64 id, .int .i64 0, .nils, .nils] 1) [⟨1, ⟨0, 0, []⟩, id, m0⟩] :=
  isL_rs (l := [(⟨1, ⟨0, 0, []⟩, id, m0⟩ : Op)]) (.cons (delOp h) .nil) (show 1 * 112 ≤ reachBytes by decide)
section
variable {P : Program}
theorem rows_pu (g : Pg P tab) (node seq id epoch : Int) : Pu P 5 [.int .i64 node, .int .i64 seq, .int .i64 id, .int .i64 epoch] (fun v => v = .bool true) := by
  refine g.pu (vf := v5) rfl rfl ?_
  simp only [v5, R0, R1, R2, R3, R4, R5, R6, R7, bxC, bsC, AV.cells, un, most, callsOf, List.contains_nil, List.contains_cons, beq_iff_eq, List.getElem?_cons_zero, List.getElem?_cons_succ, seval, Int.reducePow, ↓reduceIte, Nat.reduceEqDiff, reduceCtorEq, and_self]
  refine (awake_pu g).go rfl ?_
  rintro v rfl
  obtain ⟨A, hA1, hA2, hA⟩ : ∃ A : Int, 0 ≤ A ∧ A < 8 ∧ bitsOf .and .i64 node 7 = A := by
    have h1 := and_any node (n := 3) (by decide)
    have h2 := Nat.mod_lt (node % 18446744073709551616).toNat (show 0 < 2 ^ 3 by decide)
    exact ⟨_, by omega, by omega, h1⟩
  have any15 : ∀ x : Int, ∃ S : Int, 1 ≤ S ∧ S ≤ 32768 ∧ IntKind.i64.wrap (1 + bitsOf .and .i64 x 32767) = S := by
    intro x
    have h1 := and_any x (n := 15) (by decide)
    have h2 := Nat.mod_lt (x % 18446744073709551616).toNat (show 0 < 2 ^ 15 by decide)
    have h3 : bitsOf .and .i64 x 32767 = (((x % 18446744073709551616).toNat % 2 ^ 15 : Nat) : Int) := by simpa using h1
    rw [h3]
    refine ⟨_, ?_, ?_, w64 (by omega) (by omega)⟩ <;> omega
  obtain ⟨S, hS1, hS2, hS⟩ := any15 seq
  obtain ⟨K, hK1, hK2, hK⟩ := any15 id
  obtain ⟨E, hE1, hE2, hE⟩ := any15 epoch
  simp only [RW, RS, hA, hS, hK, hE, R0, R1, R2, R3, R4, R5, R6, R7, bxC, bsC, AV.cells, un, most, callsOf, List.contains_nil, List.contains_cons, beq_iff_eq, List.getElem?_cons_zero, List.getElem?_cons_succ, seval, Int.reducePow, ↓reduceIte, Nat.reduceEqDiff, reduceCtorEq, and_self]
  rw [cvT_sl (by rfl) (by rfl)]
  have q1 : putAns ⟨4, A, S, 0, false, m0, []⟩ = .tup [.str (4 :: nmOf A S), .int .i64 0] := putAns_of (by simp [recB, txB_nm, numB]) (by simp [nmOf])
  have q2 : putAns ⟨3, A, S, 0, false, m0, []⟩ = .tup [.str (3 :: (nmOf A S ++ [0])), .int .i64 0] := putAns_of (by simp [recB, txB_nm, numB, bitB]) (by simp [nmOf])
  have q3 : putAns ⟨1, A, S, -1, false, m0, [⟨1, ⟨0, 0, []⟩, K, m0⟩]⟩ = .tup [.str (1 :: (nmOf A S ++ [0, 0, 0, 0, 1, 1, (K / 256 % 256).toNat, (K % 256).toNat])), .int .i64 0] := putAns_of (by simp [recB, txB_nm, numB, opsB, opB]) (by simp [nmOf])
  have q4 : putAns ⟨0, 0, 0, 0, false, ⟨E, [0, 258], [3, 4]⟩, []⟩ = .tup [.str (0 :: (E / 256 % 256).toNat :: (E % 256).toNat :: [2, 0, 0, 0, 0, 0, 0, 1, 2, 3, 4]), .int .i64 0] := putAns_of (by simp [recB, numB, mpB]) (by simp)
  have tx : txOk A S := ⟨hA1, hA2, hS1, by omega⟩
  have mz : mpZero m0 := ⟨rfl, rfl, rfl⟩
  simp only [RW, RS, mb_nil, mb_cons, Option.map_some, hK, hE, R0, R1, R2, R3, R4, R5, R6, R7, bxC, bsC, AV.cells, un, most, callsOf, List.contains_nil, List.contains_cons, beq_iff_eq, List.getElem?_cons_zero, List.getElem?_cons_succ, seval, Int.reducePow, ↓reduceIte, Nat.reduceEqDiff, reduceCtorEq, and_self]
  refine (put_good g (r := ⟨4, A, S, 0, false, m0, []⟩) (recC 4 A S 0 false 0 (isL_nil 112 ROp)) (.inr (.inr (.inr ⟨rfl, tx, rfl, rfl, rfl, mz⟩)))).one (by kernel_rfl) ?_
  rintro v rfl
  rw [q1]
  simp only [RW, R0, R1, R2, R3, R4, R5, R6, R7, bxC, bsC, AV.cells, un, most, callsOf, List.contains_nil, List.contains_cons, beq_iff_eq, List.getElem?_cons_zero, List.getElem?_cons_succ, seval, Int.reducePow, ↓reduceIte, Nat.reduceEqDiff, reduceCtorEq, and_self]
  refine (put_good g (r := ⟨3, A, S, 0, false, m0, []⟩) (recC 3 A S 0 false 0 (isL_nil 112 ROp)) (.inr (.inr (.inl ⟨rfl, tx, rfl, rfl, mz⟩)))).one (by kernel_rfl) ?_
  rintro v rfl
  rw [q2]
  simp only [RW, R0, R1, R2, R3, R4, R5, R6, R7, bxC, bsC, AV.cells, un, most, callsOf, List.contains_nil, List.contains_cons, beq_iff_eq, List.getElem?_cons_zero, List.getElem?_cons_succ, seval, Int.reducePow, ↓reduceIte, Nat.reduceEqDiff, reduceCtorEq, and_self]
  have iK : I64 K := i64c (by omega) (by omega)
  refine (put_good g (r := ⟨1, A, S, -1, false, m0, [⟨1, ⟨0, 0, []⟩, K, m0⟩]⟩) (recC 1 A S (-1) false 0 (one_is iK)) (.inr (.inl ⟨.inl rfl, tx, show (-1 : Int) ≤ -1 by decide, show (-1 : Int) ≤ 65535 by decide, ?_, rfl, mz⟩))).one (by kernel_rfl) ?_
  · refine ⟨show 1 ≤ 1 by decide, show 1 ≤ 32 by decide, ?_⟩
    intro i hi
    have : i < 1 := hi
    have : i = 0 := by omega
    subst this
    exact ⟨.inr (.inl ⟨rfl, hK1, show K ≤ 65535 by omega, ⟨rfl, rfl, rfl⟩, mz⟩), fun _ => rfl, fun _ j hj => by omega⟩
  rintro v rfl
  rw [q3]
  simp only [RW, R0, R1, R2, R3, R4, R5, R6, R7, bxC, bsC, AV.cells, un, most, callsOf, List.contains_nil, List.contains_cons, beq_iff_eq, List.getElem?_cons_zero, List.getElem?_cons_succ, seval, Int.reducePow, ↓reduceIte, Nat.reduceEqDiff, reduceCtorEq, and_self]
  have iE : I64 E := i64c (by omega) (by omega)
  refine (put_good g (r := ⟨0, 0, 0, 0, false, ⟨E, [0, 258], [3, 4]⟩, []⟩) (c := [.int .i64 0, .int .i64 0, .int .i64 0, .int .i64 0, .bool false, .int .i64 E, .rs [.int .i64 0, .int .i64 258] 2, .rs [.int .i64 3, .int .i64 4] 2, .nils])
    ⟨_, _, _, rfl, two_ints i0 (i64c (by decide) (by decide)), two_ints (i64c (by decide) (by decide)) (i64c (by decide) (by decide)), isL_nil 112 ROp⟩ (.inl ⟨rfl, mapRow E hE1 (by omega), rfl, rfl, rfl, rfl, rfl⟩)).one (by kernel_rfl) ?_
  rintro v rfl
  rw [q4]
  simp only [RW, R0, R1, R2, R3, R4, R5, R6, R7, bxC, bsC, AV.cells, un, most, callsOf, List.contains_nil, List.contains_cons, beq_iff_eq, List.getElem?_cons_zero, List.getElem?_cons_succ, seval, Int.reducePow, ↓reduceIte, Nat.reduceEqDiff, reduceCtorEq, and_self]
  refine (num_pu g 0).go rfl ?_
  rintro v rfl
  simp only [RW, RS, nmOf, List.cons_append, List.nil_append, Nat.reduceAdd, Nat.reduceLT, mb_nil, mb_cons, Option.map_some, R0, R1, R2, R3, R4, R5, R6, R7, bxC, bsC, AV.cells, un, most, callsOf, List.contains_nil, List.contains_cons, beq_iff_eq, List.getElem?_cons_zero, List.getElem?_cons_succ, seval, Int.reducePow, ↓reduceIte, Nat.reduceEqDiff, reduceCtorEq, and_self]
  refine (num_pu g 0).go rfl ?_
  rintro v rfl
  simp only [RW, RS, nmOf, List.cons_append, List.nil_append, Nat.reduceAdd, Nat.reduceLT, mb_nil, mb_cons, Option.map_some, R0, R1, R2, R3, R4, R5, R6, R7, bxC, bsC, AV.cells, un, most, callsOf, List.contains_nil, List.contains_cons, beq_iff_eq, List.getElem?_cons_zero, List.getElem?_cons_succ, seval, Int.reducePow, ↓reduceIte, Nat.reduceEqDiff, reduceCtorEq, and_self]
  refine (num_pu g 0).go rfl ?_
  rintro v rfl
  simp only [RW, RS, nmOf, List.cons_append, List.nil_append, Nat.reduceAdd, Nat.reduceLT, mb_nil, mb_cons, Option.map_some, R0, R1, R2, R3, R4, R5, R6, R7, bxC, bsC, AV.cells, un, most, callsOf, List.contains_nil, List.contains_cons, beq_iff_eq, List.getElem?_cons_zero, List.getElem?_cons_succ, seval, Int.reducePow, ↓reduceIte, Nat.reduceEqDiff, reduceCtorEq, and_self]
  rw [cvT_sl (by rfl) (by rfl)]
  simp only [RW, RS, nmOf, List.cons_append, List.nil_append, Nat.reduceAdd, Nat.reduceLT, mb_nil, mb_cons, Option.map_some, R0, R1, R2, R3, R4, R5, R6, R7, bxC, bsC, AV.cells, un, most, callsOf, List.contains_nil, List.contains_cons, beq_iff_eq, List.getElem?_cons_zero, List.getElem?_cons_succ, seval, Int.reducePow, ↓reduceIte, Nat.reduceEqDiff, reduceCtorEq, and_self]
  refine (num_pu g 0).go rfl ?_
  rintro v rfl
  simp only [RW, RS, nmOf, List.cons_append, List.nil_append, Nat.reduceAdd, Nat.reduceLT, mb_nil, mb_cons, Option.map_some, R0, R1, R2, R3, R4, R5, R6, R7, bxC, bsC, AV.cells, un, most, callsOf, List.contains_nil, List.contains_cons, beq_iff_eq, List.getElem?_cons_zero, List.getElem?_cons_succ, seval, Int.reducePow, ↓reduceIte, Nat.reduceEqDiff, reduceCtorEq, and_self]
  rw [cvT_sl (by rfl) (by rfl)]
  simp only [RW, RS, nmOf, List.cons_append, List.nil_append, Nat.reduceAdd, Nat.reduceLT, mb_nil, mb_cons, Option.map_some, R0, R1, R2, R3, R4, R5, R6, R7, bxC, bsC, AV.cells, un, most, callsOf, List.contains_nil, List.contains_cons, beq_iff_eq, List.getElem?_cons_zero, List.getElem?_cons_succ, seval, Int.reducePow, ↓reduceIte, Nat.reduceEqDiff, reduceCtorEq, and_self]
end
end Go.Proofs.Ytinonmcnofjeeaa.VM
