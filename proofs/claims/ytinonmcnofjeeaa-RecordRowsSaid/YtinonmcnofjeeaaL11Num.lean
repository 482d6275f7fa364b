/- Numbers as bytes: the program's and the reference's. -/
import Derived.Test.YtinonmcnofjeeaaL11Lit
import Derived.KernelRfl
namespace Go.Proofs.Ytinonmcnofjeeaa.VM
set_option linter.unusedSimpArgs false
set_option linter.unusedVariables false
set_option linter.defProp false
set_option maxHeartbeats 1000000
attribute [local irreducible] Af Nx EvO Ev Un Gd Cd EvR EvQ EvC Nc Gc Lp
/-- a number's bytes, the highest first -/
def numB (x : Int) : Nat → List Nat
  | 0 => []
  | n + 1 => (x / (256 ^ n : Nat) % 256).toNat :: numB x n
theorem numB_len (x : Int) : ∀ n, (numB x n).length = n
  | 0 => rfl
  | n + 1 => by rw [numB, List.length_cons, numB_len x n]
theorem mb_nil : ([] : List AV).mapM AV.byte = some [] := rfl
theorem byte_mod (a : Int) : AV.byte (.int .u8 (a % 256)) = some (a % 256).toNat := by
  have h1 := Int.emod_nonneg a (show (256 : Int) ≠ 0 by decide)
  have h2 := Int.emod_lt_of_pos a (show (0 : Int) < 256 by decide)
  simp only [AV.byte]
  rw [if_pos ⟨h1, h2⟩]
theorem mb_cons (a : Int) (l : List AV) : (AV.int .u8 (a % 256) :: l).mapM AV.byte = (l.mapM AV.byte).map ((a % 256).toNat :: ·) := by
  rw [List.mapM_cons, byte_mod]
  cases l.mapM AV.byte <;> rfl
theorem cvT_sl {h : Heap} {b n : Nat} {cap : Nat} {l : List AV} {e : TypeId} {ver : Nat} (hg : h.get b = some (.cells l e ver)) (hl : l.length = n) : cvT h (.sl b 0 n cap 1) = valO h ((l.mapM AV.byte).map .str) := by
  subst hl
  simp only [cvT, lenV, cellsOf, hg, Nat.le_refl, if_true, cut_eq, List.drop_zero, Nat.mul_one, List.take_length]
section
variable {P : Program}
theorem num1_pu (g : Pg P tab) (x : Int) : Pu P 89 [.int .i64 x, .int .i64 1] (fun v => v = .str (numB x 1)) := by
  refine g.pu (vf := v89) rfl rfl ?_
  simp +contextual (maxSteps := 2000000) (disch := omega) only [v89, RW, RS, R0, R1, R2, R3, R4, R5, R6, R7, bxC, bsC, AV.cells, un, most, callsOf, List.contains_nil, List.contains_cons, beq_iff_eq, List.getElem?_cons_zero, List.getElem?_cons_succ, seval, Int.reducePow, ↓reduceIte, Nat.reduceEqDiff, reduceCtorEq, and_self]
  refine g.lpe b89_0.eq_1 ?_
  simp +contextual (maxSteps := 2000000) (disch := omega) only [RW, RS, R0, R1, R2, R3, R4, R5, R6, R7, bxC, bsC, AV.cells, un, most, callsOf, List.contains_nil, List.contains_cons, beq_iff_eq, List.getElem?_cons_zero, List.getElem?_cons_succ, seval, Int.reducePow, ↓reduceIte, Nat.reduceEqDiff, reduceCtorEq, and_self]
  refine g.lpe b89_0.eq_1 ?_
  simp +contextual (maxSteps := 2000000) (disch := omega) only [RW, RS, R0, R1, R2, R3, R4, R5, R6, R7, bxC, bsC, AV.cells, un, most, callsOf, List.contains_nil, List.contains_cons, beq_iff_eq, List.getElem?_cons_zero, List.getElem?_cons_succ, seval, Int.reducePow, ↓reduceIte, Nat.reduceEqDiff, reduceCtorEq, and_self]
  rw [cvT_sl (by rfl) (by rfl)]
  simp +contextual (maxSteps := 2000000) (disch := omega) only [RW, mb_nil, mb_cons, Option.map_some, numB, Nat.pow_zero, R0, R1, R2, R3, R4, R5, R6, R7, bxC, bsC, AV.cells, un, most, callsOf, List.contains_nil, List.contains_cons, beq_iff_eq, List.getElem?_cons_zero, List.getElem?_cons_succ, seval, Int.reducePow, ↓reduceIte, Nat.reduceEqDiff, reduceCtorEq, and_self]
theorem num2_pu (g : Pg P tab) (x : Int) : Pu P 89 [.int .i64 x, .int .i64 2] (fun v => v = .str (numB x 2)) := by
  refine g.pu (vf := v89) rfl rfl ?_
  simp +contextual (maxSteps := 2000000) (disch := omega) only [v89, RW, RS, R0, R1, R2, R3, R4, R5, R6, R7, bxC, bsC, AV.cells, un, most, callsOf, List.contains_nil, List.contains_cons, beq_iff_eq, List.getElem?_cons_zero, List.getElem?_cons_succ, seval, Int.reducePow, ↓reduceIte, Nat.reduceEqDiff, reduceCtorEq, and_self]
  refine g.lpe b89_0.eq_1 ?_
  simp +contextual (maxSteps := 2000000) (disch := omega) only [RW, RS, R0, R1, R2, R3, R4, R5, R6, R7, bxC, bsC, AV.cells, un, most, callsOf, List.contains_nil, List.contains_cons, beq_iff_eq, List.getElem?_cons_zero, List.getElem?_cons_succ, seval, Int.reducePow, ↓reduceIte, Nat.reduceEqDiff, reduceCtorEq, and_self]
  refine g.lpe b89_0.eq_1 ?_
  simp +contextual (maxSteps := 2000000) (disch := omega) only [RW, RS, R0, R1, R2, R3, R4, R5, R6, R7, bxC, bsC, AV.cells, un, most, callsOf, List.contains_nil, List.contains_cons, beq_iff_eq, List.getElem?_cons_zero, List.getElem?_cons_succ, seval, Int.reducePow, ↓reduceIte, Nat.reduceEqDiff, reduceCtorEq, and_self]
  refine g.lpe b89_0.eq_1 ?_
  simp +contextual (maxSteps := 2000000) (disch := omega) only [RW, RS, R0, R1, R2, R3, R4, R5, R6, R7, bxC, bsC, AV.cells, un, most, callsOf, List.contains_nil, List.contains_cons, beq_iff_eq, List.getElem?_cons_zero, List.getElem?_cons_succ, seval, Int.reducePow, ↓reduceIte, Nat.reduceEqDiff, reduceCtorEq, and_self]
  rw [cvT_sl (by rfl) (by rfl)]
  simp +contextual (maxSteps := 2000000) (disch := omega) only [RW, mb_nil, mb_cons, Option.map_some, numB, Nat.pow_zero, R0, R1, R2, R3, R4, R5, R6, R7, bxC, bsC, AV.cells, un, most, callsOf, List.contains_nil, List.contains_cons, beq_iff_eq, List.getElem?_cons_zero, List.getElem?_cons_succ, seval, Int.reducePow, ↓reduceIte, Nat.reduceEqDiff, reduceCtorEq, and_self]
theorem num4_pu (g : Pg P tab) (x : Int) : Pu P 89 [.int .i64 x, .int .i64 4] (fun v => v = .str (numB x 4)) := by
  refine g.pu (vf := v89) rfl rfl ?_
  simp +contextual (maxSteps := 2000000) (disch := omega) only [v89, RW, RS, R0, R1, R2, R3, R4, R5, R6, R7, bxC, bsC, AV.cells, un, most, callsOf, List.contains_nil, List.contains_cons, beq_iff_eq, List.getElem?_cons_zero, List.getElem?_cons_succ, seval, Int.reducePow, ↓reduceIte, Nat.reduceEqDiff, reduceCtorEq, and_self]
  refine g.lpe b89_0.eq_1 ?_
  simp +contextual (maxSteps := 2000000) (disch := omega) only [RW, RS, R0, R1, R2, R3, R4, R5, R6, R7, bxC, bsC, AV.cells, un, most, callsOf, List.contains_nil, List.contains_cons, beq_iff_eq, List.getElem?_cons_zero, List.getElem?_cons_succ, seval, Int.reducePow, ↓reduceIte, Nat.reduceEqDiff, reduceCtorEq, and_self]
  refine g.lpe b89_0.eq_1 ?_
  simp +contextual (maxSteps := 2000000) (disch := omega) only [RW, RS, R0, R1, R2, R3, R4, R5, R6, R7, bxC, bsC, AV.cells, un, most, callsOf, List.contains_nil, List.contains_cons, beq_iff_eq, List.getElem?_cons_zero, List.getElem?_cons_succ, seval, Int.reducePow, ↓reduceIte, Nat.reduceEqDiff, reduceCtorEq, and_self]
  refine g.lpe b89_0.eq_1 ?_
  simp +contextual (maxSteps := 2000000) (disch := omega) only [RW, RS, R0, R1, R2, R3, R4, R5, R6, R7, bxC, bsC, AV.cells, un, most, callsOf, List.contains_nil, List.contains_cons, beq_iff_eq, List.getElem?_cons_zero, List.getElem?_cons_succ, seval, Int.reducePow, ↓reduceIte, Nat.reduceEqDiff, reduceCtorEq, and_self]
  refine g.lpe b89_0.eq_1 ?_
  simp +contextual (maxSteps := 2000000) (disch := omega) only [RW, RS, R0, R1, R2, R3, R4, R5, R6, R7, bxC, bsC, AV.cells, un, most, callsOf, List.contains_nil, List.contains_cons, beq_iff_eq, List.getElem?_cons_zero, List.getElem?_cons_succ, seval, Int.reducePow, ↓reduceIte, Nat.reduceEqDiff, reduceCtorEq, and_self]
  refine g.lpe b89_0.eq_1 ?_
  simp +contextual (maxSteps := 2000000) (disch := omega) only [RW, RS, R0, R1, R2, R3, R4, R5, R6, R7, bxC, bsC, AV.cells, un, most, callsOf, List.contains_nil, List.contains_cons, beq_iff_eq, List.getElem?_cons_zero, List.getElem?_cons_succ, seval, Int.reducePow, ↓reduceIte, Nat.reduceEqDiff, reduceCtorEq, and_self]
  rw [cvT_sl (by rfl) (by rfl)]
  simp +contextual (maxSteps := 2000000) (disch := omega) only [RW, mb_nil, mb_cons, Option.map_some, numB, Nat.pow_zero, R0, R1, R2, R3, R4, R5, R6, R7, bxC, bsC, AV.cells, un, most, callsOf, List.contains_nil, List.contains_cons, beq_iff_eq, List.getElem?_cons_zero, List.getElem?_cons_succ, seval, Int.reducePow, ↓reduceIte, Nat.reduceEqDiff, reduceCtorEq, and_self]
theorem and255 (x : Int) : bitsOf .and .i64 x 255 = x % 256 := by
  have h := and_any x (n := 8) (by decide)
  have e : (((2 ^ 8 : Nat) : Int) - 1) = 255 := rfl
  rw [e] at h
  rw [h]
  omega
theorem be1_pu (g : Pg P tab) (x : Int) : Pu P 52 [.int .i64 x, .int .i64 1] (fun v => v = .str (numB x 1)) := by
  refine g.pu (vf := v52) rfl rfl ?_
  simp +contextual (maxSteps := 2000000) (disch := omega) only [v52, RW, RS, and255, R0, R1, R2, R3, R4, R5, R6, R7, bxC, bsC, AV.cells, un, most, callsOf, List.contains_nil, List.contains_cons, beq_iff_eq, List.getElem?_cons_zero, List.getElem?_cons_succ, seval, Int.reducePow, ↓reduceIte, Nat.reduceEqDiff, reduceCtorEq, and_self]
  refine g.lpe b52_0.eq_1 ?_
  simp +contextual (maxSteps := 2000000) (disch := omega) only [RW, RS, and255, Int.emod_emod_of_dvd, R0, R1, R2, R3, R4, R5, R6, R7, bxC, bsC, AV.cells, un, most, callsOf, List.contains_nil, List.contains_cons, beq_iff_eq, List.getElem?_cons_zero, List.getElem?_cons_succ, seval, Int.reducePow, ↓reduceIte, Nat.reduceEqDiff, reduceCtorEq, and_self]
  refine g.lpe b52_0.eq_1 ?_
  simp +contextual (maxSteps := 2000000) (disch := omega) only [RW, RS, and255, Int.emod_emod_of_dvd, R0, R1, R2, R3, R4, R5, R6, R7, bxC, bsC, AV.cells, un, most, callsOf, List.contains_nil, List.contains_cons, beq_iff_eq, List.getElem?_cons_zero, List.getElem?_cons_succ, seval, Int.reducePow, ↓reduceIte, Nat.reduceEqDiff, reduceCtorEq, and_self]
  rw [cvT_sl (by rfl) (by rfl)]
  simp +contextual (maxSteps := 2000000) (disch := omega) only [RW, mb_nil, mb_cons, Option.map_some, numB, Nat.pow_zero, R0, R1, R2, R3, R4, R5, R6, R7, bxC, bsC, AV.cells, un, most, callsOf, List.contains_nil, List.contains_cons, beq_iff_eq, List.getElem?_cons_zero, List.getElem?_cons_succ, seval, Int.reducePow, ↓reduceIte, Nat.reduceEqDiff, reduceCtorEq, and_self]
  simp only [Int.ediv_one, (show x / 256 / 256 = x / 65536 by omega), (show x / 65536 / 256 = x / 16777216 by omega)]
theorem be2_pu (g : Pg P tab) (x : Int) : Pu P 52 [.int .i64 x, .int .i64 2] (fun v => v = .str (numB x 2)) := by
  refine g.pu (vf := v52) rfl rfl ?_
  simp +contextual (maxSteps := 2000000) (disch := omega) only [v52, RW, RS, and255, R0, R1, R2, R3, R4, R5, R6, R7, bxC, bsC, AV.cells, un, most, callsOf, List.contains_nil, List.contains_cons, beq_iff_eq, List.getElem?_cons_zero, List.getElem?_cons_succ, seval, Int.reducePow, ↓reduceIte, Nat.reduceEqDiff, reduceCtorEq, and_self]
  refine g.lpe b52_0.eq_1 ?_
  simp +contextual (maxSteps := 2000000) (disch := omega) only [RW, RS, and255, Int.emod_emod_of_dvd, R0, R1, R2, R3, R4, R5, R6, R7, bxC, bsC, AV.cells, un, most, callsOf, List.contains_nil, List.contains_cons, beq_iff_eq, List.getElem?_cons_zero, List.getElem?_cons_succ, seval, Int.reducePow, ↓reduceIte, Nat.reduceEqDiff, reduceCtorEq, and_self]
  refine g.lpe b52_0.eq_1 ?_
  simp +contextual (maxSteps := 2000000) (disch := omega) only [RW, RS, and255, Int.emod_emod_of_dvd, R0, R1, R2, R3, R4, R5, R6, R7, bxC, bsC, AV.cells, un, most, callsOf, List.contains_nil, List.contains_cons, beq_iff_eq, List.getElem?_cons_zero, List.getElem?_cons_succ, seval, Int.reducePow, ↓reduceIte, Nat.reduceEqDiff, reduceCtorEq, and_self]
  refine g.lpe b52_0.eq_1 ?_
  simp +contextual (maxSteps := 2000000) (disch := omega) only [RW, RS, and255, Int.emod_emod_of_dvd, R0, R1, R2, R3, R4, R5, R6, R7, bxC, bsC, AV.cells, un, most, callsOf, List.contains_nil, List.contains_cons, beq_iff_eq, List.getElem?_cons_zero, List.getElem?_cons_succ, seval, Int.reducePow, ↓reduceIte, Nat.reduceEqDiff, reduceCtorEq, and_self]
  rw [cvT_sl (by rfl) (by rfl)]
  simp +contextual (maxSteps := 2000000) (disch := omega) only [RW, mb_nil, mb_cons, Option.map_some, numB, Nat.pow_zero, R0, R1, R2, R3, R4, R5, R6, R7, bxC, bsC, AV.cells, un, most, callsOf, List.contains_nil, List.contains_cons, beq_iff_eq, List.getElem?_cons_zero, List.getElem?_cons_succ, seval, Int.reducePow, ↓reduceIte, Nat.reduceEqDiff, reduceCtorEq, and_self]
  simp only [Int.ediv_one, (show x / 256 / 256 = x / 65536 by omega), (show x / 65536 / 256 = x / 16777216 by omega)]
theorem be4_pu (g : Pg P tab) (x : Int) : Pu P 52 [.int .i64 x, .int .i64 4] (fun v => v = .str (numB x 4)) := by
  refine g.pu (vf := v52) rfl rfl ?_
  simp +contextual (maxSteps := 2000000) (disch := omega) only [v52, RW, RS, and255, R0, R1, R2, R3, R4, R5, R6, R7, bxC, bsC, AV.cells, un, most, callsOf, List.contains_nil, List.contains_cons, beq_iff_eq, List.getElem?_cons_zero, List.getElem?_cons_succ, seval, Int.reducePow, ↓reduceIte, Nat.reduceEqDiff, reduceCtorEq, and_self]
  refine g.lpe b52_0.eq_1 ?_
  simp +contextual (maxSteps := 2000000) (disch := omega) only [RW, RS, and255, Int.emod_emod_of_dvd, R0, R1, R2, R3, R4, R5, R6, R7, bxC, bsC, AV.cells, un, most, callsOf, List.contains_nil, List.contains_cons, beq_iff_eq, List.getElem?_cons_zero, List.getElem?_cons_succ, seval, Int.reducePow, ↓reduceIte, Nat.reduceEqDiff, reduceCtorEq, and_self]
  refine g.lpe b52_0.eq_1 ?_
  simp +contextual (maxSteps := 2000000) (disch := omega) only [RW, RS, and255, Int.emod_emod_of_dvd, R0, R1, R2, R3, R4, R5, R6, R7, bxC, bsC, AV.cells, un, most, callsOf, List.contains_nil, List.contains_cons, beq_iff_eq, List.getElem?_cons_zero, List.getElem?_cons_succ, seval, Int.reducePow, ↓reduceIte, Nat.reduceEqDiff, reduceCtorEq, and_self]
  refine g.lpe b52_0.eq_1 ?_
  simp +contextual (maxSteps := 2000000) (disch := omega) only [RW, RS, and255, Int.emod_emod_of_dvd, R0, R1, R2, R3, R4, R5, R6, R7, bxC, bsC, AV.cells, un, most, callsOf, List.contains_nil, List.contains_cons, beq_iff_eq, List.getElem?_cons_zero, List.getElem?_cons_succ, seval, Int.reducePow, ↓reduceIte, Nat.reduceEqDiff, reduceCtorEq, and_self]
  refine g.lpe b52_0.eq_1 ?_
  simp +contextual (maxSteps := 2000000) (disch := omega) only [RW, RS, and255, Int.emod_emod_of_dvd, R0, R1, R2, R3, R4, R5, R6, R7, bxC, bsC, AV.cells, un, most, callsOf, List.contains_nil, List.contains_cons, beq_iff_eq, List.getElem?_cons_zero, List.getElem?_cons_succ, seval, Int.reducePow, ↓reduceIte, Nat.reduceEqDiff, reduceCtorEq, and_self]
  refine g.lpe b52_0.eq_1 ?_
  simp +contextual (maxSteps := 2000000) (disch := omega) only [RW, RS, and255, Int.emod_emod_of_dvd, R0, R1, R2, R3, R4, R5, R6, R7, bxC, bsC, AV.cells, un, most, callsOf, List.contains_nil, List.contains_cons, beq_iff_eq, List.getElem?_cons_zero, List.getElem?_cons_succ, seval, Int.reducePow, ↓reduceIte, Nat.reduceEqDiff, reduceCtorEq, and_self]
  rw [cvT_sl (by rfl) (by rfl)]
  simp +contextual (maxSteps := 2000000) (disch := omega) only [RW, mb_nil, mb_cons, Option.map_some, numB, Nat.pow_zero, R0, R1, R2, R3, R4, R5, R6, R7, bxC, bsC, AV.cells, un, most, callsOf, List.contains_nil, List.contains_cons, beq_iff_eq, List.getElem?_cons_zero, List.getElem?_cons_succ, seval, Int.reducePow, ↓reduceIte, Nat.reduceEqDiff, reduceCtorEq, and_self]
  simp only [Int.ediv_one, (show x / 256 / 256 = x / 65536 by omega), (show x / 65536 / 256 = x / 16777216 by omega)]
end
end Go.Proofs.Ytinonmcnofjeeaa.VM
