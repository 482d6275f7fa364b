/- Numbers as bytes: the program's and the reference's. -/
import Derived.Test.YtinonmcnofjeeaaL11Lit
import Derived.KernelRfl
namespace Go.Proofs.Ytinonmcnofjeeaa.VM
set_option linter.unusedSimpArgs false
set_option linter.unusedVariables false
set_option linter.defProp false
set_option maxHeartbeats 1000000
attribute [local irreducible] Af Nx EvO Ev Un Gd Cd EvR EvQ EvC Nc Gc Lp EvM NxM AfM GdM EvMR EvMQ EvMD EvMC Nm Gm
/-- a number's bytes, the highest first -/
def numB (x : Int) : Nat → List Nat
  | 0 => []
  | n + 1 => (x / (256 ^ n : Nat) % 256).toNat :: numB x n
theorem numB_len (x : Int) : ∀ n, (numB x n).length = n
  | 0 => rfl
  | n + 1 => by rw [numB, List.length_cons, numB_len x n]
theorem mb_nil : ([] : List AV).mapM AV.byte = some [] := rfl
theorem byte_mod (a : Int) : AV.byte (.int .u8 (a % 256)) = some (a % 256).toNat := by
  have h1 := Int.emod_nonneg a (show (256 : Int) ≠ 0 by decide)
  have h2 := Int.emod_lt_of_pos a (show (0 : Int) < 256 by decide)
  simp only [AV.byte]
  rw [if_pos ⟨h1, h2⟩]
theorem mb_cons (a : Int) (l : List AV) : (AV.int .u8 (a % 256) :: l).mapM AV.byte = (l.mapM AV.byte).map ((a % 256).toNat :: ·) := by
  rw [List.mapM_cons, byte_mod]
  cases l.mapM AV.byte <;> rfl
theorem cvT_sl {h : Heap} {b n : Nat} {cap : Nat} {l : List AV} {e : TypeId} {ver : Nat} (hg : h.get b = some (.cells l e ver)) (hl : l.length = n) : cvT h (.sl b 0 n cap 1) = valO h ((l.mapM AV.byte).map .str) := by
  subst hl
  simp only [cvT, lenV, cellsOf, hg, Nat.le_refl, if_true, cut_eq, List.drop_zero, Nat.mul_one, List.take_length]
section
variable {P : Program}
theorem num1_pu (g : Pg P tab) (x : Int) : Pu P 89 [.int .i64 x, .int .i64 1] (fun v => v = .str (numB x 1)) := by
  refine g.pu (vf := v89) rfl rfl ?_
  simp +contextual (maxSteps := 2000000) (disch := omega) only [v89, RW, RS, R0, R1, R2, R3, R4, R5, R6, R7, R8, R9, VOp.fresh, bxC, bsC, R10, un, most, callsOf, List.contains_nil, List.contains_cons, beq_iff_eq, List.getElem?_cons_zero, List.getElem?_cons_succ, seval, Option.map_none, Int.reducePow, ↓reduceIte, Nat.reduceEqDiff, reduceCtorEq, and_self]
  refine g.lpe b89_0.eq_1 ?_
  simp +contextual (maxSteps := 2000000) (disch := omega) only [RW, RS, R0, R1, R2, R3, R4, R5, R6, R7, R8, R9, VOp.fresh, bxC, bsC, R10, un, most, callsOf, List.contains_nil, List.contains_cons, beq_iff_eq, List.getElem?_cons_zero, List.getElem?_cons_succ, seval, Option.map_none, Int.reducePow, ↓reduceIte, Nat.reduceEqDiff, reduceCtorEq, and_self]
  refine g.lpe b89_0.eq_1 ?_
  simp +contextual (maxSteps := 2000000) (disch := omega) only [RW, RS, R0, R1, R2, R3, R4, R5, R6, R7, R8, R9, VOp.fresh, bxC, bsC, R10, un, most, callsOf, List.contains_nil, List.contains_cons, beq_iff_eq, List.getElem?_cons_zero, List.getElem?_cons_succ, seval, Option.map_none, Int.reducePow, ↓reduceIte, Nat.reduceEqDiff, reduceCtorEq, and_self]
  rw [cvT_sl (by rfl) (by rfl)]
  simp +contextual (maxSteps := 2000000) (disch := omega) only [RW, mb_nil, mb_cons, Option.map_some, numB, Nat.pow_zero, R0, R1, R2, R3, R4, R5, R6, R7, R8, R9, VOp.fresh, bxC, bsC, R10, un, most, callsOf, List.contains_nil, List.contains_cons, beq_iff_eq, List.getElem?_cons_zero, List.getElem?_cons_succ, seval, Option.map_none, Int.reducePow, ↓reduceIte, Nat.reduceEqDiff, reduceCtorEq, and_self]
theorem num2_pu (g : Pg P tab) (x : Int) : Pu P 89 [.int .i64 x, .int .i64 2] (fun v => v = .str (numB x 2)) := by
  refine g.pu (vf := v89) rfl rfl ?_
  simp +contextual (maxSteps := 2000000) (disch := omega) only [v89, RW, RS, R0, R1, R2, R3, R4, R5, R6, R7, R8, R9, VOp.fresh, bxC, bsC, R10, un, most, callsOf, List.contains_nil, List.contains_cons, beq_iff_eq, List.getElem?_cons_zero, List.getElem?_cons_succ, seval, Option.map_none, Int.reducePow, ↓reduceIte, Nat.reduceEqDiff, reduceCtorEq, and_self]
  refine g.lpe b89_0.eq_1 ?_
  simp +contextual (maxSteps := 2000000) (disch := omega) only [RW, RS, R0, R1, R2, R3, R4, R5, R6, R7, R8, R9, VOp.fresh, bxC, bsC, R10, un, most, callsOf, List.contains_nil, List.contains_cons, beq_iff_eq, List.getElem?_cons_zero, List.getElem?_cons_succ, seval, Option.map_none, Int.reducePow, ↓reduceIte, Nat.reduceEqDiff, reduceCtorEq, and_self]
  refine g.lpe b89_0.eq_1 ?_
  simp +contextual (maxSteps := 2000000) (disch := omega) only [RW, RS, R0, R1, R2, R3, R4, R5, R6, R7, R8, R9, VOp.fresh, bxC, bsC, R10, un, most, callsOf, List.contains_nil, List.contains_cons, beq_iff_eq, List.getElem?_cons_zero, List.getElem?_cons_succ, seval, Option.map_none, Int.reducePow, ↓reduceIte, Nat.reduceEqDiff, reduceCtorEq, and_self]
  refine g.lpe b89_0.eq_1 ?_
  simp +contextual (maxSteps := 2000000) (disch := omega) only [RW, RS, R0, R1, R2, R3, R4, R5, R6, R7, R8, R9, VOp.fresh, bxC, bsC, R10, un, most, callsOf, List.contains_nil, List.contains_cons, beq_iff_eq, List.getElem?_cons_zero, List.getElem?_cons_succ, seval, Option.map_none, Int.reducePow, ↓reduceIte, Nat.reduceEqDiff, reduceCtorEq, and_self]
  rw [cvT_sl (by rfl) (by rfl)]
  simp +contextual (maxSteps := 2000000) (disch := omega) only [RW, mb_nil, mb_cons, Option.map_some, numB, Nat.pow_zero, R0, R1, R2, R3, R4, R5, R6, R7, R8, R9, VOp.fresh, bxC, bsC, R10, un, most, callsOf, List.contains_nil, List.contains_cons, beq_iff_eq, List.getElem?_cons_zero, List.getElem?_cons_succ, seval, Option.map_none, Int.reducePow, ↓reduceIte, Nat.reduceEqDiff, reduceCtorEq, and_self]
theorem num4_pu (g : Pg P tab) (x : Int) : Pu P 89 [.int .i64 x, .int .i64 4] (fun v => v = .str (numB x 4)) := by
  refine g.pu (vf := v89) rfl rfl ?_
  simp +contextual (maxSteps := 2000000) (disch := omega) only [v89, RW, RS, R0, R1, R2, R3, R4, R5, R6, R7, R8, R9, VOp.fresh, bxC, bsC, R10, un, most, callsOf, List.contains_nil, List.contains_cons, beq_iff_eq, List.getElem?_cons_zero, List.getElem?_cons_succ, seval, Option.map_none, Int.reducePow, ↓reduceIte, Nat.reduceEqDiff, reduceCtorEq, and_self]
  refine g.lpe b89_0.eq_1 ?_
  simp +contextual (maxSteps := 2000000) (disch := omega) only [RW, RS, R0, R1, R2, R3, R4, R5, R6, R7, R8, R9, VOp.fresh, bxC, bsC, R10, un, most, callsOf, List.contains_nil, List.contains_cons, beq_iff_eq, List.getElem?_cons_zero, List.getElem?_cons_succ, seval, Option.map_none, Int.reducePow, ↓reduceIte, Nat.reduceEqDiff, reduceCtorEq, and_self]
  refine g.lpe b89_0.eq_1 ?_
  simp +contextual (maxSteps := 2000000) (disch := omega) only [RW, RS, R0, R1, R2, R3, R4, R5, R6, R7, R8, R9, VOp.fresh, bxC, bsC, R10, un, most, callsOf, List.contains_nil, List.contains_cons, beq_iff_eq, List.getElem?_cons_zero, List.getElem?_cons_succ, seval, Option.map_none, Int.reducePow, ↓reduceIte, Nat.reduceEqDiff, reduceCtorEq, and_self]
  refine g.lpe b89_0.eq_1 ?_
  simp +contextual (maxSteps := 2000000) (disch := omega) only [RW, RS, R0, R1, R2, R3, R4, R5, R6, R7, R8, R9, VOp.fresh, bxC, bsC, R10, un, most, callsOf, List.contains_nil, List.contains_cons, beq_iff_eq, List.getElem?_cons_zero, List.getElem?_cons_succ, seval, Option.map_none, Int.reducePow, ↓reduceIte, Nat.reduceEqDiff, reduceCtorEq, and_self]
  refine g.lpe b89_0.eq_1 ?_
  simp +contextual (maxSteps := 2000000) (disch := omega) only [RW, RS, R0, R1, R2, R3, R4, R5, R6, R7, R8, R9, VOp.fresh, bxC, bsC, R10, un, most, callsOf, List.contains_nil, List.contains_cons, beq_iff_eq, List.getElem?_cons_zero, List.getElem?_cons_succ, seval, Option.map_none, Int.reducePow, ↓reduceIte, Nat.reduceEqDiff, reduceCtorEq, and_self]
  refine g.lpe b89_0.eq_1 ?_
  simp +contextual (maxSteps := 2000000) (disch := omega) only [RW, RS, R0, R1, R2, R3, R4, R5, R6, R7, R8, R9, VOp.fresh, bxC, bsC, R10, un, most, callsOf, List.contains_nil, List.contains_cons, beq_iff_eq, List.getElem?_cons_zero, List.getElem?_cons_succ, seval, Option.map_none, Int.reducePow, ↓reduceIte, Nat.reduceEqDiff, reduceCtorEq, and_self]
  rw [cvT_sl (by rfl) (by rfl)]
  simp +contextual (maxSteps := 2000000) (disch := omega) only [RW, mb_nil, mb_cons, Option.map_some, numB, Nat.pow_zero, R0, R1, R2, R3, R4, R5, R6, R7, R8, R9, VOp.fresh, bxC, bsC, R10, un, most, callsOf, List.contains_nil, List.contains_cons, beq_iff_eq, List.getElem?_cons_zero, List.getElem?_cons_succ, seval, Option.map_none, Int.reducePow, ↓reduceIte, Nat.reduceEqDiff, reduceCtorEq, and_self]
theorem and255 (x : Int) : bitsOf .and .i64 x 255 = x % 256 := by
  have h := and_any x (n := 8) (by decide)
  have e : (((2 ^ 8 : Nat) : Int) - 1) = 255 := rfl
  rw [e] at h
  rw [h]
  omega
theorem be1_pu (g : Pg P tab) (x : Int) : Pu P 52 [.int .i64 x, .int .i64 1] (fun v => v = .str (numB x 1)) := by
  refine g.pu (vf := v52) rfl rfl ?_
  simp +contextual (maxSteps := 2000000) (disch := omega) only [v52, RW, RS, and255, R0, R1, R2, R3, R4, R5, R6, R7, R8, R9, VOp.fresh, bxC, bsC, R10, un, most, callsOf, List.contains_nil, List.contains_cons, beq_iff_eq, List.getElem?_cons_zero, List.getElem?_cons_succ, seval, Option.map_none, Int.reducePow, ↓reduceIte, Nat.reduceEqDiff, reduceCtorEq, and_self]
  refine g.lpe b52_0.eq_1 ?_
  simp +contextual (maxSteps := 2000000) (disch := omega) only [RW, RS, and255, Int.emod_emod_of_dvd, R0, R1, R2, R3, R4, R5, R6, R7, R8, R9, VOp.fresh, bxC, bsC, R10, un, most, callsOf, List.contains_nil, List.contains_cons, beq_iff_eq, List.getElem?_cons_zero, List.getElem?_cons_succ, seval, Option.map_none, Int.reducePow, ↓reduceIte, Nat.reduceEqDiff, reduceCtorEq, and_self]
  refine g.lpe b52_0.eq_1 ?_
  simp +contextual (maxSteps := 2000000) (disch := omega) only [RW, RS, and255, Int.emod_emod_of_dvd, R0, R1, R2, R3, R4, R5, R6, R7, R8, R9, VOp.fresh, bxC, bsC, R10, un, most, callsOf, List.contains_nil, List.contains_cons, beq_iff_eq, List.getElem?_cons_zero, List.getElem?_cons_succ, seval, Option.map_none, Int.reducePow, ↓reduceIte, Nat.reduceEqDiff, reduceCtorEq, and_self]
  rw [cvT_sl (by rfl) (by rfl)]
  simp +contextual (maxSteps := 2000000) (disch := omega) only [RW, mb_nil, mb_cons, Option.map_some, numB, Nat.pow_zero, R0, R1, R2, R3, R4, R5, R6, R7, R8, R9, VOp.fresh, bxC, bsC, R10, un, most, callsOf, List.contains_nil, List.contains_cons, beq_iff_eq, List.getElem?_cons_zero, List.getElem?_cons_succ, seval, Option.map_none, Int.reducePow, ↓reduceIte, Nat.reduceEqDiff, reduceCtorEq, and_self]
  simp only [Int.ediv_one, (show x / 256 / 256 = x / 65536 by omega), (show x / 65536 / 256 = x / 16777216 by omega)]
theorem be2_pu (g : Pg P tab) (x : Int) : Pu P 52 [.int .i64 x, .int .i64 2] (fun v => v = .str (numB x 2)) := by
  refine g.pu (vf := v52) rfl rfl ?_
  simp +contextual (maxSteps := 2000000) (disch := omega) only [v52, RW, RS, and255, R0, R1, R2, R3, R4, R5, R6, R7, R8, R9, VOp.fresh, bxC, bsC, R10, un, most, callsOf, List.contains_nil, List.contains_cons, beq_iff_eq, List.getElem?_cons_zero, List.getElem?_cons_succ, seval, Option.map_none, Int.reducePow, ↓reduceIte, Nat.reduceEqDiff, reduceCtorEq, and_self]
  refine g.lpe b52_0.eq_1 ?_
  simp +contextual (maxSteps := 2000000) (disch := omega) only [RW, RS, and255, Int.emod_emod_of_dvd, R0, R1, R2, R3, R4, R5, R6, R7, R8, R9, VOp.fresh, bxC, bsC, R10, un, most, callsOf, List.contains_nil, List.contains_cons, beq_iff_eq, List.getElem?_cons_zero, List.getElem?_cons_succ, seval, Option.map_none, Int.reducePow, ↓reduceIte, Nat.reduceEqDiff, reduceCtorEq, and_self]
  refine g.lpe b52_0.eq_1 ?_
  simp +contextual (maxSteps := 2000000) (disch := omega) only [RW, RS, and255, Int.emod_emod_of_dvd, R0, R1, R2, R3, R4, R5, R6, R7, R8, R9, VOp.fresh, bxC, bsC, R10, un, most, callsOf, List.contains_nil, List.contains_cons, beq_iff_eq, List.getElem?_cons_zero, List.getElem?_cons_succ, seval, Option.map_none, Int.reducePow, ↓reduceIte, Nat.reduceEqDiff, reduceCtorEq, and_self]
  refine g.lpe b52_0.eq_1 ?_
  simp +contextual (maxSteps := 2000000) (disch := omega) only [RW, RS, and255, Int.emod_emod_of_dvd, R0, R1, R2, R3, R4, R5, R6, R7, R8, R9, VOp.fresh, bxC, bsC, R10, un, most, callsOf, List.contains_nil, List.contains_cons, beq_iff_eq, List.getElem?_cons_zero, List.getElem?_cons_succ, seval, Option.map_none, Int.reducePow, ↓reduceIte, Nat.reduceEqDiff, reduceCtorEq, and_self]
  rw [cvT_sl (by rfl) (by rfl)]
  simp +contextual (maxSteps := 2000000) (disch := omega) only [RW, mb_nil, mb_cons, Option.map_some, numB, Nat.pow_zero, R0, R1, R2, R3, R4, R5, R6, R7, R8, R9, VOp.fresh, bxC, bsC, R10, un, most, callsOf, List.contains_nil, List.contains_cons, beq_iff_eq, List.getElem?_cons_zero, List.getElem?_cons_succ, seval, Option.map_none, Int.reducePow, ↓reduceIte, Nat.reduceEqDiff, reduceCtorEq, and_self]
  simp only [Int.ediv_one, (show x / 256 / 256 = x / 65536 by omega), (show x / 65536 / 256 = x / 16777216 by omega)]
theorem be4_pu (g : Pg P tab) (x : Int) : Pu P 52 [.int .i64 x, .int .i64 4] (fun v => v = .str (numB x 4)) := by
  refine g.pu (vf := v52) rfl rfl ?_
  simp +contextual (maxSteps := 2000000) (disch := omega) only [v52, RW, RS, and255, R0, R1, R2, R3, R4, R5, R6, R7, R8, R9, VOp.fresh, bxC, bsC, R10, un, most, callsOf, List.contains_nil, List.contains_cons, beq_iff_eq, List.getElem?_cons_zero, List.getElem?_cons_succ, seval, Option.map_none, Int.reducePow, ↓reduceIte, Nat.reduceEqDiff, reduceCtorEq, and_self]
  refine g.lpe b52_0.eq_1 ?_
  simp +contextual (maxSteps := 2000000) (disch := omega) only [RW, RS, and255, Int.emod_emod_of_dvd, R0, R1, R2, R3, R4, R5, R6, R7, R8, R9, VOp.fresh, bxC, bsC, R10, un, most, callsOf, List.contains_nil, List.contains_cons, beq_iff_eq, List.getElem?_cons_zero, List.getElem?_cons_succ, seval, Option.map_none, Int.reducePow, ↓reduceIte, Nat.reduceEqDiff, reduceCtorEq, and_self]
  refine g.lpe b52_0.eq_1 ?_
  simp +contextual (maxSteps := 2000000) (disch := omega) only [RW, RS, and255, Int.emod_emod_of_dvd, R0, R1, R2, R3, R4, R5, R6, R7, R8, R9, VOp.fresh, bxC, bsC, R10, un, most, callsOf, List.contains_nil, List.contains_cons, beq_iff_eq, List.getElem?_cons_zero, List.getElem?_cons_succ, seval, Option.map_none, Int.reducePow, ↓reduceIte, Nat.reduceEqDiff, reduceCtorEq, and_self]
  refine g.lpe b52_0.eq_1 ?_
  simp +contextual (maxSteps := 2000000) (disch := omega) only [RW, RS, and255, Int.emod_emod_of_dvd, R0, R1, R2, R3, R4, R5, R6, R7, R8, R9, VOp.fresh, bxC, bsC, R10, un, most, callsOf, List.contains_nil, List.contains_cons, beq_iff_eq, List.getElem?_cons_zero, List.getElem?_cons_succ, seval, Option.map_none, Int.reducePow, ↓reduceIte, Nat.reduceEqDiff, reduceCtorEq, and_self]
  refine g.lpe b52_0.eq_1 ?_
  simp +contextual (maxSteps := 2000000) (disch := omega) only [RW, RS, and255, Int.emod_emod_of_dvd, R0, R1, R2, R3, R4, R5, R6, R7, R8, R9, VOp.fresh, bxC, bsC, R10, un, most, callsOf, List.contains_nil, List.contains_cons, beq_iff_eq, List.getElem?_cons_zero, List.getElem?_cons_succ, seval, Option.map_none, Int.reducePow, ↓reduceIte, Nat.reduceEqDiff, reduceCtorEq, and_self]
  refine g.lpe b52_0.eq_1 ?_
  simp +contextual (maxSteps := 2000000) (disch := omega) only [RW, RS, and255, Int.emod_emod_of_dvd, R0, R1, R2, R3, R4, R5, R6, R7, R8, R9, VOp.fresh, bxC, bsC, R10, un, most, callsOf, List.contains_nil, List.contains_cons, beq_iff_eq, List.getElem?_cons_zero, List.getElem?_cons_succ, seval, Option.map_none, Int.reducePow, ↓reduceIte, Nat.reduceEqDiff, reduceCtorEq, and_self]
  rw [cvT_sl (by rfl) (by rfl)]
  simp +contextual (maxSteps := 2000000) (disch := omega) only [RW, mb_nil, mb_cons, Option.map_some, numB, Nat.pow_zero, R0, R1, R2, R3, R4, R5, R6, R7, R8, R9, VOp.fresh, bxC, bsC, R10, un, most, callsOf, List.contains_nil, List.contains_cons, beq_iff_eq, List.getElem?_cons_zero, List.getElem?_cons_succ, seval, Option.map_none, Int.reducePow, ↓reduceIte, Nat.reduceEqDiff, reduceCtorEq, and_self]
  simp only [Int.ediv_one, (show x / 256 / 256 = x / 65536 by omega), (show x / 65536 / 256 = x / 16777216 by omega)]
end
def byteV (n : Nat) : AV := .int .u8 n
theorem cells_str {h : Heap} {bs : List Nat} : cellsOf h 1 bs.length (.str bs) = some (bs.map byteV) := by
  simp only [cellsOf, List.take_length]; rfl
theorem one_bytes : ∀ l : List Nat, (l.map byteV).all AV.one = true
  | [] => rfl
  | _ :: l => by rw [List.map_cons, List.all_cons, one_bytes l]; rfl
theorem app_nils {h : Heap} {bs : List Nat} (h0 : 0 < bs.length) (h1 : bs.length ≤ 140737488355328) :
    appendV h 1 1 5 .nils (.str bs) = some (.sl h.next 0 bs.length bs.length 1, h.mk' h.next (.cells (bs.map byteV) 5 0)) := by
  simp only [appendV, lenV, cells_str, List.length_map, Nat.mul_one, one_bytes, and_self, if_true]
  rw [if_neg (by omega), if_pos h1]
theorem app_sl {h : Heap} {c ver : Nat} {e : TypeId} {s bs : List Nat} (hg : h.get c = some (.cells (s.map byteV) e ver)) (h0 : 0 < bs.length) (h1 : s.length + bs.length ≤ 140737488355328) :
    appendV h 1 1 5 (.sl c 0 s.length s.length 1) (.str bs) = some (.sl h.next 0 (s ++ bs).length (s ++ bs).length 1, (h.put c .dead).mk' h.next (.cells ((s ++ bs).map byteV) 5 0)) := by
  have hc : cellsOf h 1 s.length (.sl c 0 s.length s.length 1) = some (s.map byteV) := by
    have e : (s.map byteV).length = s.length := List.length_map _
    simp only [cellsOf, Nat.le_refl, if_true, hg, cut_eq, List.drop_zero, Nat.mul_one]
    rw [← e, List.take_length, if_pos rfl]
  have hb : Nat.beq 1 1 = true := rfl
  simp only [appendV, lenV, cells_str, List.length_map, Nat.mul_one, one_bytes, and_self, if_true, hb, cond_true, hc]
  rw [if_neg (by omega), if_pos h1, List.map_append, List.length_append]
/-- the writer at block b has written s; the blocks k stand -/
structure WR (k : List (Nat × Blk)) (h : Heap) (b : Nat) (s : List Nat) : Prop where
  lt : b < h.next
  out : ∃ v e ver, h.get b = some (.cells [v] e ver) ∧ ((v = .nils ∧ s = []) ∨ ∃ c e' ver', v = .sl c 0 s.length s.length 1 ∧ c < h.next ∧ c ≠ b ∧ (∀ p ∈ k, p.1 ≠ c) ∧ h.get c = some (.cells (s.map byteV) e' ver'))
  keep : ∀ p ∈ k, p.1 < h.next ∧ p.1 ≠ b ∧ h.get p.1 = some p.2
theorem WR.add {k : List (Nat × Blk)} {h : Heap} {b : Nat} {s : List Nat} (w : WR k h b s) (x : Blk) : WR ((h.next, x) :: k) (h.mk' h.next x) b s := by
  have hn : (h.mk' h.next x).next = h.next + 1 := by rw [mk_next]; omega
  refine ⟨by rw [hn]; have := w.lt; omega, ?_, ?_⟩
  · obtain ⟨v, e, ver, h1, h2⟩ := w.out
    have hb := w.lt
    refine ⟨v, e, ver, by rw [Heap.get_mk, if_neg (by omega)]; exact h1, ?_⟩
    rcases h2 with h2 | ⟨c, e', ver', rfl, h3, h4, h5, h6⟩
    · exact .inl h2
    · refine .inr ⟨c, e', ver', rfl, by rw [hn]; omega, h4, ?_, by rw [Heap.get_mk, if_neg (by omega)]; exact h6⟩
      intro p hp
      rcases List.mem_cons.1 hp with rfl | hp
      · simp only; omega
      · exact h5 p hp
  · intro p hp
    rcases List.mem_cons.1 hp with rfl | hp
    · refine ⟨by rw [hn]; simp only; omega, by have := w.lt; simp only; omega, by simp only [Heap.get_mk, if_true]⟩
    · obtain ⟨h1, h2, h3⟩ := w.keep p hp
      exact ⟨by rw [hn]; omega, h2, by rw [Heap.get_mk, if_neg (by omega)]; exact h3⟩
theorem WR.upd {k : List (Nat × Blk)} {h : Heap} {b d : Nat} {B : Blk} {s : List Nat} (w : WR ((d, B) :: k) h b s) (hd : ∀ p ∈ k, p.1 ≠ d) (x : Blk) : WR ((d, x) :: k) (h.put d x) b s := by
  have hb : d ≠ b := (w.keep (d, B) List.mem_cons_self).2.1
  have hl : d < h.next := (w.keep (d, B) List.mem_cons_self).1
  refine ⟨w.lt, ?_, ?_⟩
  · obtain ⟨v, e, ver, h1, h2⟩ := w.out
    refine ⟨v, e, ver, by rw [Heap.get_put, if_neg (fun e => hb e.symm)]; exact h1, ?_⟩
    rcases h2 with h2 | ⟨c, e', ver', rfl, h3, h4, h5, h6⟩
    · exact .inl h2
    · have hc : d ≠ c := h5 (d, B) List.mem_cons_self
      refine .inr ⟨c, e', ver', rfl, h3, h4, ?_, by rw [Heap.get_put, if_neg (fun e => hc e.symm)]; exact h6⟩
      intro p hp
      rcases List.mem_cons.1 hp with rfl | hp
      · exact hc
      · exact h5 p (List.mem_cons_of_mem _ hp)
  · intro p hp
    rcases List.mem_cons.1 hp with rfl | hp
    · exact ⟨hl, hb, by simp only [Heap.get_put, if_true]⟩
    · obtain ⟨h1, h2, h3⟩ := w.keep p (List.mem_cons_of_mem _ hp)
      exact ⟨h1, h2, by rw [Heap.get_put, if_neg (hd p hp)]; exact h3⟩
theorem WR.fresh {k : List (Nat × Blk)} {h : Heap} {b : Nat} {s : List Nat} (w : WR k h b s) : ∀ p ∈ k, p.1 ≠ h.next := fun p hp e => by have := (w.keep p hp).1; omega
theorem WR.less {p : Nat × Blk} {k : List (Nat × Blk)} {h : Heap} {b : Nat} {s : List Nat} (w : WR (p :: k) h b s) : WR k h b s := by
  refine ⟨w.lt, ?_, fun q hq => w.keep q (List.mem_cons_of_mem _ hq)⟩
  obtain ⟨v, e, ver, h1, h2⟩ := w.out
  refine ⟨v, e, ver, h1, ?_⟩
  rcases h2 with h2 | ⟨c, e', ver', rfl, h3, h4, h5, h6⟩
  · exact .inl h2
  · exact .inr ⟨c, e', ver', rfl, h3, h4, fun q hq => h5 q (List.mem_cons_of_mem _ hq), h6⟩
theorem WR.next {k : List (Nat × Blk)} {h h0 : Heap} {b : Nat} {s t : List Nat} (w : WR k h b s) (hn : h0.next = h.next) (hg : ∀ p ∈ k, h0.get p.1 = h.get p.1) {e e' : TypeId} {ver v' : Nat} :
    WR k ((h0.mk' h.next (.cells (t.map byteV) e' v')).put b (.cells [.sl h.next 0 t.length t.length 1] e ver)) b t := by
  have hb := w.lt
  have hnx : ((h0.mk' h.next (.cells (t.map byteV) e' v')).put b (.cells [.sl h.next 0 t.length t.length 1] e ver)).next = h.next + 1 := by
    rw [put_next, mk_next]; omega
  refine ⟨by rw [hnx]; omega, ⟨_, e, ver, by rw [Heap.get_put, if_pos rfl], .inr ⟨h.next, e', v', rfl, by rw [hnx]; omega, by omega, ?_, ?_⟩⟩, ?_⟩
  · intro p hp; have := (w.keep p hp).1; omega
  · rw [Heap.get_put, if_neg (by omega), Heap.get_mk, if_pos rfl]
  · intro p hp
    obtain ⟨h1, h2, h3⟩ := w.keep p hp
    exact ⟨by rw [hnx]; omega, h2, by rw [Heap.get_put, if_neg h2, Heap.get_mk, if_neg (by omega), hg p hp, h3]⟩
section
variable {P : Program}
theorem wnum (g : Pg P tab) {x : Int} {n : Nat} (hp : Pu P 89 [.int .i64 x, .int .i64 n] (fun v => v = .str (numB x n))) (hn : 0 < n) {k : List (Nat × Blk)} {h : Heap} {b : Nat} {s : List Nat} (w : WR k h b s)
    (hl : s.length + n ≤ 140737488355328) {Q : AV → Heap → Prop} (q : ∀ v h', WR k h' b (s ++ numB x n) → Q v h') : Cl P 46 [.ptr b 0, .int .i64 x, .int .i64 n] h Q := by
  refine g.cl (vf := v46) rfl rfl ?_
  obtain ⟨v, e, ver, hb, ho⟩ := w.out
  have hlt := w.lt
  simp +contextual (maxSteps := 2000000) only [v46, RW, R0, R1, R2, R3, R4, R5, R6, R7, R8, R9, VOp.fresh, bxC, bsC, R10, un, most, callsOf, List.contains_nil, List.contains_cons, beq_iff_eq, List.getElem?_cons_zero, List.getElem?_cons_succ, seval, Option.map_none, Int.reducePow, ↓reduceIte, Nat.reduceEqDiff, reduceCtorEq, and_self]
  refine EvD.lk (fun f args h => (.str (numB x n), h)) ?_
  have hc : ∀ h, OK P 89 [.int .i64 x, .int .i64 n] h (.str (numB x n)) h := fun h => hp.exact rfl
  have hne : ¬ b = h.next := by omega
  rcases ho with ⟨rfl, rfl⟩ | ⟨c, e', ver', rfl, h3, h4, h5, h6⟩
  · have ha : ∀ h, appendV h 1 1 5 .nils (.str (numB x n)) = _ := fun h => app_nils (bs := numB x n) (by rw [numB_len]; omega) (by rw [numB_len]; simp at hl; omega)
    simp +contextual (maxSteps := 2000000) only [RW, hc, hb, ha, hne, R0, R1, R2, R3, R4, R5, R6, R7, R8, R9, VOp.fresh, bxC, bsC, R10, un, most, callsOf, List.contains_nil, List.contains_cons, beq_iff_eq, List.getElem?_cons_zero, List.getElem?_cons_succ, seval, Option.map_none, Int.reducePow, ↓reduceIte, Nat.reduceEqDiff, reduceCtorEq, and_self]
    refine ⟨⟨⟨?_, trivial⟩, trivial⟩, q _ _ (w.next rfl fun _ _ => rfl)⟩
    · show Lk _ _ _ _
      simp +contextual (maxSteps := 2000000) only [Lk, wanted, hb, R0, R1, R2, R3, R4, R5, R6, R7, R8, R9, VOp.fresh, bxC, bsC, R10, un, most, callsOf, List.contains_nil, List.contains_cons, beq_iff_eq, List.getElem?_cons_zero, List.getElem?_cons_succ, seval, Option.map_none, Int.reducePow, ↓reduceIte, Nat.reduceEqDiff, reduceCtorEq, and_self]
  · have ha := app_sl (bs := numB x n) h6 (by rw [numB_len]; omega) (by rw [numB_len]; omega)
    have h4' : ¬ b = c := fun e => h4 e.symm
    simp +contextual (maxSteps := 2000000) only [RW, hc, hb, ha, hne, h4', R0, R1, R2, R3, R4, R5, R6, R7, R8, R9, VOp.fresh, bxC, bsC, R10, un, most, callsOf, List.contains_nil, List.contains_cons, beq_iff_eq, List.getElem?_cons_zero, List.getElem?_cons_succ, seval, Option.map_none, Int.reducePow, ↓reduceIte, Nat.reduceEqDiff, reduceCtorEq, and_self]
    refine ⟨⟨⟨?_, trivial⟩, trivial⟩, q _ _ (w.next (h0 := h.put c .dead) rfl fun p hp => by rw [Heap.get_put, if_neg (h5 p hp)])⟩
    · show Lk _ _ _ _
      simp +contextual (maxSteps := 2000000) only [Lk, wanted, hb, R0, R1, R2, R3, R4, R5, R6, R7, R8, R9, VOp.fresh, bxC, bsC, R10, un, most, callsOf, List.contains_nil, List.contains_cons, beq_iff_eq, List.getElem?_cons_zero, List.getElem?_cons_succ, seval, Option.map_none, Int.reducePow, ↓reduceIte, Nat.reduceEqDiff, reduceCtorEq, and_self]
end
end Go.Proofs.Ytinonmcnofjeeaa.VM
