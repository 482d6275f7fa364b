/- Closed calls of the program's records, run by the kernel. -/
import Derived.Test.YtinonmcnofjeeaaL11Rec
import Derived.KernelRfl
namespace Go.Proofs.Ytinonmcnofjeeaa.VM
set_option linter.unusedSimpArgs false
set_option linter.unusedVariables false
set_option linter.defProp false
set_option maxHeartbeats 1000000
attribute [local irreducible] Af Nx EvO Ev Un Gd Cd EvR EvQ EvC Nc Gc Lp
def rec5 (k : List AV) : List AV := k
/-- the sign of an answer -/
def numOf : AV → Bool
  | .tup [.str _, .int .i64 (.ofNat 0)] => true
  | _ => false
section
variable {P : Program}
theorem awake_pu (g : Pg P tab) : Pu P 23 [] (fun v => v = .bool true) := g.run (n := 400) (by kernel_rfl)
theorem good_pu (g : Pg P tab) : Pu P 15 [.agg [.int .i64 1, .int .i64 1, .int .i64 2, .int .i64 3, .bool false, .int .i64 0, .nils, .nils, .rs [.int .i64 0, .int .i64 5, .int .i64 0, .rs [.rs [.int .i64 6, .int .i64 7] 1] 1, .int .i64 0, .int .i64 0, .nils, .nils, .int .i64 1, .int .i64 0, .int .i64 0, .nils, .int .i64 9, .int .i64 0, .nils, .nils] 2]] (fun v => numOf v = true) :=
  g.runB (n := 400) numOf (by kernel_rfl)
end
end Go.Proofs.Ytinonmcnofjeeaa.VM
