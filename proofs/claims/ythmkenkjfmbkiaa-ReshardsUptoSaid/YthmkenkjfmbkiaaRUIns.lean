/- slices.Insert of one number stands in the program as in the library's contract. -/
import Derived.Test.YthmkenkjfmbkiaaRUTab
import Derived.Shelf.Lays2
namespace Go.Proofs.Ythmkenkjfmbkiaa.VM
set_option linter.unusedSimpArgs false
set_option linter.unusedVariables false
set_option linter.defProp false
set_option maxHeartbeats 1000000
open Go.Shelf
def insRen : Ren := ⟨fun | 21 => 60 | 27 => 84 | 28 => 85 | 35 => 103 | 39 => 122 | n => n, fun | 22 => 22 | 3 => 3 | 4 => 4 | 0 => 0 | n => n, fun n => n⟩
theorem insLays : Lays2.n21 Try.prog insRen where
  mixed := by kernel_rfl
  f21 := Try.func60.trans (congrArg some (by kernel_rfl))
  f27 := Try.func84.trans (congrArg some (by kernel_rfl))
  f28 := Try.func85.trans (congrArg some (by kernel_rfl))
  f35 := Try.func103.trans (congrArg some (by kernel_rfl))
  f39 := Try.func122.trans (congrArg some (by kernel_rfl))
  t0 := Try.underlying0
  a0 := Try.isAgg0
  z0 := Try.sizeOf0
  v0 := Try.zeroValue0
  t3 := Try.underlying3
  a3 := Try.isAgg3
  z3 := Try.sizeOf3
  v3 := Try.zeroValue3
  t4 := Try.underlying4
  a4 := Try.isAgg4
  z4 := Try.sizeOf4
  v4 := Try.zeroValue4
  t22 := Try.underlying22
  a22 := Try.isAgg22
  z22 := Try.sizeOf22
  v22 := Try.zeroValue22
  i3 := by kernel_rfl
theorem insOk : InsOk Try.prog := fun hg hl ho hx hi hgv hne hsm => insert_ok insLays (by decide) hg hl ho hx hi hgv hne hsm (fun _ _ => trivial)
end Go.Proofs.Ythmkenkjfmbkiaa.VM
