/- slices.Insert of one feature, as the program holds it: the library's text at an element of three cells. -/
import Derived.Test.YtpfpngmfooagiaaMFTab
import Derived.Shelf.Lays2
namespace Go.Proofs.Ytpfpngmfooagiaa.VM
set_option linter.unusedSimpArgs false
set_option linter.unusedVariables false
set_option linter.defProp false
set_option maxHeartbeats 1000000
open Go.Shelf
def insRen : Ren := ⟨fun | 21 => 22 | 27 => 33 | 28 => 34 | n => n, fun | 22 => 22 | 3 => 3 | 4 => 4 | 0 => 0 | n => n, fun n => n⟩
theorem insLF : InsL Try.prog insRen 31 40 (.agg #[.int .i64 0, .int .i64 0, .slice none 0 0]) #[.int .i64 0, .int .i64 0, .slice none 0 0] "slices.Insert[[]furlong/api.Feature,furlong/api.Feature]" #[22, 31] where
  mixed := by kernel_rfl
  f21 := Try.func22.trans (congrArg some (by kernel_rfl))
  ov := fun args w => run_callFunc_extern Try.func33 (by kernel_rfl) (by kernel_rfl) (by kernel_rfl) (e := Extern.SlicesOverlaps.overlaps #[22, 22] #[4]) (by kernel_rfl) args w
  t0 := Try.underlying0
  a0 := Try.isAgg0
  z0 := Try.sizeOf0
  v0 := Try.zeroValue0
  t3 := Try.underlying3
  a3 := Try.isAgg3
  z3 := Try.sizeOf3
  v3 := Try.zeroValue3
  t4 := Try.underlying4
  a4 := Try.isAgg4
  z4 := Try.sizeOf4
  v4 := Try.zeroValue4
  t22 := Try.underlying22
  a22 := Try.isAgg22
  z22 := Try.sizeOf22
  v22 := Try.zeroValue22
  ze := Try.sizeOf31
  ie := by kernel_rfl
  zcs := by kernel_rfl
  zl := by kernel_rfl
theorem insF : InsF Try.prog 22 31 := fun {H vb e2 ver2 x} hx ho hg =>
  ⟨insert3_nil_ok insLF (by decide) (by decide) (by decide) hx ho hg (by decide), fun {b n cap i e ver C} hgb hl hC hi hne hn => insert3_ok insLF (by decide) (by decide) (by decide) (zl := [.int .i64 0, .int .i64 0, .nils]) (fun φ w => .cons (.int _ _) (.cons (.int _ _) (.cons .nils .nil))) hgb hl hC hx ho hi hg hne (by omega)⟩
end Go.Proofs.Ytpfpngmfooagiaa.VM
