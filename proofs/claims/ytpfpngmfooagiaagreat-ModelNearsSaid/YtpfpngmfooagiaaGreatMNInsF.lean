/- slices.Insert of one feature, as the program holds it: the library's text at an element of three cells. -/
import Derived.Test.YtpfpngmfooagiaaGreatMNTab
import Derived.Shelf.Lays2
namespace Go.Proofs.YtpfpngmfooagiaaGreat.VM
set_option linter.unusedSimpArgs false
set_option linter.unusedVariables false
set_option linter.defProp false
set_option maxHeartbeats 1000000
open Go.Shelf
def insRen : Ren := ⟨fun | 21 => 46 | 27 => 77 | 28 => 78 | n => n, fun | 22 => 22 | 3 => 3 | 4 => 4 | 0 => 0 | n => n, fun n => n⟩
theorem insLF : InsL Tryz.prog insRen 49 40 (.agg #[.int .i64 0, .int .i64 0, .slice none 0 0]) #[.int .i64 0, .int .i64 0, .slice none 0 0] "slices.Insert[[]furlong/api.Feature,furlong/api.Feature]" #[22, 49] where
  mixed := by kernel_rfl
  f21 := Tryz.func46.trans (congrArg some (by kernel_rfl))
  ov := fun args w => run_callFunc_extern Tryz.func77 (by kernel_rfl) (by kernel_rfl) (by kernel_rfl) (e := Extern.SlicesOverlaps.overlaps #[22, 22] #[4]) (by kernel_rfl) args w
  t0 := Tryz.underlying0
  a0 := Tryz.isAgg0
  z0 := Tryz.sizeOf0
  v0 := Tryz.zeroValue0
  t3 := Tryz.underlying3
  a3 := Tryz.isAgg3
  z3 := Tryz.sizeOf3
  v3 := Tryz.zeroValue3
  t4 := Tryz.underlying4
  a4 := Tryz.isAgg4
  z4 := Tryz.sizeOf4
  v4 := Tryz.zeroValue4
  t22 := Tryz.underlying22
  a22 := Tryz.isAgg22
  z22 := Tryz.sizeOf22
  v22 := Tryz.zeroValue22
  ze := Tryz.sizeOf49
  ie := by kernel_rfl
  zcs := by kernel_rfl
  zl := by kernel_rfl
theorem insF : InsF Tryz.prog 46 49 := fun {H vb e2 ver2 x} hx ho hg =>
  ⟨insert3_nil_ok insLF (by decide) (by decide) (by decide) hx ho hg (by decide), fun {b n cap i e ver C} hgb hl hC hi hne hn => insert3_ok insLF (by decide) (by decide) (by decide) (zl := [.int .i64 0, .int .i64 0, .nils]) (fun φ w => .cons (.int _ _) (.cons (.int _ _) (.cons .nils .nil))) hgb hl hC hx ho hi hg hne (by omega)⟩
end Go.Proofs.YtpfpngmfooagiaaGreat.VM
