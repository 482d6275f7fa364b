/- The compiled functions are the program's: shown by the kernel, one by one. -/
import Derived.Test.YtakibdcemgahaaaL5Lit
import Derived.Test.YtakibdcemgahaaaPuRow
import Derived.Test.YtakibdcemgahaaaChecked
namespace Go.Proofs.Ytakibdcemgahaaa.VM
set_option linter.unusedSimpArgs false
set_option linter.unusedVariables false
set_option linter.defProp false
set_option maxHeartbeats 1000000
theorem c5 : cFun Try.prog Try.f5 = some v5 := by kernel_rfl
theorem m5 : Try.f5.name ≠ "runtime.NumGoroutine" := name_ne (by kernel_rfl)
theorem c7 : cFun Try.prog Try.f7 = some v7 := by kernel_rfl
theorem m7 : Try.f7.name ≠ "runtime.NumGoroutine" := name_ne (by kernel_rfl)
theorem c12 : cFun Try.prog Try.f12 = some v12 := by kernel_rfl
theorem m12 : Try.f12.name ≠ "runtime.NumGoroutine" := name_ne (by kernel_rfl)
theorem c14 : cFun Try.prog Try.f14 = some v14 := by kernel_rfl
theorem m14 : Try.f14.name ≠ "runtime.NumGoroutine" := name_ne (by kernel_rfl)
theorem c15 : cFun Try.prog Try.f15 = some v15 := by kernel_rfl
theorem m15 : Try.f15.name ≠ "runtime.NumGoroutine" := name_ne (by kernel_rfl)
theorem c8 : cFun Try.prog Try.f8 = some v8 := by kernel_rfl
theorem m8 : Try.f8.name ≠ "runtime.NumGoroutine" := name_ne (by kernel_rfl)
theorem c10 : cFun Try.prog Try.f10 = some v10 := by kernel_rfl
theorem m10 : Try.f10.name ≠ "runtime.NumGoroutine" := name_ne (by kernel_rfl)
theorem c16 : cFun Try.prog Try.f16 = some v16 := by kernel_rfl
theorem m16 : Try.f16.name ≠ "runtime.NumGoroutine" := name_ne (by kernel_rfl)
theorem c18 : cFun Try.prog Try.f18 = some v18 := by kernel_rfl
theorem m18 : Try.f18.name ≠ "runtime.NumGoroutine" := name_ne (by kernel_rfl)
theorem c19 : cFun Try.prog Try.f19 = some v19 := by kernel_rfl
theorem m19 : Try.f19.name ≠ "runtime.NumGoroutine" := name_ne (by kernel_rfl)
theorem pg : Pg Try.prog tab := by
  refine ⟨by kernel_rfl, table_ok fun p hp => ?_⟩
  simp only [List.mem_cons, List.not_mem_nil, or_false] at hp
  rcases hp with rfl | rfl | rfl | rfl | rfl | rfl | rfl | rfl | rfl | rfl
  · exact ⟨_, Try.func5, c5, m5⟩
  · exact ⟨_, Try.func7, c7, m7⟩
  · exact ⟨_, Try.func12, c12, m12⟩
  · exact ⟨_, Try.func14, c14, m14⟩
  · exact ⟨_, Try.func15, c15, m15⟩
  · exact ⟨_, Try.func8, c8, m8⟩
  · exact ⟨_, Try.func10, c10, m10⟩
  · exact ⟨_, Try.func16, c16, m16⟩
  · exact ⟨_, Try.func18, c18, m18⟩
  · exact ⟨_, Try.func19, c19, m19⟩
end Go.Proofs.Ytakibdcemgahaaa.VM
