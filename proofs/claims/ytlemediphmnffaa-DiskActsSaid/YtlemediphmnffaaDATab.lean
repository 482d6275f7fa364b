/- The compiled functions are the program's: shown by the kernel, one by one. -/
import Derived.Test.YtlemediphmnffaaDAd
import Derived.Test.YtlemediphmnffaaDAPu
import Derived.Test.YtlemediphmnffaaChecked
namespace Go.Proofs.Ytlemediphmnffaa.VM
set_option linter.unusedSimpArgs false
set_option linter.unusedVariables false
set_option linter.defProp false
set_option maxHeartbeats 1000000
theorem tc4 : cFun Try.prog Try.f4 = some v4 := by kernel_rfl
theorem tm4 : Try.f4.name ≠ "runtime.NumGoroutine" := name_ne (by kernel_rfl)
theorem tc7 : cFun Try.prog Try.f7 = some v7 := by kernel_rfl
theorem tm7 : Try.f7.name ≠ "runtime.NumGoroutine" := name_ne (by kernel_rfl)
theorem tc8 : cFun Try.prog Try.f8 = some v8 := by kernel_rfl
theorem tm8 : Try.f8.name ≠ "runtime.NumGoroutine" := name_ne (by kernel_rfl)
theorem tc9 : cFun Try.prog Try.f9 = some v9 := by kernel_rfl
theorem tm9 : Try.f9.name ≠ "runtime.NumGoroutine" := name_ne (by kernel_rfl)
theorem tc10 : cFun Try.prog Try.f10 = some v10 := by kernel_rfl
theorem tm10 : Try.f10.name ≠ "runtime.NumGoroutine" := name_ne (by kernel_rfl)
theorem tc11 : cFun Try.prog Try.f11 = some v11 := by kernel_rfl
theorem tm11 : Try.f11.name ≠ "runtime.NumGoroutine" := name_ne (by kernel_rfl)
theorem tc12 : cFun Try.prog Try.f12 = some v12 := by kernel_rfl
theorem tm12 : Try.f12.name ≠ "runtime.NumGoroutine" := name_ne (by kernel_rfl)
theorem tc13 : cFun Try.prog Try.f13 = some v13 := by kernel_rfl
theorem tm13 : Try.f13.name ≠ "runtime.NumGoroutine" := name_ne (by kernel_rfl)
theorem tc14 : cFun Try.prog Try.f14 = some v14 := by kernel_rfl
theorem tm14 : Try.f14.name ≠ "runtime.NumGoroutine" := name_ne (by kernel_rfl)
theorem tc15 : cFun Try.prog Try.f15 = some v15 := by kernel_rfl
theorem tm15 : Try.f15.name ≠ "runtime.NumGoroutine" := name_ne (by kernel_rfl)
theorem tc16 : cFun Try.prog Try.f16 = some v16 := by kernel_rfl
theorem tm16 : Try.f16.name ≠ "runtime.NumGoroutine" := name_ne (by kernel_rfl)
theorem tc17 : cFun Try.prog Try.f17 = some v17 := by kernel_rfl
theorem tm17 : Try.f17.name ≠ "runtime.NumGoroutine" := name_ne (by kernel_rfl)
theorem tc18 : cFun Try.prog Try.f18 = some v18 := by kernel_rfl
theorem tm18 : Try.f18.name ≠ "runtime.NumGoroutine" := name_ne (by kernel_rfl)
theorem tc19 : cFun Try.prog Try.f19 = some v19 := by kernel_rfl
theorem tm19 : Try.f19.name ≠ "runtime.NumGoroutine" := name_ne (by kernel_rfl)
theorem tc20 : cFun Try.prog Try.f20 = some v20 := by kernel_rfl
theorem tm20 : Try.f20.name ≠ "runtime.NumGoroutine" := name_ne (by kernel_rfl)
theorem tc21 : cFun Try.prog Try.f21 = some v21 := by kernel_rfl
theorem tm21 : Try.f21.name ≠ "runtime.NumGoroutine" := name_ne (by kernel_rfl)
theorem tc22 : cFun Try.prog Try.f22 = some v22 := by kernel_rfl
theorem tm22 : Try.f22.name ≠ "runtime.NumGoroutine" := name_ne (by kernel_rfl)
theorem tc23 : cFun Try.prog Try.f23 = some v23 := by kernel_rfl
theorem tm23 : Try.f23.name ≠ "runtime.NumGoroutine" := name_ne (by kernel_rfl)
theorem tc24 : cFun Try.prog Try.f24 = some v24 := by kernel_rfl
theorem tm24 : Try.f24.name ≠ "runtime.NumGoroutine" := name_ne (by kernel_rfl)
theorem tc25 : cFun Try.prog Try.f25 = some v25 := by kernel_rfl
theorem tm25 : Try.f25.name ≠ "runtime.NumGoroutine" := name_ne (by kernel_rfl)
theorem tc28 : cFun Try.prog Try.f28 = some v28 := by kernel_rfl
theorem tm28 : Try.f28.name ≠ "runtime.NumGoroutine" := name_ne (by kernel_rfl)
theorem tc29 : cFun Try.prog Try.f29 = some v29 := by kernel_rfl
theorem tm29 : Try.f29.name ≠ "runtime.NumGoroutine" := name_ne (by kernel_rfl)
theorem tc30 : cFun Try.prog Try.f30 = some v30 := by kernel_rfl
theorem tm30 : Try.f30.name ≠ "runtime.NumGoroutine" := name_ne (by kernel_rfl)
theorem tc35 : cFun Try.prog Try.f35 = some v35 := by kernel_rfl
theorem tm35 : Try.f35.name ≠ "runtime.NumGoroutine" := name_ne (by kernel_rfl)
theorem tc37 : cFun Try.prog Try.f37 = some v37 := by kernel_rfl
theorem tm37 : Try.f37.name ≠ "runtime.NumGoroutine" := name_ne (by kernel_rfl)
theorem tc38 : cFun Try.prog Try.f38 = some v38 := by kernel_rfl
theorem tm38 : Try.f38.name ≠ "runtime.NumGoroutine" := name_ne (by kernel_rfl)
theorem pg : Pg Try.prog tab := by
  refine ⟨by kernel_rfl, table_ok fun p hp => ?_⟩
  simp only [List.mem_cons, List.not_mem_nil, or_false] at hp
  rcases hp with rfl | rfl | rfl | rfl | rfl | rfl | rfl | rfl | rfl | rfl | rfl | rfl | rfl | rfl | rfl | rfl | rfl | rfl | rfl | rfl | rfl | rfl | rfl | rfl | rfl | rfl
  · exact ⟨by decide, _, Try.func4, tc4, tm4⟩
  · exact ⟨by decide, _, Try.func7, tc7, tm7⟩
  · exact ⟨by decide, _, Try.func8, tc8, tm8⟩
  · exact ⟨by decide, _, Try.func9, tc9, tm9⟩
  · exact ⟨by decide, _, Try.func10, tc10, tm10⟩
  · exact ⟨by decide, _, Try.func11, tc11, tm11⟩
  · exact ⟨by decide, _, Try.func12, tc12, tm12⟩
  · exact ⟨by decide, _, Try.func13, tc13, tm13⟩
  · exact ⟨by decide, _, Try.func14, tc14, tm14⟩
  · exact ⟨by decide, _, Try.func15, tc15, tm15⟩
  · exact ⟨by decide, _, Try.func16, tc16, tm16⟩
  · exact ⟨by decide, _, Try.func17, tc17, tm17⟩
  · exact ⟨by decide, _, Try.func18, tc18, tm18⟩
  · exact ⟨by decide, _, Try.func19, tc19, tm19⟩
  · exact ⟨by decide, _, Try.func20, tc20, tm20⟩
  · exact ⟨by decide, _, Try.func21, tc21, tm21⟩
  · exact ⟨by decide, _, Try.func22, tc22, tm22⟩
  · exact ⟨by decide, _, Try.func23, tc23, tm23⟩
  · exact ⟨by decide, _, Try.func24, tc24, tm24⟩
  · exact ⟨by decide, _, Try.func25, tc25, tm25⟩
  · exact ⟨by decide, _, Try.func28, tc28, tm28⟩
  · exact ⟨by decide, _, Try.func29, tc29, tm29⟩
  · exact ⟨by decide, _, Try.func30, tc30, tm30⟩
  · exact ⟨by decide, _, Try.func35, tc35, tm35⟩
  · exact ⟨by decide, _, Try.func37, tc37, tm37⟩
  · exact ⟨by decide, _, Try.func38, tc38, tm38⟩
end Go.Proofs.Ytlemediphmnffaa.VM
