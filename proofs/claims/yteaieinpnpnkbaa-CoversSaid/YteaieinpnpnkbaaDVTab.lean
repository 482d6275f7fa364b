/- The compiled functions are the program's: shown by the kernel, one by one. -/
import Derived.Test.YteaieinpnpnkbaaDVd
import Derived.Test.YteaieinpnpnkbaaDVPu
import Derived.Test.YteaieinpnpnkbaaChecked
namespace Go.Proofs.Yteaieinpnpnkbaa.VM
set_option linter.unusedSimpArgs false
set_option linter.unusedVariables false
set_option linter.defProp false
set_option maxHeartbeats 1000000
theorem tc3 : cFun Try.prog Try.f3 = some v3 := by kernel_rfl
theorem tm3 : Try.f3.name ≠ "runtime.NumGoroutine" := name_ne (by kernel_rfl)
theorem tc9 : cFun Try.prog Try.f9 = some v9 := by kernel_rfl
theorem tm9 : Try.f9.name ≠ "runtime.NumGoroutine" := name_ne (by kernel_rfl)
theorem tc10 : cFun Try.prog Try.f10 = some v10 := by kernel_rfl
theorem tm10 : Try.f10.name ≠ "runtime.NumGoroutine" := name_ne (by kernel_rfl)
theorem tc11 : cFun Try.prog Try.f11 = some v11 := by kernel_rfl
theorem tm11 : Try.f11.name ≠ "runtime.NumGoroutine" := name_ne (by kernel_rfl)
theorem tc12 : cFun Try.prog Try.f12 = some v12 := by kernel_rfl
theorem tm12 : Try.f12.name ≠ "runtime.NumGoroutine" := name_ne (by kernel_rfl)
theorem tc13 : cFun Try.prog Try.f13 = some v13 := by kernel_rfl
theorem tm13 : Try.f13.name ≠ "runtime.NumGoroutine" := name_ne (by kernel_rfl)
theorem tc14 : cFun Try.prog Try.f14 = some v14 := by kernel_rfl
theorem tm14 : Try.f14.name ≠ "runtime.NumGoroutine" := name_ne (by kernel_rfl)
theorem tc15 : cFun Try.prog Try.f15 = some v15 := by kernel_rfl
theorem tm15 : Try.f15.name ≠ "runtime.NumGoroutine" := name_ne (by kernel_rfl)
theorem tc16 : cFun Try.prog Try.f16 = some v16 := by kernel_rfl
theorem tm16 : Try.f16.name ≠ "runtime.NumGoroutine" := name_ne (by kernel_rfl)
theorem tc17 : cFun Try.prog Try.f17 = some v17 := by kernel_rfl
theorem tm17 : Try.f17.name ≠ "runtime.NumGoroutine" := name_ne (by kernel_rfl)
theorem tc18 : cFun Try.prog Try.f18 = some v18 := by kernel_rfl
theorem tm18 : Try.f18.name ≠ "runtime.NumGoroutine" := name_ne (by kernel_rfl)
theorem tc19 : cFun Try.prog Try.f19 = some v19 := by kernel_rfl
theorem tm19 : Try.f19.name ≠ "runtime.NumGoroutine" := name_ne (by kernel_rfl)
theorem tc20 : cFun Try.prog Try.f20 = some v20 := by kernel_rfl
theorem tm20 : Try.f20.name ≠ "runtime.NumGoroutine" := name_ne (by kernel_rfl)
theorem tc21 : cFun Try.prog Try.f21 = some v21 := by kernel_rfl
theorem tm21 : Try.f21.name ≠ "runtime.NumGoroutine" := name_ne (by kernel_rfl)
theorem tc22 : cFun Try.prog Try.f22 = some v22 := by kernel_rfl
theorem tm22 : Try.f22.name ≠ "runtime.NumGoroutine" := name_ne (by kernel_rfl)
theorem tc23 : cFun Try.prog Try.f23 = some v23 := by kernel_rfl
theorem tm23 : Try.f23.name ≠ "runtime.NumGoroutine" := name_ne (by kernel_rfl)
theorem tc24 : cFun Try.prog Try.f24 = some v24 := by kernel_rfl
theorem tm24 : Try.f24.name ≠ "runtime.NumGoroutine" := name_ne (by kernel_rfl)
theorem tc27 : cFun Try.prog Try.f27 = some v27 := by kernel_rfl
theorem tm27 : Try.f27.name ≠ "runtime.NumGoroutine" := name_ne (by kernel_rfl)
theorem tc28 : cFun Try.prog Try.f28 = some v28 := by kernel_rfl
theorem tm28 : Try.f28.name ≠ "runtime.NumGoroutine" := name_ne (by kernel_rfl)
theorem tc29 : cFun Try.prog Try.f29 = some v29 := by kernel_rfl
theorem tm29 : Try.f29.name ≠ "runtime.NumGoroutine" := name_ne (by kernel_rfl)
theorem tc31 : cFun Try.prog Try.f31 = some v31 := by kernel_rfl
theorem tm31 : Try.f31.name ≠ "runtime.NumGoroutine" := name_ne (by kernel_rfl)
theorem tc32 : cFun Try.prog Try.f32 = some v32 := by kernel_rfl
theorem tm32 : Try.f32.name ≠ "runtime.NumGoroutine" := name_ne (by kernel_rfl)
theorem tc33 : cFun Try.prog Try.f33 = some v33 := by kernel_rfl
theorem tm33 : Try.f33.name ≠ "runtime.NumGoroutine" := name_ne (by kernel_rfl)
theorem tc34 : cFun Try.prog Try.f34 = some v34 := by kernel_rfl
theorem tm34 : Try.f34.name ≠ "runtime.NumGoroutine" := name_ne (by kernel_rfl)
theorem tc35 : cFun Try.prog Try.f35 = some v35 := by kernel_rfl
theorem tm35 : Try.f35.name ≠ "runtime.NumGoroutine" := name_ne (by kernel_rfl)
theorem tc36 : cFun Try.prog Try.f36 = some v36 := by kernel_rfl
theorem tm36 : Try.f36.name ≠ "runtime.NumGoroutine" := name_ne (by kernel_rfl)
theorem tc37 : cFun Try.prog Try.f37 = some v37 := by kernel_rfl
theorem tm37 : Try.f37.name ≠ "runtime.NumGoroutine" := name_ne (by kernel_rfl)
theorem tc38 : cFun Try.prog Try.f38 = some v38 := by kernel_rfl
theorem tm38 : Try.f38.name ≠ "runtime.NumGoroutine" := name_ne (by kernel_rfl)
theorem tc39 : cFun Try.prog Try.f39 = some v39 := by kernel_rfl
theorem tm39 : Try.f39.name ≠ "runtime.NumGoroutine" := name_ne (by kernel_rfl)
theorem tc40 : cFun Try.prog Try.f40 = some v40 := by kernel_rfl
theorem tm40 : Try.f40.name ≠ "runtime.NumGoroutine" := name_ne (by kernel_rfl)
theorem tc42 : cFun Try.prog Try.f42 = some v42 := by kernel_rfl
theorem tm42 : Try.f42.name ≠ "runtime.NumGoroutine" := name_ne (by kernel_rfl)
theorem tc43 : cFun Try.prog Try.f43 = some v43 := by kernel_rfl
theorem tm43 : Try.f43.name ≠ "runtime.NumGoroutine" := name_ne (by kernel_rfl)
theorem tc46 : cFun Try.prog Try.f46 = some v46 := by kernel_rfl
theorem tm46 : Try.f46.name ≠ "runtime.NumGoroutine" := name_ne (by kernel_rfl)
theorem tc47 : cFun Try.prog Try.f47 = some v47 := by kernel_rfl
theorem tm47 : Try.f47.name ≠ "runtime.NumGoroutine" := name_ne (by kernel_rfl)
theorem tc60 : cFun Try.prog Try.f60 = some v60 := by kernel_rfl
theorem tm60 : Try.f60.name ≠ "runtime.NumGoroutine" := name_ne (by kernel_rfl)
theorem pg : Pg Try.prog tab := by
  refine ⟨by kernel_rfl, table_ok fun p hp => ?_⟩
  simp only [List.mem_cons, List.not_mem_nil, or_false] at hp
  rcases hp with rfl | rfl | rfl | rfl | rfl | rfl | rfl | rfl | rfl | rfl | rfl | rfl | rfl | rfl | rfl | rfl | rfl | rfl | rfl | rfl | rfl | rfl | rfl | rfl | rfl | rfl | rfl | rfl | rfl | rfl | rfl | rfl | rfl | rfl | rfl
  · exact ⟨_, Try.func3, tc3, tm3⟩
  · exact ⟨_, Try.func9, tc9, tm9⟩
  · exact ⟨_, Try.func10, tc10, tm10⟩
  · exact ⟨_, Try.func11, tc11, tm11⟩
  · exact ⟨_, Try.func12, tc12, tm12⟩
  · exact ⟨_, Try.func13, tc13, tm13⟩
  · exact ⟨_, Try.func14, tc14, tm14⟩
  · exact ⟨_, Try.func15, tc15, tm15⟩
  · exact ⟨_, Try.func16, tc16, tm16⟩
  · exact ⟨_, Try.func17, tc17, tm17⟩
  · exact ⟨_, Try.func18, tc18, tm18⟩
  · exact ⟨_, Try.func19, tc19, tm19⟩
  · exact ⟨_, Try.func20, tc20, tm20⟩
  · exact ⟨_, Try.func21, tc21, tm21⟩
  · exact ⟨_, Try.func22, tc22, tm22⟩
  · exact ⟨_, Try.func23, tc23, tm23⟩
  · exact ⟨_, Try.func24, tc24, tm24⟩
  · exact ⟨_, Try.func27, tc27, tm27⟩
  · exact ⟨_, Try.func28, tc28, tm28⟩
  · exact ⟨_, Try.func29, tc29, tm29⟩
  · exact ⟨_, Try.func31, tc31, tm31⟩
  · exact ⟨_, Try.func32, tc32, tm32⟩
  · exact ⟨_, Try.func33, tc33, tm33⟩
  · exact ⟨_, Try.func34, tc34, tm34⟩
  · exact ⟨_, Try.func35, tc35, tm35⟩
  · exact ⟨_, Try.func36, tc36, tm36⟩
  · exact ⟨_, Try.func37, tc37, tm37⟩
  · exact ⟨_, Try.func38, tc38, tm38⟩
  · exact ⟨_, Try.func39, tc39, tm39⟩
  · exact ⟨_, Try.func40, tc40, tm40⟩
  · exact ⟨_, Try.func42, tc42, tm42⟩
  · exact ⟨_, Try.func43, tc43, tm43⟩
  · exact ⟨_, Try.func46, tc46, tm46⟩
  · exact ⟨_, Try.func47, tc47, tm47⟩
  · exact ⟨_, Try.func60, tc60, tm60⟩
end Go.Proofs.Yteaieinpnpnkbaa.VM
