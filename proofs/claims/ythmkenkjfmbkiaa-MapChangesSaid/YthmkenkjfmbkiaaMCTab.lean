/- The compiled functions are the program's: shown by the kernel, one by one. -/
import Derived.Test.YthmkenkjfmbkiaaMCc
import Derived.Test.YthmkenkjfmbkiaaMCPu
import Derived.Test.YthmkenkjfmbkiaaChecked
namespace Go.Proofs.Ythmkenkjfmbkiaa.VM
set_option linter.unusedSimpArgs false
set_option linter.unusedVariables false
set_option linter.defProp false
set_option maxHeartbeats 1000000
theorem tc7 : cFun Try.prog Try.f7 = some v7 := by kernel_rfl
theorem tm7 : Try.f7.name ≠ "runtime.NumGoroutine" := name_ne (by kernel_rfl)
theorem tc17 : cFun Try.prog Try.f17 = some v17 := by kernel_rfl
theorem tm17 : Try.f17.name ≠ "runtime.NumGoroutine" := name_ne (by kernel_rfl)
theorem tc19 : cFun Try.prog Try.f19 = some v19 := by kernel_rfl
theorem tm19 : Try.f19.name ≠ "runtime.NumGoroutine" := name_ne (by kernel_rfl)
theorem tc30 : cFun Try.prog Try.f30 = some v30 := by kernel_rfl
theorem tm30 : Try.f30.name ≠ "runtime.NumGoroutine" := name_ne (by kernel_rfl)
theorem tc31 : cFun Try.prog Try.f31 = some v31 := by kernel_rfl
theorem tm31 : Try.f31.name ≠ "runtime.NumGoroutine" := name_ne (by kernel_rfl)
theorem tc32 : cFun Try.prog Try.f32 = some v32 := by kernel_rfl
theorem tm32 : Try.f32.name ≠ "runtime.NumGoroutine" := name_ne (by kernel_rfl)
theorem tc33 : cFun Try.prog Try.f33 = some v33 := by kernel_rfl
theorem tm33 : Try.f33.name ≠ "runtime.NumGoroutine" := name_ne (by kernel_rfl)
theorem tc34 : cFun Try.prog Try.f34 = some v34 := by kernel_rfl
theorem tm34 : Try.f34.name ≠ "runtime.NumGoroutine" := name_ne (by kernel_rfl)
theorem tc35 : cFun Try.prog Try.f35 = some v35 := by kernel_rfl
theorem tm35 : Try.f35.name ≠ "runtime.NumGoroutine" := name_ne (by kernel_rfl)
theorem tc39 : cFun Try.prog Try.f39 = some v39 := by kernel_rfl
theorem tm39 : Try.f39.name ≠ "runtime.NumGoroutine" := name_ne (by kernel_rfl)
theorem tc58 : cFun Try.prog Try.f58 = some v58 := by kernel_rfl
theorem tm58 : Try.f58.name ≠ "runtime.NumGoroutine" := name_ne (by kernel_rfl)
theorem tc59 : cFun Try.prog Try.f59 = some v59 := by kernel_rfl
theorem tm59 : Try.f59.name ≠ "runtime.NumGoroutine" := name_ne (by kernel_rfl)
theorem tc60 : cFun Try.prog Try.f60 = some v60 := by kernel_rfl
theorem tm60 : Try.f60.name ≠ "runtime.NumGoroutine" := name_ne (by kernel_rfl)
theorem tc61 : cFun Try.prog Try.f61 = some v61 := by kernel_rfl
theorem tm61 : Try.f61.name ≠ "runtime.NumGoroutine" := name_ne (by kernel_rfl)
theorem tc63 : cFun Try.prog Try.f63 = some v63 := by kernel_rfl
theorem tm63 : Try.f63.name ≠ "runtime.NumGoroutine" := name_ne (by kernel_rfl)
theorem tc64 : cFun Try.prog Try.f64 = some v64 := by kernel_rfl
theorem tm64 : Try.f64.name ≠ "runtime.NumGoroutine" := name_ne (by kernel_rfl)
theorem tc65 : cFun Try.prog Try.f65 = some v65 := by kernel_rfl
theorem tm65 : Try.f65.name ≠ "runtime.NumGoroutine" := name_ne (by kernel_rfl)
theorem tc82 : cFun Try.prog Try.f82 = some v82 := by kernel_rfl
theorem tm82 : Try.f82.name ≠ "runtime.NumGoroutine" := name_ne (by kernel_rfl)
theorem tc83 : cFun Try.prog Try.f83 = some v83 := by kernel_rfl
theorem tm83 : Try.f83.name ≠ "runtime.NumGoroutine" := name_ne (by kernel_rfl)
theorem tc85 : cFun Try.prog Try.f85 = some v85 := by kernel_rfl
theorem tm85 : Try.f85.name ≠ "runtime.NumGoroutine" := name_ne (by kernel_rfl)
theorem tc86 : cFun Try.prog Try.f86 = some v86 := by kernel_rfl
theorem tm86 : Try.f86.name ≠ "runtime.NumGoroutine" := name_ne (by kernel_rfl)
theorem tc87 : cFun Try.prog Try.f87 = some v87 := by kernel_rfl
theorem tm87 : Try.f87.name ≠ "runtime.NumGoroutine" := name_ne (by kernel_rfl)
theorem tc101 : cFun Try.prog Try.f101 = some v101 := by kernel_rfl
theorem tm101 : Try.f101.name ≠ "runtime.NumGoroutine" := name_ne (by kernel_rfl)
theorem tc102 : cFun Try.prog Try.f102 = some v102 := by kernel_rfl
theorem tm102 : Try.f102.name ≠ "runtime.NumGoroutine" := name_ne (by kernel_rfl)
theorem tc103 : cFun Try.prog Try.f103 = some v103 := by kernel_rfl
theorem tm103 : Try.f103.name ≠ "runtime.NumGoroutine" := name_ne (by kernel_rfl)
theorem tc104 : cFun Try.prog Try.f104 = some v104 := by kernel_rfl
theorem tm104 : Try.f104.name ≠ "runtime.NumGoroutine" := name_ne (by kernel_rfl)
theorem tc105 : cFun Try.prog Try.f105 = some v105 := by kernel_rfl
theorem tm105 : Try.f105.name ≠ "runtime.NumGoroutine" := name_ne (by kernel_rfl)
theorem tc106 : cFun Try.prog Try.f106 = some v106 := by kernel_rfl
theorem tm106 : Try.f106.name ≠ "runtime.NumGoroutine" := name_ne (by kernel_rfl)
theorem tc107 : cFun Try.prog Try.f107 = some v107 := by kernel_rfl
theorem tm107 : Try.f107.name ≠ "runtime.NumGoroutine" := name_ne (by kernel_rfl)
theorem tc108 : cFun Try.prog Try.f108 = some v108 := by kernel_rfl
theorem tm108 : Try.f108.name ≠ "runtime.NumGoroutine" := name_ne (by kernel_rfl)
theorem tc109 : cFun Try.prog Try.f109 = some v109 := by kernel_rfl
theorem tm109 : Try.f109.name ≠ "runtime.NumGoroutine" := name_ne (by kernel_rfl)
theorem tc110 : cFun Try.prog Try.f110 = some v110 := by kernel_rfl
theorem tm110 : Try.f110.name ≠ "runtime.NumGoroutine" := name_ne (by kernel_rfl)
theorem tc111 : cFun Try.prog Try.f111 = some v111 := by kernel_rfl
theorem tm111 : Try.f111.name ≠ "runtime.NumGoroutine" := name_ne (by kernel_rfl)
theorem tc112 : cFun Try.prog Try.f112 = some v112 := by kernel_rfl
theorem tm112 : Try.f112.name ≠ "runtime.NumGoroutine" := name_ne (by kernel_rfl)
theorem tc113 : cFun Try.prog Try.f113 = some v113 := by kernel_rfl
theorem tm113 : Try.f113.name ≠ "runtime.NumGoroutine" := name_ne (by kernel_rfl)
theorem tc121 : cFun Try.prog Try.f121 = some v121 := by kernel_rfl
theorem tm121 : Try.f121.name ≠ "runtime.NumGoroutine" := name_ne (by kernel_rfl)
theorem tc122 : cFun Try.prog Try.f122 = some v122 := by kernel_rfl
theorem tm122 : Try.f122.name ≠ "runtime.NumGoroutine" := name_ne (by kernel_rfl)
theorem tc123 : cFun Try.prog Try.f123 = some v123 := by kernel_rfl
theorem tm123 : Try.f123.name ≠ "runtime.NumGoroutine" := name_ne (by kernel_rfl)
theorem tc124 : cFun Try.prog Try.f124 = some v124 := by kernel_rfl
theorem tm124 : Try.f124.name ≠ "runtime.NumGoroutine" := name_ne (by kernel_rfl)
theorem tc125 : cFun Try.prog Try.f125 = some v125 := by kernel_rfl
theorem tm125 : Try.f125.name ≠ "runtime.NumGoroutine" := name_ne (by kernel_rfl)
theorem tc126 : cFun Try.prog Try.f126 = some v126 := by kernel_rfl
theorem tm126 : Try.f126.name ≠ "runtime.NumGoroutine" := name_ne (by kernel_rfl)
theorem tc127 : cFun Try.prog Try.f127 = some v127 := by kernel_rfl
theorem tm127 : Try.f127.name ≠ "runtime.NumGoroutine" := name_ne (by kernel_rfl)
theorem tc129 : cFun Try.prog Try.f129 = some v129 := by kernel_rfl
theorem tm129 : Try.f129.name ≠ "runtime.NumGoroutine" := name_ne (by kernel_rfl)
theorem pg : Pg Try.prog tab := by
  refine ⟨by kernel_rfl, table_ok fun p hp => ?_⟩
  simp only [List.mem_cons, List.not_mem_nil, or_false] at hp
  rcases hp with rfl | rfl | rfl | rfl | rfl | rfl | rfl | rfl | rfl | rfl | rfl | rfl | rfl | rfl | rfl | rfl | rfl | rfl | rfl | rfl | rfl | rfl | rfl | rfl | rfl | rfl | rfl | rfl | rfl | rfl | rfl | rfl | rfl | rfl | rfl | rfl | rfl | rfl | rfl | rfl | rfl | rfl | rfl
  · exact ⟨_, Try.func7, tc7, tm7⟩
  · exact ⟨_, Try.func17, tc17, tm17⟩
  · exact ⟨_, Try.func19, tc19, tm19⟩
  · exact ⟨_, Try.func30, tc30, tm30⟩
  · exact ⟨_, Try.func31, tc31, tm31⟩
  · exact ⟨_, Try.func32, tc32, tm32⟩
  · exact ⟨_, Try.func33, tc33, tm33⟩
  · exact ⟨_, Try.func34, tc34, tm34⟩
  · exact ⟨_, Try.func35, tc35, tm35⟩
  · exact ⟨_, Try.func39, tc39, tm39⟩
  · exact ⟨_, Try.func58, tc58, tm58⟩
  · exact ⟨_, Try.func59, tc59, tm59⟩
  · exact ⟨_, Try.func60, tc60, tm60⟩
  · exact ⟨_, Try.func61, tc61, tm61⟩
  · exact ⟨_, Try.func63, tc63, tm63⟩
  · exact ⟨_, Try.func64, tc64, tm64⟩
  · exact ⟨_, Try.func65, tc65, tm65⟩
  · exact ⟨_, Try.func82, tc82, tm82⟩
  · exact ⟨_, Try.func83, tc83, tm83⟩
  · exact ⟨_, Try.func85, tc85, tm85⟩
  · exact ⟨_, Try.func86, tc86, tm86⟩
  · exact ⟨_, Try.func87, tc87, tm87⟩
  · exact ⟨_, Try.func101, tc101, tm101⟩
  · exact ⟨_, Try.func102, tc102, tm102⟩
  · exact ⟨_, Try.func103, tc103, tm103⟩
  · exact ⟨_, Try.func104, tc104, tm104⟩
  · exact ⟨_, Try.func105, tc105, tm105⟩
  · exact ⟨_, Try.func106, tc106, tm106⟩
  · exact ⟨_, Try.func107, tc107, tm107⟩
  · exact ⟨_, Try.func108, tc108, tm108⟩
  · exact ⟨_, Try.func109, tc109, tm109⟩
  · exact ⟨_, Try.func110, tc110, tm110⟩
  · exact ⟨_, Try.func111, tc111, tm111⟩
  · exact ⟨_, Try.func112, tc112, tm112⟩
  · exact ⟨_, Try.func113, tc113, tm113⟩
  · exact ⟨_, Try.func121, tc121, tm121⟩
  · exact ⟨_, Try.func122, tc122, tm122⟩
  · exact ⟨_, Try.func123, tc123, tm123⟩
  · exact ⟨_, Try.func124, tc124, tm124⟩
  · exact ⟨_, Try.func125, tc125, tm125⟩
  · exact ⟨_, Try.func126, tc126, tm126⟩
  · exact ⟨_, Try.func127, tc127, tm127⟩
  · exact ⟨_, Try.func129, tc129, tm129⟩
end Go.Proofs.Ythmkenkjfmbkiaa.VM
