/- The compiled functions are the program's: shown by the kernel, one by one. -/
import Derived.Test.YthmkenkjfmbkiaaRFd
import Derived.Test.YthmkenkjfmbkiaaRFPu
import Derived.Test.YthmkenkjfmbkiaaChecked
namespace Go.Proofs.Ythmkenkjfmbkiaa.VM
set_option linter.unusedSimpArgs false
set_option linter.unusedVariables false
set_option linter.defProp false
set_option maxHeartbeats 1000000
theorem tc5 : cFun Try.prog Try.f5 = some v5 := by kernel_rfl
theorem tm5 : Try.f5.name ≠ "runtime.NumGoroutine" := name_ne (by kernel_rfl)
theorem tc14 : cFun Try.prog Try.f14 = some v14 := by kernel_rfl
theorem tm14 : Try.f14.name ≠ "runtime.NumGoroutine" := name_ne (by kernel_rfl)
theorem tc17 : cFun Try.prog Try.f17 = some v17 := by kernel_rfl
theorem tm17 : Try.f17.name ≠ "runtime.NumGoroutine" := name_ne (by kernel_rfl)
theorem tc19 : cFun Try.prog Try.f19 = some v19 := by kernel_rfl
theorem tm19 : Try.f19.name ≠ "runtime.NumGoroutine" := name_ne (by kernel_rfl)
theorem tc21 : cFun Try.prog Try.f21 = some v21 := by kernel_rfl
theorem tm21 : Try.f21.name ≠ "runtime.NumGoroutine" := name_ne (by kernel_rfl)
theorem tc26 : cFun Try.prog Try.f26 = some v26 := by kernel_rfl
theorem tm26 : Try.f26.name ≠ "runtime.NumGoroutine" := name_ne (by kernel_rfl)
theorem tc28 : cFun Try.prog Try.f28 = some v28 := by kernel_rfl
theorem tm28 : Try.f28.name ≠ "runtime.NumGoroutine" := name_ne (by kernel_rfl)
theorem tc29 : cFun Try.prog Try.f29 = some v29 := by kernel_rfl
theorem tm29 : Try.f29.name ≠ "runtime.NumGoroutine" := name_ne (by kernel_rfl)
theorem tc30 : cFun Try.prog Try.f30 = some v30 := by kernel_rfl
theorem tm30 : Try.f30.name ≠ "runtime.NumGoroutine" := name_ne (by kernel_rfl)
theorem tc32 : cFun Try.prog Try.f32 = some v32 := by kernel_rfl
theorem tm32 : Try.f32.name ≠ "runtime.NumGoroutine" := name_ne (by kernel_rfl)
theorem tc35 : cFun Try.prog Try.f35 = some v35 := by kernel_rfl
theorem tm35 : Try.f35.name ≠ "runtime.NumGoroutine" := name_ne (by kernel_rfl)
theorem tc42 : cFun Try.prog Try.f42 = some v42 := by kernel_rfl
theorem tm42 : Try.f42.name ≠ "runtime.NumGoroutine" := name_ne (by kernel_rfl)
theorem tc46 : cFun Try.prog Try.f46 = some v46 := by kernel_rfl
theorem tm46 : Try.f46.name ≠ "runtime.NumGoroutine" := name_ne (by kernel_rfl)
theorem tc47 : cFun Try.prog Try.f47 = some v47 := by kernel_rfl
theorem tm47 : Try.f47.name ≠ "runtime.NumGoroutine" := name_ne (by kernel_rfl)
theorem tc56 : cFun Try.prog Try.f56 = some v56 := by kernel_rfl
theorem tm56 : Try.f56.name ≠ "runtime.NumGoroutine" := name_ne (by kernel_rfl)
theorem tc57 : cFun Try.prog Try.f57 = some v57 := by kernel_rfl
theorem tm57 : Try.f57.name ≠ "runtime.NumGoroutine" := name_ne (by kernel_rfl)
theorem tc58 : cFun Try.prog Try.f58 = some v58 := by kernel_rfl
theorem tm58 : Try.f58.name ≠ "runtime.NumGoroutine" := name_ne (by kernel_rfl)
theorem tc59 : cFun Try.prog Try.f59 = some v59 := by kernel_rfl
theorem tm59 : Try.f59.name ≠ "runtime.NumGoroutine" := name_ne (by kernel_rfl)
theorem tc60 : cFun Try.prog Try.f60 = some v60 := by kernel_rfl
theorem tm60 : Try.f60.name ≠ "runtime.NumGoroutine" := name_ne (by kernel_rfl)
theorem tc61 : cFun Try.prog Try.f61 = some v61 := by kernel_rfl
theorem tm61 : Try.f61.name ≠ "runtime.NumGoroutine" := name_ne (by kernel_rfl)
theorem tc72 : cFun Try.prog Try.f72 = some v72 := by kernel_rfl
theorem tm72 : Try.f72.name ≠ "runtime.NumGoroutine" := name_ne (by kernel_rfl)
theorem tc73 : cFun Try.prog Try.f73 = some v73 := by kernel_rfl
theorem tm73 : Try.f73.name ≠ "runtime.NumGoroutine" := name_ne (by kernel_rfl)
theorem tc74 : cFun Try.prog Try.f74 = some v74 := by kernel_rfl
theorem tm74 : Try.f74.name ≠ "runtime.NumGoroutine" := name_ne (by kernel_rfl)
theorem tc82 : cFun Try.prog Try.f82 = some v82 := by kernel_rfl
theorem tm82 : Try.f82.name ≠ "runtime.NumGoroutine" := name_ne (by kernel_rfl)
theorem tc83 : cFun Try.prog Try.f83 = some v83 := by kernel_rfl
theorem tm83 : Try.f83.name ≠ "runtime.NumGoroutine" := name_ne (by kernel_rfl)
theorem tc85 : cFun Try.prog Try.f85 = some v85 := by kernel_rfl
theorem tm85 : Try.f85.name ≠ "runtime.NumGoroutine" := name_ne (by kernel_rfl)
theorem tc88 : cFun Try.prog Try.f88 = some v88 := by kernel_rfl
theorem tm88 : Try.f88.name ≠ "runtime.NumGoroutine" := name_ne (by kernel_rfl)
theorem tc96 : cFun Try.prog Try.f96 = some v96 := by kernel_rfl
theorem tm96 : Try.f96.name ≠ "runtime.NumGoroutine" := name_ne (by kernel_rfl)
theorem tc97 : cFun Try.prog Try.f97 = some v97 := by kernel_rfl
theorem tm97 : Try.f97.name ≠ "runtime.NumGoroutine" := name_ne (by kernel_rfl)
theorem tc101 : cFun Try.prog Try.f101 = some v101 := by kernel_rfl
theorem tm101 : Try.f101.name ≠ "runtime.NumGoroutine" := name_ne (by kernel_rfl)
theorem tc102 : cFun Try.prog Try.f102 = some v102 := by kernel_rfl
theorem tm102 : Try.f102.name ≠ "runtime.NumGoroutine" := name_ne (by kernel_rfl)
theorem tc103 : cFun Try.prog Try.f103 = some v103 := by kernel_rfl
theorem tm103 : Try.f103.name ≠ "runtime.NumGoroutine" := name_ne (by kernel_rfl)
theorem tc114 : cFun Try.prog Try.f114 = some v114 := by kernel_rfl
theorem tm114 : Try.f114.name ≠ "runtime.NumGoroutine" := name_ne (by kernel_rfl)
theorem tc115 : cFun Try.prog Try.f115 = some v115 := by kernel_rfl
theorem tm115 : Try.f115.name ≠ "runtime.NumGoroutine" := name_ne (by kernel_rfl)
theorem tc116 : cFun Try.prog Try.f116 = some v116 := by kernel_rfl
theorem tm116 : Try.f116.name ≠ "runtime.NumGoroutine" := name_ne (by kernel_rfl)
theorem tc117 : cFun Try.prog Try.f117 = some v117 := by kernel_rfl
theorem tm117 : Try.f117.name ≠ "runtime.NumGoroutine" := name_ne (by kernel_rfl)
theorem tc119 : cFun Try.prog Try.f119 = some v119 := by kernel_rfl
theorem tm119 : Try.f119.name ≠ "runtime.NumGoroutine" := name_ne (by kernel_rfl)
theorem tc121 : cFun Try.prog Try.f121 = some v121 := by kernel_rfl
theorem tm121 : Try.f121.name ≠ "runtime.NumGoroutine" := name_ne (by kernel_rfl)
theorem tc122 : cFun Try.prog Try.f122 = some v122 := by kernel_rfl
theorem tm122 : Try.f122.name ≠ "runtime.NumGoroutine" := name_ne (by kernel_rfl)
theorem tc128 : cFun Try.prog Try.f128 = some v128 := by kernel_rfl
theorem tm128 : Try.f128.name ≠ "runtime.NumGoroutine" := name_ne (by kernel_rfl)
theorem pg : Pg Try.prog tab := by
  refine ⟨by kernel_rfl, table_ok fun p hp => ?_⟩
  simp only [List.mem_cons, List.not_mem_nil, or_false] at hp
  rcases hp with rfl | rfl | rfl | rfl | rfl | rfl | rfl | rfl | rfl | rfl | rfl | rfl | rfl | rfl | rfl | rfl | rfl | rfl | rfl | rfl | rfl | rfl | rfl | rfl | rfl | rfl | rfl | rfl | rfl | rfl | rfl | rfl | rfl | rfl | rfl | rfl | rfl | rfl | rfl | rfl
  · exact ⟨_, Try.func5, tc5, tm5⟩
  · exact ⟨_, Try.func14, tc14, tm14⟩
  · exact ⟨_, Try.func17, tc17, tm17⟩
  · exact ⟨_, Try.func19, tc19, tm19⟩
  · exact ⟨_, Try.func21, tc21, tm21⟩
  · exact ⟨_, Try.func26, tc26, tm26⟩
  · exact ⟨_, Try.func28, tc28, tm28⟩
  · exact ⟨_, Try.func29, tc29, tm29⟩
  · exact ⟨_, Try.func30, tc30, tm30⟩
  · exact ⟨_, Try.func32, tc32, tm32⟩
  · exact ⟨_, Try.func35, tc35, tm35⟩
  · exact ⟨_, Try.func42, tc42, tm42⟩
  · exact ⟨_, Try.func46, tc46, tm46⟩
  · exact ⟨_, Try.func47, tc47, tm47⟩
  · exact ⟨_, Try.func56, tc56, tm56⟩
  · exact ⟨_, Try.func57, tc57, tm57⟩
  · exact ⟨_, Try.func58, tc58, tm58⟩
  · exact ⟨_, Try.func59, tc59, tm59⟩
  · exact ⟨_, Try.func60, tc60, tm60⟩
  · exact ⟨_, Try.func61, tc61, tm61⟩
  · exact ⟨_, Try.func72, tc72, tm72⟩
  · exact ⟨_, Try.func73, tc73, tm73⟩
  · exact ⟨_, Try.func74, tc74, tm74⟩
  · exact ⟨_, Try.func82, tc82, tm82⟩
  · exact ⟨_, Try.func83, tc83, tm83⟩
  · exact ⟨_, Try.func85, tc85, tm85⟩
  · exact ⟨_, Try.func88, tc88, tm88⟩
  · exact ⟨_, Try.func96, tc96, tm96⟩
  · exact ⟨_, Try.func97, tc97, tm97⟩
  · exact ⟨_, Try.func101, tc101, tm101⟩
  · exact ⟨_, Try.func102, tc102, tm102⟩
  · exact ⟨_, Try.func103, tc103, tm103⟩
  · exact ⟨_, Try.func114, tc114, tm114⟩
  · exact ⟨_, Try.func115, tc115, tm115⟩
  · exact ⟨_, Try.func116, tc116, tm116⟩
  · exact ⟨_, Try.func117, tc117, tm117⟩
  · exact ⟨_, Try.func119, tc119, tm119⟩
  · exact ⟨_, Try.func121, tc121, tm121⟩
  · exact ⟨_, Try.func122, tc122, tm122⟩
  · exact ⟨_, Try.func128, tc128, tm128⟩
end Go.Proofs.Ythmkenkjfmbkiaa.VM
