/- The compiled functions are the program's: shown by the kernel, one by one. -/
import Derived.Test.YthmkenkjfmbkiaaRUe
import Derived.Test.YthmkenkjfmbkiaaRUPu
import Derived.Test.YthmkenkjfmbkiaaChecked
namespace Go.Proofs.Ythmkenkjfmbkiaa.VM
set_option linter.unusedSimpArgs false
set_option linter.unusedVariables false
set_option linter.defProp false
set_option maxHeartbeats 1000000
theorem tc3 : cFun Try.prog Try.f3 = some v3 := by kernel_rfl
theorem tm3 : Try.f3.name ≠ "runtime.NumGoroutine" := name_ne (by kernel_rfl)
theorem tc12 : cFun Try.prog Try.f12 = some v12 := by kernel_rfl
theorem tm12 : Try.f12.name ≠ "runtime.NumGoroutine" := name_ne (by kernel_rfl)
theorem tc13 : cFun Try.prog Try.f13 = some v13 := by kernel_rfl
theorem tm13 : Try.f13.name ≠ "runtime.NumGoroutine" := name_ne (by kernel_rfl)
theorem tc14 : cFun Try.prog Try.f14 = some v14 := by kernel_rfl
theorem tm14 : Try.f14.name ≠ "runtime.NumGoroutine" := name_ne (by kernel_rfl)
theorem tc15 : cFun Try.prog Try.f15 = some v15 := by kernel_rfl
theorem tm15 : Try.f15.name ≠ "runtime.NumGoroutine" := name_ne (by kernel_rfl)
theorem tc16 : cFun Try.prog Try.f16 = some v16 := by kernel_rfl
theorem tm16 : Try.f16.name ≠ "runtime.NumGoroutine" := name_ne (by kernel_rfl)
theorem tc17 : cFun Try.prog Try.f17 = some v17 := by kernel_rfl
theorem tm17 : Try.f17.name ≠ "runtime.NumGoroutine" := name_ne (by kernel_rfl)
theorem tc18 : cFun Try.prog Try.f18 = some v18 := by kernel_rfl
theorem tm18 : Try.f18.name ≠ "runtime.NumGoroutine" := name_ne (by kernel_rfl)
theorem tc19 : cFun Try.prog Try.f19 = some v19 := by kernel_rfl
theorem tm19 : Try.f19.name ≠ "runtime.NumGoroutine" := name_ne (by kernel_rfl)
theorem tc20 : cFun Try.prog Try.f20 = some v20 := by kernel_rfl
theorem tm20 : Try.f20.name ≠ "runtime.NumGoroutine" := name_ne (by kernel_rfl)
theorem tc21 : cFun Try.prog Try.f21 = some v21 := by kernel_rfl
theorem tm21 : Try.f21.name ≠ "runtime.NumGoroutine" := name_ne (by kernel_rfl)
theorem tc26 : cFun Try.prog Try.f26 = some v26 := by kernel_rfl
theorem tm26 : Try.f26.name ≠ "runtime.NumGoroutine" := name_ne (by kernel_rfl)
theorem tc28 : cFun Try.prog Try.f28 = some v28 := by kernel_rfl
theorem tm28 : Try.f28.name ≠ "runtime.NumGoroutine" := name_ne (by kernel_rfl)
theorem tc29 : cFun Try.prog Try.f29 = some v29 := by kernel_rfl
theorem tm29 : Try.f29.name ≠ "runtime.NumGoroutine" := name_ne (by kernel_rfl)
theorem tc30 : cFun Try.prog Try.f30 = some v30 := by kernel_rfl
theorem tm30 : Try.f30.name ≠ "runtime.NumGoroutine" := name_ne (by kernel_rfl)
theorem tc32 : cFun Try.prog Try.f32 = some v32 := by kernel_rfl
theorem tm32 : Try.f32.name ≠ "runtime.NumGoroutine" := name_ne (by kernel_rfl)
theorem tc35 : cFun Try.prog Try.f35 = some v35 := by kernel_rfl
theorem tm35 : Try.f35.name ≠ "runtime.NumGoroutine" := name_ne (by kernel_rfl)
theorem tc41 : cFun Try.prog Try.f41 = some v41 := by kernel_rfl
theorem tm41 : Try.f41.name ≠ "runtime.NumGoroutine" := name_ne (by kernel_rfl)
theorem tc42 : cFun Try.prog Try.f42 = some v42 := by kernel_rfl
theorem tm42 : Try.f42.name ≠ "runtime.NumGoroutine" := name_ne (by kernel_rfl)
theorem tc45 : cFun Try.prog Try.f45 = some v45 := by kernel_rfl
theorem tm45 : Try.f45.name ≠ "runtime.NumGoroutine" := name_ne (by kernel_rfl)
theorem tc46 : cFun Try.prog Try.f46 = some v46 := by kernel_rfl
theorem tm46 : Try.f46.name ≠ "runtime.NumGoroutine" := name_ne (by kernel_rfl)
theorem tc47 : cFun Try.prog Try.f47 = some v47 := by kernel_rfl
theorem tm47 : Try.f47.name ≠ "runtime.NumGoroutine" := name_ne (by kernel_rfl)
theorem tc48 : cFun Try.prog Try.f48 = some v48 := by kernel_rfl
theorem tm48 : Try.f48.name ≠ "runtime.NumGoroutine" := name_ne (by kernel_rfl)
theorem tc49 : cFun Try.prog Try.f49 = some v49 := by kernel_rfl
theorem tm49 : Try.f49.name ≠ "runtime.NumGoroutine" := name_ne (by kernel_rfl)
theorem tc50 : cFun Try.prog Try.f50 = some v50 := by kernel_rfl
theorem tm50 : Try.f50.name ≠ "runtime.NumGoroutine" := name_ne (by kernel_rfl)
theorem tc56 : cFun Try.prog Try.f56 = some v56 := by kernel_rfl
theorem tm56 : Try.f56.name ≠ "runtime.NumGoroutine" := name_ne (by kernel_rfl)
theorem tc57 : cFun Try.prog Try.f57 = some v57 := by kernel_rfl
theorem tm57 : Try.f57.name ≠ "runtime.NumGoroutine" := name_ne (by kernel_rfl)
theorem tc58 : cFun Try.prog Try.f58 = some v58 := by kernel_rfl
theorem tm58 : Try.f58.name ≠ "runtime.NumGoroutine" := name_ne (by kernel_rfl)
theorem tc59 : cFun Try.prog Try.f59 = some v59 := by kernel_rfl
theorem tm59 : Try.f59.name ≠ "runtime.NumGoroutine" := name_ne (by kernel_rfl)
theorem tc61 : cFun Try.prog Try.f61 = some v61 := by kernel_rfl
theorem tm61 : Try.f61.name ≠ "runtime.NumGoroutine" := name_ne (by kernel_rfl)
theorem tc67 : cFun Try.prog Try.f67 = some v67 := by kernel_rfl
theorem tm67 : Try.f67.name ≠ "runtime.NumGoroutine" := name_ne (by kernel_rfl)
theorem tc72 : cFun Try.prog Try.f72 = some v72 := by kernel_rfl
theorem tm72 : Try.f72.name ≠ "runtime.NumGoroutine" := name_ne (by kernel_rfl)
theorem tc73 : cFun Try.prog Try.f73 = some v73 := by kernel_rfl
theorem tm73 : Try.f73.name ≠ "runtime.NumGoroutine" := name_ne (by kernel_rfl)
theorem tc74 : cFun Try.prog Try.f74 = some v74 := by kernel_rfl
theorem tm74 : Try.f74.name ≠ "runtime.NumGoroutine" := name_ne (by kernel_rfl)
theorem tc75 : cFun Try.prog Try.f75 = some v75 := by kernel_rfl
theorem tm75 : Try.f75.name ≠ "runtime.NumGoroutine" := name_ne (by kernel_rfl)
theorem tc76 : cFun Try.prog Try.f76 = some v76 := by kernel_rfl
theorem tm76 : Try.f76.name ≠ "runtime.NumGoroutine" := name_ne (by kernel_rfl)
theorem tc77 : cFun Try.prog Try.f77 = some v77 := by kernel_rfl
theorem tm77 : Try.f77.name ≠ "runtime.NumGoroutine" := name_ne (by kernel_rfl)
theorem tc82 : cFun Try.prog Try.f82 = some v82 := by kernel_rfl
theorem tm82 : Try.f82.name ≠ "runtime.NumGoroutine" := name_ne (by kernel_rfl)
theorem tc83 : cFun Try.prog Try.f83 = some v83 := by kernel_rfl
theorem tm83 : Try.f83.name ≠ "runtime.NumGoroutine" := name_ne (by kernel_rfl)
theorem tc88 : cFun Try.prog Try.f88 = some v88 := by kernel_rfl
theorem tm88 : Try.f88.name ≠ "runtime.NumGoroutine" := name_ne (by kernel_rfl)
theorem tc96 : cFun Try.prog Try.f96 = some v96 := by kernel_rfl
theorem tm96 : Try.f96.name ≠ "runtime.NumGoroutine" := name_ne (by kernel_rfl)
theorem tc97 : cFun Try.prog Try.f97 = some v97 := by kernel_rfl
theorem tm97 : Try.f97.name ≠ "runtime.NumGoroutine" := name_ne (by kernel_rfl)
theorem tc98 : cFun Try.prog Try.f98 = some v98 := by kernel_rfl
theorem tm98 : Try.f98.name ≠ "runtime.NumGoroutine" := name_ne (by kernel_rfl)
theorem tc99 : cFun Try.prog Try.f99 = some v99 := by kernel_rfl
theorem tm99 : Try.f99.name ≠ "runtime.NumGoroutine" := name_ne (by kernel_rfl)
theorem tc100 : cFun Try.prog Try.f100 = some v100 := by kernel_rfl
theorem tm100 : Try.f100.name ≠ "runtime.NumGoroutine" := name_ne (by kernel_rfl)
theorem tc101 : cFun Try.prog Try.f101 = some v101 := by kernel_rfl
theorem tm101 : Try.f101.name ≠ "runtime.NumGoroutine" := name_ne (by kernel_rfl)
theorem tc102 : cFun Try.prog Try.f102 = some v102 := by kernel_rfl
theorem tm102 : Try.f102.name ≠ "runtime.NumGoroutine" := name_ne (by kernel_rfl)
theorem tc114 : cFun Try.prog Try.f114 = some v114 := by kernel_rfl
theorem tm114 : Try.f114.name ≠ "runtime.NumGoroutine" := name_ne (by kernel_rfl)
theorem tc115 : cFun Try.prog Try.f115 = some v115 := by kernel_rfl
theorem tm115 : Try.f115.name ≠ "runtime.NumGoroutine" := name_ne (by kernel_rfl)
theorem tc116 : cFun Try.prog Try.f116 = some v116 := by kernel_rfl
theorem tm116 : Try.f116.name ≠ "runtime.NumGoroutine" := name_ne (by kernel_rfl)
theorem tc117 : cFun Try.prog Try.f117 = some v117 := by kernel_rfl
theorem tm117 : Try.f117.name ≠ "runtime.NumGoroutine" := name_ne (by kernel_rfl)
theorem tc119 : cFun Try.prog Try.f119 = some v119 := by kernel_rfl
theorem tm119 : Try.f119.name ≠ "runtime.NumGoroutine" := name_ne (by kernel_rfl)
theorem tc121 : cFun Try.prog Try.f121 = some v121 := by kernel_rfl
theorem tm121 : Try.f121.name ≠ "runtime.NumGoroutine" := name_ne (by kernel_rfl)
theorem tc128 : cFun Try.prog Try.f128 = some v128 := by kernel_rfl
theorem tm128 : Try.f128.name ≠ "runtime.NumGoroutine" := name_ne (by kernel_rfl)
theorem pg : Pg Try.prog tab := by
  refine ⟨by kernel_rfl, table_ok fun p hp => ?_⟩
  simp only [List.mem_cons, List.not_mem_nil, or_false] at hp
  rcases hp with rfl | rfl | rfl | rfl | rfl | rfl | rfl | rfl | rfl | rfl | rfl | rfl | rfl | rfl | rfl | rfl | rfl | rfl | rfl | rfl | rfl | rfl | rfl | rfl | rfl | rfl | rfl | rfl | rfl | rfl | rfl | rfl | rfl | rfl | rfl | rfl | rfl | rfl | rfl | rfl | rfl | rfl | rfl | rfl | rfl | rfl | rfl | rfl | rfl | rfl | rfl | rfl | rfl | rfl
  · exact ⟨by decide, _, Try.func3, tc3, tm3⟩
  · exact ⟨by decide, _, Try.func12, tc12, tm12⟩
  · exact ⟨by decide, _, Try.func13, tc13, tm13⟩
  · exact ⟨by decide, _, Try.func14, tc14, tm14⟩
  · exact ⟨by decide, _, Try.func15, tc15, tm15⟩
  · exact ⟨by decide, _, Try.func16, tc16, tm16⟩
  · exact ⟨by decide, _, Try.func17, tc17, tm17⟩
  · exact ⟨by decide, _, Try.func18, tc18, tm18⟩
  · exact ⟨by decide, _, Try.func19, tc19, tm19⟩
  · exact ⟨by decide, _, Try.func20, tc20, tm20⟩
  · exact ⟨by decide, _, Try.func21, tc21, tm21⟩
  · exact ⟨by decide, _, Try.func26, tc26, tm26⟩
  · exact ⟨by decide, _, Try.func28, tc28, tm28⟩
  · exact ⟨by decide, _, Try.func29, tc29, tm29⟩
  · exact ⟨by decide, _, Try.func30, tc30, tm30⟩
  · exact ⟨by decide, _, Try.func32, tc32, tm32⟩
  · exact ⟨by decide, _, Try.func35, tc35, tm35⟩
  · exact ⟨by decide, _, Try.func41, tc41, tm41⟩
  · exact ⟨by decide, _, Try.func42, tc42, tm42⟩
  · exact ⟨by decide, _, Try.func45, tc45, tm45⟩
  · exact ⟨by decide, _, Try.func46, tc46, tm46⟩
  · exact ⟨by decide, _, Try.func47, tc47, tm47⟩
  · exact ⟨by decide, _, Try.func48, tc48, tm48⟩
  · exact ⟨by decide, _, Try.func49, tc49, tm49⟩
  · exact ⟨by decide, _, Try.func50, tc50, tm50⟩
  · exact ⟨by decide, _, Try.func56, tc56, tm56⟩
  · exact ⟨by decide, _, Try.func57, tc57, tm57⟩
  · exact ⟨by decide, _, Try.func58, tc58, tm58⟩
  · exact ⟨by decide, _, Try.func59, tc59, tm59⟩
  · exact ⟨by decide, _, Try.func61, tc61, tm61⟩
  · exact ⟨by decide, _, Try.func67, tc67, tm67⟩
  · exact ⟨by decide, _, Try.func72, tc72, tm72⟩
  · exact ⟨by decide, _, Try.func73, tc73, tm73⟩
  · exact ⟨by decide, _, Try.func74, tc74, tm74⟩
  · exact ⟨by decide, _, Try.func75, tc75, tm75⟩
  · exact ⟨by decide, _, Try.func76, tc76, tm76⟩
  · exact ⟨by decide, _, Try.func77, tc77, tm77⟩
  · exact ⟨by decide, _, Try.func82, tc82, tm82⟩
  · exact ⟨by decide, _, Try.func83, tc83, tm83⟩
  · exact ⟨by decide, _, Try.func88, tc88, tm88⟩
  · exact ⟨by decide, _, Try.func96, tc96, tm96⟩
  · exact ⟨by decide, _, Try.func97, tc97, tm97⟩
  · exact ⟨by decide, _, Try.func98, tc98, tm98⟩
  · exact ⟨by decide, _, Try.func99, tc99, tm99⟩
  · exact ⟨by decide, _, Try.func100, tc100, tm100⟩
  · exact ⟨by decide, _, Try.func101, tc101, tm101⟩
  · exact ⟨by decide, _, Try.func102, tc102, tm102⟩
  · exact ⟨by decide, _, Try.func114, tc114, tm114⟩
  · exact ⟨by decide, _, Try.func115, tc115, tm115⟩
  · exact ⟨by decide, _, Try.func116, tc116, tm116⟩
  · exact ⟨by decide, _, Try.func117, tc117, tm117⟩
  · exact ⟨by decide, _, Try.func119, tc119, tm119⟩
  · exact ⟨by decide, _, Try.func121, tc121, tm121⟩
  · exact ⟨by decide, _, Try.func128, tc128, tm128⟩
end Go.Proofs.Ythmkenkjfmbkiaa.VM
