/- The compiled functions are the program's: shown by the kernel, one by one. -/
import Derived.Test.YtpfpngmfooagiaaMFe
import Derived.Test.YtpfpngmfooagiaaMFPu
import Derived.Test.YtpfpngmfooagiaaChecked
namespace Go.Proofs.Ytpfpngmfooagiaa.VM
set_option linter.unusedSimpArgs false
set_option linter.unusedVariables false
set_option linter.defProp false
set_option maxHeartbeats 1000000
theorem tc5 : cFun Try.prog Try.f5 = some v5 := by kernel_rfl
theorem tm5 : Try.f5.name ≠ "runtime.NumGoroutine" := name_ne (by kernel_rfl)
theorem tc6 : cFun Try.prog Try.f6 = some v6 := by kernel_rfl
theorem tm6 : Try.f6.name ≠ "runtime.NumGoroutine" := name_ne (by kernel_rfl)
theorem tc7 : cFun Try.prog Try.f7 = some v7 := by kernel_rfl
theorem tm7 : Try.f7.name ≠ "runtime.NumGoroutine" := name_ne (by kernel_rfl)
theorem tc8 : cFun Try.prog Try.f8 = some v8 := by kernel_rfl
theorem tm8 : Try.f8.name ≠ "runtime.NumGoroutine" := name_ne (by kernel_rfl)
theorem tc10 : cFun Try.prog Try.f10 = some v10 := by kernel_rfl
theorem tm10 : Try.f10.name ≠ "runtime.NumGoroutine" := name_ne (by kernel_rfl)
theorem tc12 : cFun Try.prog Try.f12 = some v12 := by kernel_rfl
theorem tm12 : Try.f12.name ≠ "runtime.NumGoroutine" := name_ne (by kernel_rfl)
theorem tc13 : cFun Try.prog Try.f13 = some v13 := by kernel_rfl
theorem tm13 : Try.f13.name ≠ "runtime.NumGoroutine" := name_ne (by kernel_rfl)
theorem tc14 : cFun Try.prog Try.f14 = some v14 := by kernel_rfl
theorem tm14 : Try.f14.name ≠ "runtime.NumGoroutine" := name_ne (by kernel_rfl)
theorem tc15 : cFun Try.prog Try.f15 = some v15 := by kernel_rfl
theorem tm15 : Try.f15.name ≠ "runtime.NumGoroutine" := name_ne (by kernel_rfl)
theorem tc16 : cFun Try.prog Try.f16 = some v16 := by kernel_rfl
theorem tm16 : Try.f16.name ≠ "runtime.NumGoroutine" := name_ne (by kernel_rfl)
theorem tc17 : cFun Try.prog Try.f17 = some v17 := by kernel_rfl
theorem tm17 : Try.f17.name ≠ "runtime.NumGoroutine" := name_ne (by kernel_rfl)
theorem tc18 : cFun Try.prog Try.f18 = some v18 := by kernel_rfl
theorem tm18 : Try.f18.name ≠ "runtime.NumGoroutine" := name_ne (by kernel_rfl)
theorem tc19 : cFun Try.prog Try.f19 = some v19 := by kernel_rfl
theorem tm19 : Try.f19.name ≠ "runtime.NumGoroutine" := name_ne (by kernel_rfl)
theorem tc20 : cFun Try.prog Try.f20 = some v20 := by kernel_rfl
theorem tm20 : Try.f20.name ≠ "runtime.NumGoroutine" := name_ne (by kernel_rfl)
theorem tc21 : cFun Try.prog Try.f21 = some v21 := by kernel_rfl
theorem tm21 : Try.f21.name ≠ "runtime.NumGoroutine" := name_ne (by kernel_rfl)
theorem tc23 : cFun Try.prog Try.f23 = some v23 := by kernel_rfl
theorem tm23 : Try.f23.name ≠ "runtime.NumGoroutine" := name_ne (by kernel_rfl)
theorem tc24 : cFun Try.prog Try.f24 = some v24 := by kernel_rfl
theorem tm24 : Try.f24.name ≠ "runtime.NumGoroutine" := name_ne (by kernel_rfl)
theorem tc25 : cFun Try.prog Try.f25 = some v25 := by kernel_rfl
theorem tm25 : Try.f25.name ≠ "runtime.NumGoroutine" := name_ne (by kernel_rfl)
theorem tc26 : cFun Try.prog Try.f26 = some v26 := by kernel_rfl
theorem tm26 : Try.f26.name ≠ "runtime.NumGoroutine" := name_ne (by kernel_rfl)
theorem tc27 : cFun Try.prog Try.f27 = some v27 := by kernel_rfl
theorem tm27 : Try.f27.name ≠ "runtime.NumGoroutine" := name_ne (by kernel_rfl)
theorem tc28 : cFun Try.prog Try.f28 = some v28 := by kernel_rfl
theorem tm28 : Try.f28.name ≠ "runtime.NumGoroutine" := name_ne (by kernel_rfl)
theorem tc29 : cFun Try.prog Try.f29 = some v29 := by kernel_rfl
theorem tm29 : Try.f29.name ≠ "runtime.NumGoroutine" := name_ne (by kernel_rfl)
theorem tc30 : cFun Try.prog Try.f30 = some v30 := by kernel_rfl
theorem tm30 : Try.f30.name ≠ "runtime.NumGoroutine" := name_ne (by kernel_rfl)
theorem tc31 : cFun Try.prog Try.f31 = some v31 := by kernel_rfl
theorem tm31 : Try.f31.name ≠ "runtime.NumGoroutine" := name_ne (by kernel_rfl)
theorem tc32 : cFun Try.prog Try.f32 = some v32 := by kernel_rfl
theorem tm32 : Try.f32.name ≠ "runtime.NumGoroutine" := name_ne (by kernel_rfl)
theorem tc35 : cFun Try.prog Try.f35 = some v35 := by kernel_rfl
theorem tm35 : Try.f35.name ≠ "runtime.NumGoroutine" := name_ne (by kernel_rfl)
theorem tc36 : cFun Try.prog Try.f36 = some v36 := by kernel_rfl
theorem tm36 : Try.f36.name ≠ "runtime.NumGoroutine" := name_ne (by kernel_rfl)
theorem tc37 : cFun Try.prog Try.f37 = some v37 := by kernel_rfl
theorem tm37 : Try.f37.name ≠ "runtime.NumGoroutine" := name_ne (by kernel_rfl)
theorem tc38 : cFun Try.prog Try.f38 = some v38 := by kernel_rfl
theorem tm38 : Try.f38.name ≠ "runtime.NumGoroutine" := name_ne (by kernel_rfl)
theorem tc39 : cFun Try.prog Try.f39 = some v39 := by kernel_rfl
theorem tm39 : Try.f39.name ≠ "runtime.NumGoroutine" := name_ne (by kernel_rfl)
theorem tc40 : cFun Try.prog Try.f40 = some v40 := by kernel_rfl
theorem tm40 : Try.f40.name ≠ "runtime.NumGoroutine" := name_ne (by kernel_rfl)
theorem tc41 : cFun Try.prog Try.f41 = some v41 := by kernel_rfl
theorem tm41 : Try.f41.name ≠ "runtime.NumGoroutine" := name_ne (by kernel_rfl)
theorem tc42 : cFun Try.prog Try.f42 = some v42 := by kernel_rfl
theorem tm42 : Try.f42.name ≠ "runtime.NumGoroutine" := name_ne (by kernel_rfl)
theorem tc43 : cFun Try.prog Try.f43 = some v43 := by kernel_rfl
theorem tm43 : Try.f43.name ≠ "runtime.NumGoroutine" := name_ne (by kernel_rfl)
theorem tc44 : cFun Try.prog Try.f44 = some v44 := by kernel_rfl
theorem tm44 : Try.f44.name ≠ "runtime.NumGoroutine" := name_ne (by kernel_rfl)
theorem tc45 : cFun Try.prog Try.f45 = some v45 := by kernel_rfl
theorem tm45 : Try.f45.name ≠ "runtime.NumGoroutine" := name_ne (by kernel_rfl)
theorem tc46 : cFun Try.prog Try.f46 = some v46 := by kernel_rfl
theorem tm46 : Try.f46.name ≠ "runtime.NumGoroutine" := name_ne (by kernel_rfl)
theorem tc47 : cFun Try.prog Try.f47 = some v47 := by kernel_rfl
theorem tm47 : Try.f47.name ≠ "runtime.NumGoroutine" := name_ne (by kernel_rfl)
theorem tc48 : cFun Try.prog Try.f48 = some v48 := by kernel_rfl
theorem tm48 : Try.f48.name ≠ "runtime.NumGoroutine" := name_ne (by kernel_rfl)
theorem tc49 : cFun Try.prog Try.f49 = some v49 := by kernel_rfl
theorem tm49 : Try.f49.name ≠ "runtime.NumGoroutine" := name_ne (by kernel_rfl)
theorem tc50 : cFun Try.prog Try.f50 = some v50 := by kernel_rfl
theorem tm50 : Try.f50.name ≠ "runtime.NumGoroutine" := name_ne (by kernel_rfl)
theorem tc51 : cFun Try.prog Try.f51 = some v51 := by kernel_rfl
theorem tm51 : Try.f51.name ≠ "runtime.NumGoroutine" := name_ne (by kernel_rfl)
theorem tc52 : cFun Try.prog Try.f52 = some v52 := by kernel_rfl
theorem tm52 : Try.f52.name ≠ "runtime.NumGoroutine" := name_ne (by kernel_rfl)
theorem tc53 : cFun Try.prog Try.f53 = some v53 := by kernel_rfl
theorem tm53 : Try.f53.name ≠ "runtime.NumGoroutine" := name_ne (by kernel_rfl)
theorem tc54 : cFun Try.prog Try.f54 = some v54 := by kernel_rfl
theorem tm54 : Try.f54.name ≠ "runtime.NumGoroutine" := name_ne (by kernel_rfl)
theorem tc56 : cFun Try.prog Try.f56 = some v56 := by kernel_rfl
theorem tm56 : Try.f56.name ≠ "runtime.NumGoroutine" := name_ne (by kernel_rfl)
theorem tc57 : cFun Try.prog Try.f57 = some v57 := by kernel_rfl
theorem tm57 : Try.f57.name ≠ "runtime.NumGoroutine" := name_ne (by kernel_rfl)
theorem tc58 : cFun Try.prog Try.f58 = some v58 := by kernel_rfl
theorem tm58 : Try.f58.name ≠ "runtime.NumGoroutine" := name_ne (by kernel_rfl)
theorem tc59 : cFun Try.prog Try.f59 = some v59 := by kernel_rfl
theorem tm59 : Try.f59.name ≠ "runtime.NumGoroutine" := name_ne (by kernel_rfl)
theorem tc60 : cFun Try.prog Try.f60 = some v60 := by kernel_rfl
theorem tm60 : Try.f60.name ≠ "runtime.NumGoroutine" := name_ne (by kernel_rfl)
theorem tc61 : cFun Try.prog Try.f61 = some v61 := by kernel_rfl
theorem tm61 : Try.f61.name ≠ "runtime.NumGoroutine" := name_ne (by kernel_rfl)
theorem tc62 : cFun Try.prog Try.f62 = some v62 := by kernel_rfl
theorem tm62 : Try.f62.name ≠ "runtime.NumGoroutine" := name_ne (by kernel_rfl)
theorem tc63 : cFun Try.prog Try.f63 = some v63 := by kernel_rfl
theorem tm63 : Try.f63.name ≠ "runtime.NumGoroutine" := name_ne (by kernel_rfl)
theorem tc64 : cFun Try.prog Try.f64 = some v64 := by kernel_rfl
theorem tm64 : Try.f64.name ≠ "runtime.NumGoroutine" := name_ne (by kernel_rfl)
theorem tc65 : cFun Try.prog Try.f65 = some v65 := by kernel_rfl
theorem tm65 : Try.f65.name ≠ "runtime.NumGoroutine" := name_ne (by kernel_rfl)
theorem tc66 : cFun Try.prog Try.f66 = some v66 := by kernel_rfl
theorem tm66 : Try.f66.name ≠ "runtime.NumGoroutine" := name_ne (by kernel_rfl)
theorem tc67 : cFun Try.prog Try.f67 = some v67 := by kernel_rfl
theorem tm67 : Try.f67.name ≠ "runtime.NumGoroutine" := name_ne (by kernel_rfl)
theorem tc68 : cFun Try.prog Try.f68 = some v68 := by kernel_rfl
theorem tm68 : Try.f68.name ≠ "runtime.NumGoroutine" := name_ne (by kernel_rfl)
theorem tc69 : cFun Try.prog Try.f69 = some v69 := by kernel_rfl
theorem tm69 : Try.f69.name ≠ "runtime.NumGoroutine" := name_ne (by kernel_rfl)
theorem tc71 : cFun Try.prog Try.f71 = some v71 := by kernel_rfl
theorem tm71 : Try.f71.name ≠ "runtime.NumGoroutine" := name_ne (by kernel_rfl)
theorem tc72 : cFun Try.prog Try.f72 = some v72 := by kernel_rfl
theorem tm72 : Try.f72.name ≠ "runtime.NumGoroutine" := name_ne (by kernel_rfl)
theorem tc73 : cFun Try.prog Try.f73 = some v73 := by kernel_rfl
theorem tm73 : Try.f73.name ≠ "runtime.NumGoroutine" := name_ne (by kernel_rfl)
theorem tc74 : cFun Try.prog Try.f74 = some v74 := by kernel_rfl
theorem tm74 : Try.f74.name ≠ "runtime.NumGoroutine" := name_ne (by kernel_rfl)
theorem tc75 : cFun Try.prog Try.f75 = some v75 := by kernel_rfl
theorem tm75 : Try.f75.name ≠ "runtime.NumGoroutine" := name_ne (by kernel_rfl)
theorem tc76 : cFun Try.prog Try.f76 = some v76 := by kernel_rfl
theorem tm76 : Try.f76.name ≠ "runtime.NumGoroutine" := name_ne (by kernel_rfl)
theorem tc77 : cFun Try.prog Try.f77 = some v77 := by kernel_rfl
theorem tm77 : Try.f77.name ≠ "runtime.NumGoroutine" := name_ne (by kernel_rfl)
theorem tc78 : cFun Try.prog Try.f78 = some v78 := by kernel_rfl
theorem tm78 : Try.f78.name ≠ "runtime.NumGoroutine" := name_ne (by kernel_rfl)
theorem tc79 : cFun Try.prog Try.f79 = some v79 := by kernel_rfl
theorem tm79 : Try.f79.name ≠ "runtime.NumGoroutine" := name_ne (by kernel_rfl)
theorem tc80 : cFun Try.prog Try.f80 = some v80 := by kernel_rfl
theorem tm80 : Try.f80.name ≠ "runtime.NumGoroutine" := name_ne (by kernel_rfl)
theorem tc81 : cFun Try.prog Try.f81 = some v81 := by kernel_rfl
theorem tm81 : Try.f81.name ≠ "runtime.NumGoroutine" := name_ne (by kernel_rfl)
theorem tc82 : cFun Try.prog Try.f82 = some v82 := by kernel_rfl
theorem tm82 : Try.f82.name ≠ "runtime.NumGoroutine" := name_ne (by kernel_rfl)
theorem tc83 : cFun Try.prog Try.f83 = some v83 := by kernel_rfl
theorem tm83 : Try.f83.name ≠ "runtime.NumGoroutine" := name_ne (by kernel_rfl)
theorem tc84 : cFun Try.prog Try.f84 = some v84 := by kernel_rfl
theorem tm84 : Try.f84.name ≠ "runtime.NumGoroutine" := name_ne (by kernel_rfl)
theorem tc85 : cFun Try.prog Try.f85 = some v85 := by kernel_rfl
theorem tm85 : Try.f85.name ≠ "runtime.NumGoroutine" := name_ne (by kernel_rfl)
theorem tc86 : cFun Try.prog Try.f86 = some v86 := by kernel_rfl
theorem tm86 : Try.f86.name ≠ "runtime.NumGoroutine" := name_ne (by kernel_rfl)
theorem tc87 : cFun Try.prog Try.f87 = some v87 := by kernel_rfl
theorem tm87 : Try.f87.name ≠ "runtime.NumGoroutine" := name_ne (by kernel_rfl)
theorem tc88 : cFun Try.prog Try.f88 = some v88 := by kernel_rfl
theorem tm88 : Try.f88.name ≠ "runtime.NumGoroutine" := name_ne (by kernel_rfl)
theorem tc89 : cFun Try.prog Try.f89 = some v89 := by kernel_rfl
theorem tm89 : Try.f89.name ≠ "runtime.NumGoroutine" := name_ne (by kernel_rfl)
theorem tc90 : cFun Try.prog Try.f90 = some v90 := by kernel_rfl
theorem tm90 : Try.f90.name ≠ "runtime.NumGoroutine" := name_ne (by kernel_rfl)
theorem tc91 : cFun Try.prog Try.f91 = some v91 := by kernel_rfl
theorem tm91 : Try.f91.name ≠ "runtime.NumGoroutine" := name_ne (by kernel_rfl)
theorem tc92 : cFun Try.prog Try.f92 = some v92 := by kernel_rfl
theorem tm92 : Try.f92.name ≠ "runtime.NumGoroutine" := name_ne (by kernel_rfl)
theorem tc93 : cFun Try.prog Try.f93 = some v93 := by kernel_rfl
theorem tm93 : Try.f93.name ≠ "runtime.NumGoroutine" := name_ne (by kernel_rfl)
theorem tc94 : cFun Try.prog Try.f94 = some v94 := by kernel_rfl
theorem tm94 : Try.f94.name ≠ "runtime.NumGoroutine" := name_ne (by kernel_rfl)
theorem tc95 : cFun Try.prog Try.f95 = some v95 := by kernel_rfl
theorem tm95 : Try.f95.name ≠ "runtime.NumGoroutine" := name_ne (by kernel_rfl)
theorem tc96 : cFun Try.prog Try.f96 = some v96 := by kernel_rfl
theorem tm96 : Try.f96.name ≠ "runtime.NumGoroutine" := name_ne (by kernel_rfl)
theorem pg : Pg Try.prog tab := by
  refine ⟨by kernel_rfl, table_ok fun p hp => ?_⟩
  simp only [List.mem_cons, List.not_mem_nil, or_false] at hp
  rcases hp with rfl | rfl | rfl | rfl | rfl | rfl | rfl | rfl | rfl | rfl | rfl | rfl | rfl | rfl | rfl | rfl | rfl | rfl | rfl | rfl | rfl | rfl | rfl | rfl | rfl | rfl | rfl | rfl | rfl | rfl | rfl | rfl | rfl | rfl | rfl | rfl | rfl | rfl | rfl | rfl | rfl | rfl | rfl | rfl | rfl | rfl | rfl | rfl | rfl | rfl | rfl | rfl | rfl | rfl | rfl | rfl | rfl | rfl | rfl | rfl | rfl | rfl | rfl | rfl | rfl | rfl | rfl | rfl | rfl | rfl | rfl | rfl | rfl | rfl | rfl | rfl | rfl | rfl | rfl | rfl | rfl | rfl | rfl | rfl | rfl
  · exact ⟨by decide, _, Try.func5, tc5, tm5⟩
  · exact ⟨by decide, _, Try.func6, tc6, tm6⟩
  · exact ⟨by decide, _, Try.func7, tc7, tm7⟩
  · exact ⟨by decide, _, Try.func8, tc8, tm8⟩
  · exact ⟨by decide, _, Try.func10, tc10, tm10⟩
  · exact ⟨by decide, _, Try.func12, tc12, tm12⟩
  · exact ⟨by decide, _, Try.func13, tc13, tm13⟩
  · exact ⟨by decide, _, Try.func14, tc14, tm14⟩
  · exact ⟨by decide, _, Try.func15, tc15, tm15⟩
  · exact ⟨by decide, _, Try.func16, tc16, tm16⟩
  · exact ⟨by decide, _, Try.func17, tc17, tm17⟩
  · exact ⟨by decide, _, Try.func18, tc18, tm18⟩
  · exact ⟨by decide, _, Try.func19, tc19, tm19⟩
  · exact ⟨by decide, _, Try.func20, tc20, tm20⟩
  · exact ⟨by decide, _, Try.func21, tc21, tm21⟩
  · exact ⟨by decide, _, Try.func23, tc23, tm23⟩
  · exact ⟨by decide, _, Try.func24, tc24, tm24⟩
  · exact ⟨by decide, _, Try.func25, tc25, tm25⟩
  · exact ⟨by decide, _, Try.func26, tc26, tm26⟩
  · exact ⟨by decide, _, Try.func27, tc27, tm27⟩
  · exact ⟨by decide, _, Try.func28, tc28, tm28⟩
  · exact ⟨by decide, _, Try.func29, tc29, tm29⟩
  · exact ⟨by decide, _, Try.func30, tc30, tm30⟩
  · exact ⟨by decide, _, Try.func31, tc31, tm31⟩
  · exact ⟨by decide, _, Try.func32, tc32, tm32⟩
  · exact ⟨by decide, _, Try.func35, tc35, tm35⟩
  · exact ⟨by decide, _, Try.func36, tc36, tm36⟩
  · exact ⟨by decide, _, Try.func37, tc37, tm37⟩
  · exact ⟨by decide, _, Try.func38, tc38, tm38⟩
  · exact ⟨by decide, _, Try.func39, tc39, tm39⟩
  · exact ⟨by decide, _, Try.func40, tc40, tm40⟩
  · exact ⟨by decide, _, Try.func41, tc41, tm41⟩
  · exact ⟨by decide, _, Try.func42, tc42, tm42⟩
  · exact ⟨by decide, _, Try.func43, tc43, tm43⟩
  · exact ⟨by decide, _, Try.func44, tc44, tm44⟩
  · exact ⟨by decide, _, Try.func45, tc45, tm45⟩
  · exact ⟨by decide, _, Try.func46, tc46, tm46⟩
  · exact ⟨by decide, _, Try.func47, tc47, tm47⟩
  · exact ⟨by decide, _, Try.func48, tc48, tm48⟩
  · exact ⟨by decide, _, Try.func49, tc49, tm49⟩
  · exact ⟨by decide, _, Try.func50, tc50, tm50⟩
  · exact ⟨by decide, _, Try.func51, tc51, tm51⟩
  · exact ⟨by decide, _, Try.func52, tc52, tm52⟩
  · exact ⟨by decide, _, Try.func53, tc53, tm53⟩
  · exact ⟨by decide, _, Try.func54, tc54, tm54⟩
  · exact ⟨by decide, _, Try.func56, tc56, tm56⟩
  · exact ⟨by decide, _, Try.func57, tc57, tm57⟩
  · exact ⟨by decide, _, Try.func58, tc58, tm58⟩
  · exact ⟨by decide, _, Try.func59, tc59, tm59⟩
  · exact ⟨by decide, _, Try.func60, tc60, tm60⟩
  · exact ⟨by decide, _, Try.func61, tc61, tm61⟩
  · exact ⟨by decide, _, Try.func62, tc62, tm62⟩
  · exact ⟨by decide, _, Try.func63, tc63, tm63⟩
  · exact ⟨by decide, _, Try.func64, tc64, tm64⟩
  · exact ⟨by decide, _, Try.func65, tc65, tm65⟩
  · exact ⟨by decide, _, Try.func66, tc66, tm66⟩
  · exact ⟨by decide, _, Try.func67, tc67, tm67⟩
  · exact ⟨by decide, _, Try.func68, tc68, tm68⟩
  · exact ⟨by decide, _, Try.func69, tc69, tm69⟩
  · exact ⟨by decide, _, Try.func71, tc71, tm71⟩
  · exact ⟨by decide, _, Try.func72, tc72, tm72⟩
  · exact ⟨by decide, _, Try.func73, tc73, tm73⟩
  · exact ⟨by decide, _, Try.func74, tc74, tm74⟩
  · exact ⟨by decide, _, Try.func75, tc75, tm75⟩
  · exact ⟨by decide, _, Try.func76, tc76, tm76⟩
  · exact ⟨by decide, _, Try.func77, tc77, tm77⟩
  · exact ⟨by decide, _, Try.func78, tc78, tm78⟩
  · exact ⟨by decide, _, Try.func79, tc79, tm79⟩
  · exact ⟨by decide, _, Try.func80, tc80, tm80⟩
  · exact ⟨by decide, _, Try.func81, tc81, tm81⟩
  · exact ⟨by decide, _, Try.func82, tc82, tm82⟩
  · exact ⟨by decide, _, Try.func83, tc83, tm83⟩
  · exact ⟨by decide, _, Try.func84, tc84, tm84⟩
  · exact ⟨by decide, _, Try.func85, tc85, tm85⟩
  · exact ⟨by decide, _, Try.func86, tc86, tm86⟩
  · exact ⟨by decide, _, Try.func87, tc87, tm87⟩
  · exact ⟨by decide, _, Try.func88, tc88, tm88⟩
  · exact ⟨by decide, _, Try.func89, tc89, tm89⟩
  · exact ⟨by decide, _, Try.func90, tc90, tm90⟩
  · exact ⟨by decide, _, Try.func91, tc91, tm91⟩
  · exact ⟨by decide, _, Try.func92, tc92, tm92⟩
  · exact ⟨by decide, _, Try.func93, tc93, tm93⟩
  · exact ⟨by decide, _, Try.func94, tc94, tm94⟩
  · exact ⟨by decide, _, Try.func95, tc95, tm95⟩
  · exact ⟨by decide, _, Try.func96, tc96, tm96⟩
end Go.Proofs.Ytpfpngmfooagiaa.VM
