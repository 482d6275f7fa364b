/- The compiled functions are the program's: shown by the kernel, one by one. -/
import Derived.Test.YtinonmcnofjeeaaQAg
import Derived.Test.YtinonmcnofjeeaaQAPu
import Derived.Test.YtinonmcnofjeeaaChecked
namespace Go.Proofs.Ytinonmcnofjeeaa.VM
set_option linter.unusedSimpArgs false
set_option linter.unusedVariables false
set_option linter.defProp false
set_option maxHeartbeats 1000000
theorem tc10 : cFun Try.prog Try.f10 = some v10 := by kernel_rfl
theorem tm10 : Try.f10.name ≠ "runtime.NumGoroutine" := name_ne (by kernel_rfl)
theorem tc13 : cFun Try.prog Try.f13 = some v13 := by kernel_rfl
theorem tm13 : Try.f13.name ≠ "runtime.NumGoroutine" := name_ne (by kernel_rfl)
theorem tc14 : cFun Try.prog Try.f14 = some v14 := by kernel_rfl
theorem tm14 : Try.f14.name ≠ "runtime.NumGoroutine" := name_ne (by kernel_rfl)
theorem tc19 : cFun Try.prog Try.f19 = some v19 := by kernel_rfl
theorem tm19 : Try.f19.name ≠ "runtime.NumGoroutine" := name_ne (by kernel_rfl)
theorem tc21 : cFun Try.prog Try.f21 = some v21 := by kernel_rfl
theorem tm21 : Try.f21.name ≠ "runtime.NumGoroutine" := name_ne (by kernel_rfl)
theorem tc22 : cFun Try.prog Try.f22 = some v22 := by kernel_rfl
theorem tm22 : Try.f22.name ≠ "runtime.NumGoroutine" := name_ne (by kernel_rfl)
theorem tc25 : cFun Try.prog Try.f25 = some v25 := by kernel_rfl
theorem tm25 : Try.f25.name ≠ "runtime.NumGoroutine" := name_ne (by kernel_rfl)
theorem tc26 : cFun Try.prog Try.f26 = some v26 := by kernel_rfl
theorem tm26 : Try.f26.name ≠ "runtime.NumGoroutine" := name_ne (by kernel_rfl)
theorem tc29 : cFun Try.prog Try.f29 = some v29 := by kernel_rfl
theorem tm29 : Try.f29.name ≠ "runtime.NumGoroutine" := name_ne (by kernel_rfl)
theorem tc30 : cFun Try.prog Try.f30 = some v30 := by kernel_rfl
theorem tm30 : Try.f30.name ≠ "runtime.NumGoroutine" := name_ne (by kernel_rfl)
theorem tc32 : cFun Try.prog Try.f32 = some v32 := by kernel_rfl
theorem tm32 : Try.f32.name ≠ "runtime.NumGoroutine" := name_ne (by kernel_rfl)
theorem tc33 : cFun Try.prog Try.f33 = some v33 := by kernel_rfl
theorem tm33 : Try.f33.name ≠ "runtime.NumGoroutine" := name_ne (by kernel_rfl)
theorem tc34 : cFun Try.prog Try.f34 = some v34 := by kernel_rfl
theorem tm34 : Try.f34.name ≠ "runtime.NumGoroutine" := name_ne (by kernel_rfl)
theorem tc35 : cFun Try.prog Try.f35 = some v35 := by kernel_rfl
theorem tm35 : Try.f35.name ≠ "runtime.NumGoroutine" := name_ne (by kernel_rfl)
theorem tc36 : cFun Try.prog Try.f36 = some v36 := by kernel_rfl
theorem tm36 : Try.f36.name ≠ "runtime.NumGoroutine" := name_ne (by kernel_rfl)
theorem tc37 : cFun Try.prog Try.f37 = some v37 := by kernel_rfl
theorem tm37 : Try.f37.name ≠ "runtime.NumGoroutine" := name_ne (by kernel_rfl)
theorem tc38 : cFun Try.prog Try.f38 = some v38 := by kernel_rfl
theorem tm38 : Try.f38.name ≠ "runtime.NumGoroutine" := name_ne (by kernel_rfl)
theorem tc39 : cFun Try.prog Try.f39 = some v39 := by kernel_rfl
theorem tm39 : Try.f39.name ≠ "runtime.NumGoroutine" := name_ne (by kernel_rfl)
theorem tc40 : cFun Try.prog Try.f40 = some v40 := by kernel_rfl
theorem tm40 : Try.f40.name ≠ "runtime.NumGoroutine" := name_ne (by kernel_rfl)
theorem tc41 : cFun Try.prog Try.f41 = some v41 := by kernel_rfl
theorem tm41 : Try.f41.name ≠ "runtime.NumGoroutine" := name_ne (by kernel_rfl)
theorem tc42 : cFun Try.prog Try.f42 = some v42 := by kernel_rfl
theorem tm42 : Try.f42.name ≠ "runtime.NumGoroutine" := name_ne (by kernel_rfl)
theorem tc43 : cFun Try.prog Try.f43 = some v43 := by kernel_rfl
theorem tm43 : Try.f43.name ≠ "runtime.NumGoroutine" := name_ne (by kernel_rfl)
theorem tc44 : cFun Try.prog Try.f44 = some v44 := by kernel_rfl
theorem tm44 : Try.f44.name ≠ "runtime.NumGoroutine" := name_ne (by kernel_rfl)
theorem tc46 : cFun Try.prog Try.f46 = some v46 := by kernel_rfl
theorem tm46 : Try.f46.name ≠ "runtime.NumGoroutine" := name_ne (by kernel_rfl)
theorem tc47 : cFun Try.prog Try.f47 = some v47 := by kernel_rfl
theorem tm47 : Try.f47.name ≠ "runtime.NumGoroutine" := name_ne (by kernel_rfl)
theorem tc48 : cFun Try.prog Try.f48 = some v48 := by kernel_rfl
theorem tm48 : Try.f48.name ≠ "runtime.NumGoroutine" := name_ne (by kernel_rfl)
theorem tc49 : cFun Try.prog Try.f49 = some v49 := by kernel_rfl
theorem tm49 : Try.f49.name ≠ "runtime.NumGoroutine" := name_ne (by kernel_rfl)
theorem tc50 : cFun Try.prog Try.f50 = some v50 := by kernel_rfl
theorem tm50 : Try.f50.name ≠ "runtime.NumGoroutine" := name_ne (by kernel_rfl)
theorem tc52 : cFun Try.prog Try.f52 = some v52 := by kernel_rfl
theorem tm52 : Try.f52.name ≠ "runtime.NumGoroutine" := name_ne (by kernel_rfl)
theorem tc53 : cFun Try.prog Try.f53 = some v53 := by kernel_rfl
theorem tm53 : Try.f53.name ≠ "runtime.NumGoroutine" := name_ne (by kernel_rfl)
theorem tc54 : cFun Try.prog Try.f54 = some v54 := by kernel_rfl
theorem tm54 : Try.f54.name ≠ "runtime.NumGoroutine" := name_ne (by kernel_rfl)
theorem tc55 : cFun Try.prog Try.f55 = some v55 := by kernel_rfl
theorem tm55 : Try.f55.name ≠ "runtime.NumGoroutine" := name_ne (by kernel_rfl)
theorem tc56 : cFun Try.prog Try.f56 = some v56 := by kernel_rfl
theorem tm56 : Try.f56.name ≠ "runtime.NumGoroutine" := name_ne (by kernel_rfl)
theorem tc67 : cFun Try.prog Try.f67 = some v67 := by kernel_rfl
theorem tm67 : Try.f67.name ≠ "runtime.NumGoroutine" := name_ne (by kernel_rfl)
theorem tc68 : cFun Try.prog Try.f68 = some v68 := by kernel_rfl
theorem tm68 : Try.f68.name ≠ "runtime.NumGoroutine" := name_ne (by kernel_rfl)
theorem tc69 : cFun Try.prog Try.f69 = some v69 := by kernel_rfl
theorem tm69 : Try.f69.name ≠ "runtime.NumGoroutine" := name_ne (by kernel_rfl)
theorem tc70 : cFun Try.prog Try.f70 = some v70 := by kernel_rfl
theorem tm70 : Try.f70.name ≠ "runtime.NumGoroutine" := name_ne (by kernel_rfl)
theorem tc71 : cFun Try.prog Try.f71 = some v71 := by kernel_rfl
theorem tm71 : Try.f71.name ≠ "runtime.NumGoroutine" := name_ne (by kernel_rfl)
theorem tc72 : cFun Try.prog Try.f72 = some v72 := by kernel_rfl
theorem tm72 : Try.f72.name ≠ "runtime.NumGoroutine" := name_ne (by kernel_rfl)
theorem tc73 : cFun Try.prog Try.f73 = some v73 := by kernel_rfl
theorem tm73 : Try.f73.name ≠ "runtime.NumGoroutine" := name_ne (by kernel_rfl)
theorem tc74 : cFun Try.prog Try.f74 = some v74 := by kernel_rfl
theorem tm74 : Try.f74.name ≠ "runtime.NumGoroutine" := name_ne (by kernel_rfl)
theorem tc75 : cFun Try.prog Try.f75 = some v75 := by kernel_rfl
theorem tm75 : Try.f75.name ≠ "runtime.NumGoroutine" := name_ne (by kernel_rfl)
theorem tc76 : cFun Try.prog Try.f76 = some v76 := by kernel_rfl
theorem tm76 : Try.f76.name ≠ "runtime.NumGoroutine" := name_ne (by kernel_rfl)
theorem tc77 : cFun Try.prog Try.f77 = some v77 := by kernel_rfl
theorem tm77 : Try.f77.name ≠ "runtime.NumGoroutine" := name_ne (by kernel_rfl)
theorem tc81 : cFun Try.prog Try.f81 = some v81 := by kernel_rfl
theorem tm81 : Try.f81.name ≠ "runtime.NumGoroutine" := name_ne (by kernel_rfl)
theorem tc82 : cFun Try.prog Try.f82 = some v82 := by kernel_rfl
theorem tm82 : Try.f82.name ≠ "runtime.NumGoroutine" := name_ne (by kernel_rfl)
theorem tc83 : cFun Try.prog Try.f83 = some v83 := by kernel_rfl
theorem tm83 : Try.f83.name ≠ "runtime.NumGoroutine" := name_ne (by kernel_rfl)
theorem tc84 : cFun Try.prog Try.f84 = some v84 := by kernel_rfl
theorem tm84 : Try.f84.name ≠ "runtime.NumGoroutine" := name_ne (by kernel_rfl)
theorem tc85 : cFun Try.prog Try.f85 = some v85 := by kernel_rfl
theorem tm85 : Try.f85.name ≠ "runtime.NumGoroutine" := name_ne (by kernel_rfl)
theorem tc86 : cFun Try.prog Try.f86 = some v86 := by kernel_rfl
theorem tm86 : Try.f86.name ≠ "runtime.NumGoroutine" := name_ne (by kernel_rfl)
theorem tc87 : cFun Try.prog Try.f87 = some v87 := by kernel_rfl
theorem tm87 : Try.f87.name ≠ "runtime.NumGoroutine" := name_ne (by kernel_rfl)
theorem tc88 : cFun Try.prog Try.f88 = some v88 := by kernel_rfl
theorem tm88 : Try.f88.name ≠ "runtime.NumGoroutine" := name_ne (by kernel_rfl)
theorem tc89 : cFun Try.prog Try.f89 = some v89 := by kernel_rfl
theorem tm89 : Try.f89.name ≠ "runtime.NumGoroutine" := name_ne (by kernel_rfl)
theorem tc90 : cFun Try.prog Try.f90 = some v90 := by kernel_rfl
theorem tm90 : Try.f90.name ≠ "runtime.NumGoroutine" := name_ne (by kernel_rfl)
theorem tc91 : cFun Try.prog Try.f91 = some v91 := by kernel_rfl
theorem tm91 : Try.f91.name ≠ "runtime.NumGoroutine" := name_ne (by kernel_rfl)
theorem tc92 : cFun Try.prog Try.f92 = some v92 := by kernel_rfl
theorem tm92 : Try.f92.name ≠ "runtime.NumGoroutine" := name_ne (by kernel_rfl)
theorem tc93 : cFun Try.prog Try.f93 = some v93 := by kernel_rfl
theorem tm93 : Try.f93.name ≠ "runtime.NumGoroutine" := name_ne (by kernel_rfl)
theorem tc94 : cFun Try.prog Try.f94 = some v94 := by kernel_rfl
theorem tm94 : Try.f94.name ≠ "runtime.NumGoroutine" := name_ne (by kernel_rfl)
theorem tc96 : cFun Try.prog Try.f96 = some v96 := by kernel_rfl
theorem tm96 : Try.f96.name ≠ "runtime.NumGoroutine" := name_ne (by kernel_rfl)
theorem tc97 : cFun Try.prog Try.f97 = some v97 := by kernel_rfl
theorem tm97 : Try.f97.name ≠ "runtime.NumGoroutine" := name_ne (by kernel_rfl)
theorem tc98 : cFun Try.prog Try.f98 = some v98 := by kernel_rfl
theorem tm98 : Try.f98.name ≠ "runtime.NumGoroutine" := name_ne (by kernel_rfl)
theorem tc99 : cFun Try.prog Try.f99 = some v99 := by kernel_rfl
theorem tm99 : Try.f99.name ≠ "runtime.NumGoroutine" := name_ne (by kernel_rfl)
theorem tc100 : cFun Try.prog Try.f100 = some v100 := by kernel_rfl
theorem tm100 : Try.f100.name ≠ "runtime.NumGoroutine" := name_ne (by kernel_rfl)
theorem tc101 : cFun Try.prog Try.f101 = some v101 := by kernel_rfl
theorem tm101 : Try.f101.name ≠ "runtime.NumGoroutine" := name_ne (by kernel_rfl)
theorem tc102 : cFun Try.prog Try.f102 = some v102 := by kernel_rfl
theorem tm102 : Try.f102.name ≠ "runtime.NumGoroutine" := name_ne (by kernel_rfl)
theorem tc103 : cFun Try.prog Try.f103 = some v103 := by kernel_rfl
theorem tm103 : Try.f103.name ≠ "runtime.NumGoroutine" := name_ne (by kernel_rfl)
theorem tc104 : cFun Try.prog Try.f104 = some v104 := by kernel_rfl
theorem tm104 : Try.f104.name ≠ "runtime.NumGoroutine" := name_ne (by kernel_rfl)
theorem tc105 : cFun Try.prog Try.f105 = some v105 := by kernel_rfl
theorem tm105 : Try.f105.name ≠ "runtime.NumGoroutine" := name_ne (by kernel_rfl)
theorem tc106 : cFun Try.prog Try.f106 = some v106 := by kernel_rfl
theorem tm106 : Try.f106.name ≠ "runtime.NumGoroutine" := name_ne (by kernel_rfl)
theorem tc107 : cFun Try.prog Try.f107 = some v107 := by kernel_rfl
theorem tm107 : Try.f107.name ≠ "runtime.NumGoroutine" := name_ne (by kernel_rfl)
theorem tc108 : cFun Try.prog Try.f108 = some v108 := by kernel_rfl
theorem tm108 : Try.f108.name ≠ "runtime.NumGoroutine" := name_ne (by kernel_rfl)
theorem tc109 : cFun Try.prog Try.f109 = some v109 := by kernel_rfl
theorem tm109 : Try.f109.name ≠ "runtime.NumGoroutine" := name_ne (by kernel_rfl)
theorem tc110 : cFun Try.prog Try.f110 = some v110 := by kernel_rfl
theorem tm110 : Try.f110.name ≠ "runtime.NumGoroutine" := name_ne (by kernel_rfl)
theorem tc111 : cFun Try.prog Try.f111 = some v111 := by kernel_rfl
theorem tm111 : Try.f111.name ≠ "runtime.NumGoroutine" := name_ne (by kernel_rfl)
theorem tc112 : cFun Try.prog Try.f112 = some v112 := by kernel_rfl
theorem tm112 : Try.f112.name ≠ "runtime.NumGoroutine" := name_ne (by kernel_rfl)
theorem tc113 : cFun Try.prog Try.f113 = some v113 := by kernel_rfl
theorem tm113 : Try.f113.name ≠ "runtime.NumGoroutine" := name_ne (by kernel_rfl)
theorem tc114 : cFun Try.prog Try.f114 = some v114 := by kernel_rfl
theorem tm114 : Try.f114.name ≠ "runtime.NumGoroutine" := name_ne (by kernel_rfl)
theorem tc115 : cFun Try.prog Try.f115 = some v115 := by kernel_rfl
theorem tm115 : Try.f115.name ≠ "runtime.NumGoroutine" := name_ne (by kernel_rfl)
theorem tc116 : cFun Try.prog Try.f116 = some v116 := by kernel_rfl
theorem tm116 : Try.f116.name ≠ "runtime.NumGoroutine" := name_ne (by kernel_rfl)
theorem tc117 : cFun Try.prog Try.f117 = some v117 := by kernel_rfl
theorem tm117 : Try.f117.name ≠ "runtime.NumGoroutine" := name_ne (by kernel_rfl)
theorem tc118 : cFun Try.prog Try.f118 = some v118 := by kernel_rfl
theorem tm118 : Try.f118.name ≠ "runtime.NumGoroutine" := name_ne (by kernel_rfl)
theorem tc119 : cFun Try.prog Try.f119 = some v119 := by kernel_rfl
theorem tm119 : Try.f119.name ≠ "runtime.NumGoroutine" := name_ne (by kernel_rfl)
theorem tc120 : cFun Try.prog Try.f120 = some v120 := by kernel_rfl
theorem tm120 : Try.f120.name ≠ "runtime.NumGoroutine" := name_ne (by kernel_rfl)
theorem tc121 : cFun Try.prog Try.f121 = some v121 := by kernel_rfl
theorem tm121 : Try.f121.name ≠ "runtime.NumGoroutine" := name_ne (by kernel_rfl)
theorem tc122 : cFun Try.prog Try.f122 = some v122 := by kernel_rfl
theorem tm122 : Try.f122.name ≠ "runtime.NumGoroutine" := name_ne (by kernel_rfl)
theorem tc123 : cFun Try.prog Try.f123 = some v123 := by kernel_rfl
theorem tm123 : Try.f123.name ≠ "runtime.NumGoroutine" := name_ne (by kernel_rfl)
theorem tc124 : cFun Try.prog Try.f124 = some v124 := by kernel_rfl
theorem tm124 : Try.f124.name ≠ "runtime.NumGoroutine" := name_ne (by kernel_rfl)
theorem tc125 : cFun Try.prog Try.f125 = some v125 := by kernel_rfl
theorem tm125 : Try.f125.name ≠ "runtime.NumGoroutine" := name_ne (by kernel_rfl)
theorem tc126 : cFun Try.prog Try.f126 = some v126 := by kernel_rfl
theorem tm126 : Try.f126.name ≠ "runtime.NumGoroutine" := name_ne (by kernel_rfl)
theorem tc127 : cFun Try.prog Try.f127 = some v127 := by kernel_rfl
theorem tm127 : Try.f127.name ≠ "runtime.NumGoroutine" := name_ne (by kernel_rfl)
theorem tc128 : cFun Try.prog Try.f128 = some v128 := by kernel_rfl
theorem tm128 : Try.f128.name ≠ "runtime.NumGoroutine" := name_ne (by kernel_rfl)
theorem tc129 : cFun Try.prog Try.f129 = some v129 := by kernel_rfl
theorem tm129 : Try.f129.name ≠ "runtime.NumGoroutine" := name_ne (by kernel_rfl)
theorem tc130 : cFun Try.prog Try.f130 = some v130 := by kernel_rfl
theorem tm130 : Try.f130.name ≠ "runtime.NumGoroutine" := name_ne (by kernel_rfl)
theorem pg : Pg Try.prog tab := by
  refine ⟨by kernel_rfl, table_ok fun p hp => ?_⟩
  simp only [List.mem_cons, List.not_mem_nil, or_false] at hp
  rcases hp with rfl | rfl | rfl | rfl | rfl | rfl | rfl | rfl | rfl | rfl | rfl | rfl | rfl | rfl | rfl | rfl | rfl | rfl | rfl | rfl | rfl | rfl | rfl | rfl | rfl | rfl | rfl | rfl | rfl | rfl | rfl | rfl | rfl | rfl | rfl | rfl | rfl | rfl | rfl | rfl | rfl | rfl | rfl | rfl | rfl | rfl | rfl | rfl | rfl | rfl | rfl | rfl | rfl | rfl | rfl | rfl | rfl | rfl | rfl | rfl | rfl | rfl | rfl | rfl | rfl | rfl | rfl | rfl | rfl | rfl | rfl | rfl | rfl | rfl | rfl | rfl | rfl | rfl | rfl | rfl | rfl | rfl | rfl | rfl | rfl | rfl | rfl | rfl | rfl | rfl | rfl | rfl | rfl
  · exact ⟨by decide, _, Try.func10, tc10, tm10⟩
  · exact ⟨by decide, _, Try.func13, tc13, tm13⟩
  · exact ⟨by decide, _, Try.func14, tc14, tm14⟩
  · exact ⟨by decide, _, Try.func19, tc19, tm19⟩
  · exact ⟨by decide, _, Try.func21, tc21, tm21⟩
  · exact ⟨by decide, _, Try.func22, tc22, tm22⟩
  · exact ⟨by decide, _, Try.func25, tc25, tm25⟩
  · exact ⟨by decide, _, Try.func26, tc26, tm26⟩
  · exact ⟨by decide, _, Try.func29, tc29, tm29⟩
  · exact ⟨by decide, _, Try.func30, tc30, tm30⟩
  · exact ⟨by decide, _, Try.func32, tc32, tm32⟩
  · exact ⟨by decide, _, Try.func33, tc33, tm33⟩
  · exact ⟨by decide, _, Try.func34, tc34, tm34⟩
  · exact ⟨by decide, _, Try.func35, tc35, tm35⟩
  · exact ⟨by decide, _, Try.func36, tc36, tm36⟩
  · exact ⟨by decide, _, Try.func37, tc37, tm37⟩
  · exact ⟨by decide, _, Try.func38, tc38, tm38⟩
  · exact ⟨by decide, _, Try.func39, tc39, tm39⟩
  · exact ⟨by decide, _, Try.func40, tc40, tm40⟩
  · exact ⟨by decide, _, Try.func41, tc41, tm41⟩
  · exact ⟨by decide, _, Try.func42, tc42, tm42⟩
  · exact ⟨by decide, _, Try.func43, tc43, tm43⟩
  · exact ⟨by decide, _, Try.func44, tc44, tm44⟩
  · exact ⟨by decide, _, Try.func46, tc46, tm46⟩
  · exact ⟨by decide, _, Try.func47, tc47, tm47⟩
  · exact ⟨by decide, _, Try.func48, tc48, tm48⟩
  · exact ⟨by decide, _, Try.func49, tc49, tm49⟩
  · exact ⟨by decide, _, Try.func50, tc50, tm50⟩
  · exact ⟨by decide, _, Try.func52, tc52, tm52⟩
  · exact ⟨by decide, _, Try.func53, tc53, tm53⟩
  · exact ⟨by decide, _, Try.func54, tc54, tm54⟩
  · exact ⟨by decide, _, Try.func55, tc55, tm55⟩
  · exact ⟨by decide, _, Try.func56, tc56, tm56⟩
  · exact ⟨by decide, _, Try.func67, tc67, tm67⟩
  · exact ⟨by decide, _, Try.func68, tc68, tm68⟩
  · exact ⟨by decide, _, Try.func69, tc69, tm69⟩
  · exact ⟨by decide, _, Try.func70, tc70, tm70⟩
  · exact ⟨by decide, _, Try.func71, tc71, tm71⟩
  · exact ⟨by decide, _, Try.func72, tc72, tm72⟩
  · exact ⟨by decide, _, Try.func73, tc73, tm73⟩
  · exact ⟨by decide, _, Try.func74, tc74, tm74⟩
  · exact ⟨by decide, _, Try.func75, tc75, tm75⟩
  · exact ⟨by decide, _, Try.func76, tc76, tm76⟩
  · exact ⟨by decide, _, Try.func77, tc77, tm77⟩
  · exact ⟨by decide, _, Try.func81, tc81, tm81⟩
  · exact ⟨by decide, _, Try.func82, tc82, tm82⟩
  · exact ⟨by decide, _, Try.func83, tc83, tm83⟩
  · exact ⟨by decide, _, Try.func84, tc84, tm84⟩
  · exact ⟨by decide, _, Try.func85, tc85, tm85⟩
  · exact ⟨by decide, _, Try.func86, tc86, tm86⟩
  · exact ⟨by decide, _, Try.func87, tc87, tm87⟩
  · exact ⟨by decide, _, Try.func88, tc88, tm88⟩
  · exact ⟨by decide, _, Try.func89, tc89, tm89⟩
  · exact ⟨by decide, _, Try.func90, tc90, tm90⟩
  · exact ⟨by decide, _, Try.func91, tc91, tm91⟩
  · exact ⟨by decide, _, Try.func92, tc92, tm92⟩
  · exact ⟨by decide, _, Try.func93, tc93, tm93⟩
  · exact ⟨by decide, _, Try.func94, tc94, tm94⟩
  · exact ⟨by decide, _, Try.func96, tc96, tm96⟩
  · exact ⟨by decide, _, Try.func97, tc97, tm97⟩
  · exact ⟨by decide, _, Try.func98, tc98, tm98⟩
  · exact ⟨by decide, _, Try.func99, tc99, tm99⟩
  · exact ⟨by decide, _, Try.func100, tc100, tm100⟩
  · exact ⟨by decide, _, Try.func101, tc101, tm101⟩
  · exact ⟨by decide, _, Try.func102, tc102, tm102⟩
  · exact ⟨by decide, _, Try.func103, tc103, tm103⟩
  · exact ⟨by decide, _, Try.func104, tc104, tm104⟩
  · exact ⟨by decide, _, Try.func105, tc105, tm105⟩
  · exact ⟨by decide, _, Try.func106, tc106, tm106⟩
  · exact ⟨by decide, _, Try.func107, tc107, tm107⟩
  · exact ⟨by decide, _, Try.func108, tc108, tm108⟩
  · exact ⟨by decide, _, Try.func109, tc109, tm109⟩
  · exact ⟨by decide, _, Try.func110, tc110, tm110⟩
  · exact ⟨by decide, _, Try.func111, tc111, tm111⟩
  · exact ⟨by decide, _, Try.func112, tc112, tm112⟩
  · exact ⟨by decide, _, Try.func113, tc113, tm113⟩
  · exact ⟨by decide, _, Try.func114, tc114, tm114⟩
  · exact ⟨by decide, _, Try.func115, tc115, tm115⟩
  · exact ⟨by decide, _, Try.func116, tc116, tm116⟩
  · exact ⟨by decide, _, Try.func117, tc117, tm117⟩
  · exact ⟨by decide, _, Try.func118, tc118, tm118⟩
  · exact ⟨by decide, _, Try.func119, tc119, tm119⟩
  · exact ⟨by decide, _, Try.func120, tc120, tm120⟩
  · exact ⟨by decide, _, Try.func121, tc121, tm121⟩
  · exact ⟨by decide, _, Try.func122, tc122, tm122⟩
  · exact ⟨by decide, _, Try.func123, tc123, tm123⟩
  · exact ⟨by decide, _, Try.func124, tc124, tm124⟩
  · exact ⟨by decide, _, Try.func125, tc125, tm125⟩
  · exact ⟨by decide, _, Try.func126, tc126, tm126⟩
  · exact ⟨by decide, _, Try.func127, tc127, tm127⟩
  · exact ⟨by decide, _, Try.func128, tc128, tm128⟩
  · exact ⟨by decide, _, Try.func129, tc129, tm129⟩
  · exact ⟨by decide, _, Try.func130, tc130, tm130⟩
end Go.Proofs.Ytinonmcnofjeeaa.VM
