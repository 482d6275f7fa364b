/- The compiled functions are the program's: shown by the kernel, one by one. -/
import Derived.Test.YtpfpngmfooagiaaGreatMNe
import Derived.Test.YtpfpngmfooagiaaGreatMNPu
import Derived.Test.YtpfpngmfooagiaaGreatChecked
namespace Go.Proofs.YtpfpngmfooagiaaGreat.VM
set_option linter.unusedSimpArgs false
set_option linter.unusedVariables false
set_option linter.defProp false
set_option maxHeartbeats 1000000
theorem tc4 : cFun Tryz.prog Tryz.f4 = some v4 := by kernel_rfl
theorem tm4 : Tryz.f4.name ≠ "runtime.NumGoroutine" := name_ne (by kernel_rfl)
theorem tc12 : cFun Tryz.prog Tryz.f12 = some v12 := by kernel_rfl
theorem tm12 : Tryz.f12.name ≠ "runtime.NumGoroutine" := name_ne (by kernel_rfl)
theorem tc14 : cFun Tryz.prog Tryz.f14 = some v14 := by kernel_rfl
theorem tm14 : Tryz.f14.name ≠ "runtime.NumGoroutine" := name_ne (by kernel_rfl)
theorem tc16 : cFun Tryz.prog Tryz.f16 = some v16 := by kernel_rfl
theorem tm16 : Tryz.f16.name ≠ "runtime.NumGoroutine" := name_ne (by kernel_rfl)
theorem tc18 : cFun Tryz.prog Tryz.f18 = some v18 := by kernel_rfl
theorem tm18 : Tryz.f18.name ≠ "runtime.NumGoroutine" := name_ne (by kernel_rfl)
theorem tc19 : cFun Tryz.prog Tryz.f19 = some v19 := by kernel_rfl
theorem tm19 : Tryz.f19.name ≠ "runtime.NumGoroutine" := name_ne (by kernel_rfl)
theorem tc22 : cFun Tryz.prog Tryz.f22 = some v22 := by kernel_rfl
theorem tm22 : Tryz.f22.name ≠ "runtime.NumGoroutine" := name_ne (by kernel_rfl)
theorem tc23 : cFun Tryz.prog Tryz.f23 = some v23 := by kernel_rfl
theorem tm23 : Tryz.f23.name ≠ "runtime.NumGoroutine" := name_ne (by kernel_rfl)
theorem tc24 : cFun Tryz.prog Tryz.f24 = some v24 := by kernel_rfl
theorem tm24 : Tryz.f24.name ≠ "runtime.NumGoroutine" := name_ne (by kernel_rfl)
theorem tc25 : cFun Tryz.prog Tryz.f25 = some v25 := by kernel_rfl
theorem tm25 : Tryz.f25.name ≠ "runtime.NumGoroutine" := name_ne (by kernel_rfl)
theorem tc36 : cFun Tryz.prog Tryz.f36 = some v36 := by kernel_rfl
theorem tm36 : Tryz.f36.name ≠ "runtime.NumGoroutine" := name_ne (by kernel_rfl)
theorem tc37 : cFun Tryz.prog Tryz.f37 = some v37 := by kernel_rfl
theorem tm37 : Tryz.f37.name ≠ "runtime.NumGoroutine" := name_ne (by kernel_rfl)
theorem tc40 : cFun Tryz.prog Tryz.f40 = some v40 := by kernel_rfl
theorem tm40 : Tryz.f40.name ≠ "runtime.NumGoroutine" := name_ne (by kernel_rfl)
theorem tc41 : cFun Tryz.prog Tryz.f41 = some v41 := by kernel_rfl
theorem tm41 : Tryz.f41.name ≠ "runtime.NumGoroutine" := name_ne (by kernel_rfl)
theorem tc42 : cFun Tryz.prog Tryz.f42 = some v42 := by kernel_rfl
theorem tm42 : Tryz.f42.name ≠ "runtime.NumGoroutine" := name_ne (by kernel_rfl)
theorem tc43 : cFun Tryz.prog Tryz.f43 = some v43 := by kernel_rfl
theorem tm43 : Tryz.f43.name ≠ "runtime.NumGoroutine" := name_ne (by kernel_rfl)
theorem tc44 : cFun Tryz.prog Tryz.f44 = some v44 := by kernel_rfl
theorem tm44 : Tryz.f44.name ≠ "runtime.NumGoroutine" := name_ne (by kernel_rfl)
theorem tc45 : cFun Tryz.prog Tryz.f45 = some v45 := by kernel_rfl
theorem tm45 : Tryz.f45.name ≠ "runtime.NumGoroutine" := name_ne (by kernel_rfl)
theorem tc47 : cFun Tryz.prog Tryz.f47 = some v47 := by kernel_rfl
theorem tm47 : Tryz.f47.name ≠ "runtime.NumGoroutine" := name_ne (by kernel_rfl)
theorem tc52 : cFun Tryz.prog Tryz.f52 = some v52 := by kernel_rfl
theorem tm52 : Tryz.f52.name ≠ "runtime.NumGoroutine" := name_ne (by kernel_rfl)
theorem tc53 : cFun Tryz.prog Tryz.f53 = some v53 := by kernel_rfl
theorem tm53 : Tryz.f53.name ≠ "runtime.NumGoroutine" := name_ne (by kernel_rfl)
theorem tc55 : cFun Tryz.prog Tryz.f55 = some v55 := by kernel_rfl
theorem tm55 : Tryz.f55.name ≠ "runtime.NumGoroutine" := name_ne (by kernel_rfl)
theorem tc56 : cFun Tryz.prog Tryz.f56 = some v56 := by kernel_rfl
theorem tm56 : Tryz.f56.name ≠ "runtime.NumGoroutine" := name_ne (by kernel_rfl)
theorem tc59 : cFun Tryz.prog Tryz.f59 = some v59 := by kernel_rfl
theorem tm59 : Tryz.f59.name ≠ "runtime.NumGoroutine" := name_ne (by kernel_rfl)
theorem tc60 : cFun Tryz.prog Tryz.f60 = some v60 := by kernel_rfl
theorem tm60 : Tryz.f60.name ≠ "runtime.NumGoroutine" := name_ne (by kernel_rfl)
theorem tc61 : cFun Tryz.prog Tryz.f61 = some v61 := by kernel_rfl
theorem tm61 : Tryz.f61.name ≠ "runtime.NumGoroutine" := name_ne (by kernel_rfl)
theorem tc62 : cFun Tryz.prog Tryz.f62 = some v62 := by kernel_rfl
theorem tm62 : Tryz.f62.name ≠ "runtime.NumGoroutine" := name_ne (by kernel_rfl)
theorem tc72 : cFun Tryz.prog Tryz.f72 = some v72 := by kernel_rfl
theorem tm72 : Tryz.f72.name ≠ "runtime.NumGoroutine" := name_ne (by kernel_rfl)
theorem tc73 : cFun Tryz.prog Tryz.f73 = some v73 := by kernel_rfl
theorem tm73 : Tryz.f73.name ≠ "runtime.NumGoroutine" := name_ne (by kernel_rfl)
theorem tc74 : cFun Tryz.prog Tryz.f74 = some v74 := by kernel_rfl
theorem tm74 : Tryz.f74.name ≠ "runtime.NumGoroutine" := name_ne (by kernel_rfl)
theorem tc75 : cFun Tryz.prog Tryz.f75 = some v75 := by kernel_rfl
theorem tm75 : Tryz.f75.name ≠ "runtime.NumGoroutine" := name_ne (by kernel_rfl)
theorem tc76 : cFun Tryz.prog Tryz.f76 = some v76 := by kernel_rfl
theorem tm76 : Tryz.f76.name ≠ "runtime.NumGoroutine" := name_ne (by kernel_rfl)
theorem tc79 : cFun Tryz.prog Tryz.f79 = some v79 := by kernel_rfl
theorem tm79 : Tryz.f79.name ≠ "runtime.NumGoroutine" := name_ne (by kernel_rfl)
theorem tc80 : cFun Tryz.prog Tryz.f80 = some v80 := by kernel_rfl
theorem tm80 : Tryz.f80.name ≠ "runtime.NumGoroutine" := name_ne (by kernel_rfl)
theorem tc83 : cFun Tryz.prog Tryz.f83 = some v83 := by kernel_rfl
theorem tm83 : Tryz.f83.name ≠ "runtime.NumGoroutine" := name_ne (by kernel_rfl)
theorem tc84 : cFun Tryz.prog Tryz.f84 = some v84 := by kernel_rfl
theorem tm84 : Tryz.f84.name ≠ "runtime.NumGoroutine" := name_ne (by kernel_rfl)
theorem tc85 : cFun Tryz.prog Tryz.f85 = some v85 := by kernel_rfl
theorem tm85 : Tryz.f85.name ≠ "runtime.NumGoroutine" := name_ne (by kernel_rfl)
theorem tc86 : cFun Tryz.prog Tryz.f86 = some v86 := by kernel_rfl
theorem tm86 : Tryz.f86.name ≠ "runtime.NumGoroutine" := name_ne (by kernel_rfl)
theorem tc87 : cFun Tryz.prog Tryz.f87 = some v87 := by kernel_rfl
theorem tm87 : Tryz.f87.name ≠ "runtime.NumGoroutine" := name_ne (by kernel_rfl)
theorem tc88 : cFun Tryz.prog Tryz.f88 = some v88 := by kernel_rfl
theorem tm88 : Tryz.f88.name ≠ "runtime.NumGoroutine" := name_ne (by kernel_rfl)
theorem tc89 : cFun Tryz.prog Tryz.f89 = some v89 := by kernel_rfl
theorem tm89 : Tryz.f89.name ≠ "runtime.NumGoroutine" := name_ne (by kernel_rfl)
theorem tc90 : cFun Tryz.prog Tryz.f90 = some v90 := by kernel_rfl
theorem tm90 : Tryz.f90.name ≠ "runtime.NumGoroutine" := name_ne (by kernel_rfl)
theorem tc91 : cFun Tryz.prog Tryz.f91 = some v91 := by kernel_rfl
theorem tm91 : Tryz.f91.name ≠ "runtime.NumGoroutine" := name_ne (by kernel_rfl)
theorem tc93 : cFun Tryz.prog Tryz.f93 = some v93 := by kernel_rfl
theorem tm93 : Tryz.f93.name ≠ "runtime.NumGoroutine" := name_ne (by kernel_rfl)
theorem tc94 : cFun Tryz.prog Tryz.f94 = some v94 := by kernel_rfl
theorem tm94 : Tryz.f94.name ≠ "runtime.NumGoroutine" := name_ne (by kernel_rfl)
theorem tc95 : cFun Tryz.prog Tryz.f95 = some v95 := by kernel_rfl
theorem tm95 : Tryz.f95.name ≠ "runtime.NumGoroutine" := name_ne (by kernel_rfl)
theorem tc98 : cFun Tryz.prog Tryz.f98 = some v98 := by kernel_rfl
theorem tm98 : Tryz.f98.name ≠ "runtime.NumGoroutine" := name_ne (by kernel_rfl)
theorem tc99 : cFun Tryz.prog Tryz.f99 = some v99 := by kernel_rfl
theorem tm99 : Tryz.f99.name ≠ "runtime.NumGoroutine" := name_ne (by kernel_rfl)
theorem tc100 : cFun Tryz.prog Tryz.f100 = some v100 := by kernel_rfl
theorem tm100 : Tryz.f100.name ≠ "runtime.NumGoroutine" := name_ne (by kernel_rfl)
theorem tc101 : cFun Tryz.prog Tryz.f101 = some v101 := by kernel_rfl
theorem tm101 : Tryz.f101.name ≠ "runtime.NumGoroutine" := name_ne (by kernel_rfl)
theorem tc119 : cFun Tryz.prog Tryz.f119 = some v119 := by kernel_rfl
theorem tm119 : Tryz.f119.name ≠ "runtime.NumGoroutine" := name_ne (by kernel_rfl)
theorem tc120 : cFun Tryz.prog Tryz.f120 = some v120 := by kernel_rfl
theorem tm120 : Tryz.f120.name ≠ "runtime.NumGoroutine" := name_ne (by kernel_rfl)
theorem tc121 : cFun Tryz.prog Tryz.f121 = some v121 := by kernel_rfl
theorem tm121 : Tryz.f121.name ≠ "runtime.NumGoroutine" := name_ne (by kernel_rfl)
theorem tc122 : cFun Tryz.prog Tryz.f122 = some v122 := by kernel_rfl
theorem tm122 : Tryz.f122.name ≠ "runtime.NumGoroutine" := name_ne (by kernel_rfl)
theorem tc123 : cFun Tryz.prog Tryz.f123 = some v123 := by kernel_rfl
theorem tm123 : Tryz.f123.name ≠ "runtime.NumGoroutine" := name_ne (by kernel_rfl)
theorem tc124 : cFun Tryz.prog Tryz.f124 = some v124 := by kernel_rfl
theorem tm124 : Tryz.f124.name ≠ "runtime.NumGoroutine" := name_ne (by kernel_rfl)
theorem tc125 : cFun Tryz.prog Tryz.f125 = some v125 := by kernel_rfl
theorem tm125 : Tryz.f125.name ≠ "runtime.NumGoroutine" := name_ne (by kernel_rfl)
theorem tc127 : cFun Tryz.prog Tryz.f127 = some v127 := by kernel_rfl
theorem tm127 : Tryz.f127.name ≠ "runtime.NumGoroutine" := name_ne (by kernel_rfl)
theorem tc131 : cFun Tryz.prog Tryz.f131 = some v131 := by kernel_rfl
theorem tm131 : Tryz.f131.name ≠ "runtime.NumGoroutine" := name_ne (by kernel_rfl)
theorem tc132 : cFun Tryz.prog Tryz.f132 = some v132 := by kernel_rfl
theorem tm132 : Tryz.f132.name ≠ "runtime.NumGoroutine" := name_ne (by kernel_rfl)
theorem tc133 : cFun Tryz.prog Tryz.f133 = some v133 := by kernel_rfl
theorem tm133 : Tryz.f133.name ≠ "runtime.NumGoroutine" := name_ne (by kernel_rfl)
theorem tc134 : cFun Tryz.prog Tryz.f134 = some v134 := by kernel_rfl
theorem tm134 : Tryz.f134.name ≠ "runtime.NumGoroutine" := name_ne (by kernel_rfl)
theorem tc135 : cFun Tryz.prog Tryz.f135 = some v135 := by kernel_rfl
theorem tm135 : Tryz.f135.name ≠ "runtime.NumGoroutine" := name_ne (by kernel_rfl)
theorem tc136 : cFun Tryz.prog Tryz.f136 = some v136 := by kernel_rfl
theorem tm136 : Tryz.f136.name ≠ "runtime.NumGoroutine" := name_ne (by kernel_rfl)
theorem tc142 : cFun Tryz.prog Tryz.f142 = some v142 := by kernel_rfl
theorem tm142 : Tryz.f142.name ≠ "runtime.NumGoroutine" := name_ne (by kernel_rfl)
theorem tc143 : cFun Tryz.prog Tryz.f143 = some v143 := by kernel_rfl
theorem tm143 : Tryz.f143.name ≠ "runtime.NumGoroutine" := name_ne (by kernel_rfl)
theorem tc144 : cFun Tryz.prog Tryz.f144 = some v144 := by kernel_rfl
theorem tm144 : Tryz.f144.name ≠ "runtime.NumGoroutine" := name_ne (by kernel_rfl)
theorem tc145 : cFun Tryz.prog Tryz.f145 = some v145 := by kernel_rfl
theorem tm145 : Tryz.f145.name ≠ "runtime.NumGoroutine" := name_ne (by kernel_rfl)
theorem tc146 : cFun Tryz.prog Tryz.f146 = some v146 := by kernel_rfl
theorem tm146 : Tryz.f146.name ≠ "runtime.NumGoroutine" := name_ne (by kernel_rfl)
theorem tc147 : cFun Tryz.prog Tryz.f147 = some v147 := by kernel_rfl
theorem tm147 : Tryz.f147.name ≠ "runtime.NumGoroutine" := name_ne (by kernel_rfl)
theorem tc148 : cFun Tryz.prog Tryz.f148 = some v148 := by kernel_rfl
theorem tm148 : Tryz.f148.name ≠ "runtime.NumGoroutine" := name_ne (by kernel_rfl)
theorem tc167 : cFun Tryz.prog Tryz.f167 = some v167 := by kernel_rfl
theorem tm167 : Tryz.f167.name ≠ "runtime.NumGoroutine" := name_ne (by kernel_rfl)
theorem tc169 : cFun Tryz.prog Tryz.f169 = some v169 := by kernel_rfl
theorem tm169 : Tryz.f169.name ≠ "runtime.NumGoroutine" := name_ne (by kernel_rfl)
theorem tc170 : cFun Tryz.prog Tryz.f170 = some v170 := by kernel_rfl
theorem tm170 : Tryz.f170.name ≠ "runtime.NumGoroutine" := name_ne (by kernel_rfl)
theorem tc174 : cFun Tryz.prog Tryz.f174 = some v174 := by kernel_rfl
theorem tm174 : Tryz.f174.name ≠ "runtime.NumGoroutine" := name_ne (by kernel_rfl)
theorem tc175 : cFun Tryz.prog Tryz.f175 = some v175 := by kernel_rfl
theorem tm175 : Tryz.f175.name ≠ "runtime.NumGoroutine" := name_ne (by kernel_rfl)
theorem tc176 : cFun Tryz.prog Tryz.f176 = some v176 := by kernel_rfl
theorem tm176 : Tryz.f176.name ≠ "runtime.NumGoroutine" := name_ne (by kernel_rfl)
theorem tc177 : cFun Tryz.prog Tryz.f177 = some v177 := by kernel_rfl
theorem tm177 : Tryz.f177.name ≠ "runtime.NumGoroutine" := name_ne (by kernel_rfl)
theorem tc178 : cFun Tryz.prog Tryz.f178 = some v178 := by kernel_rfl
theorem tm178 : Tryz.f178.name ≠ "runtime.NumGoroutine" := name_ne (by kernel_rfl)
theorem tc183 : cFun Tryz.prog Tryz.f183 = some v183 := by kernel_rfl
theorem tm183 : Tryz.f183.name ≠ "runtime.NumGoroutine" := name_ne (by kernel_rfl)
theorem tc184 : cFun Tryz.prog Tryz.f184 = some v184 := by kernel_rfl
theorem tm184 : Tryz.f184.name ≠ "runtime.NumGoroutine" := name_ne (by kernel_rfl)
theorem tc186 : cFun Tryz.prog Tryz.f186 = some v186 := by kernel_rfl
theorem tm186 : Tryz.f186.name ≠ "runtime.NumGoroutine" := name_ne (by kernel_rfl)
theorem tc187 : cFun Tryz.prog Tryz.f187 = some v187 := by kernel_rfl
theorem tm187 : Tryz.f187.name ≠ "runtime.NumGoroutine" := name_ne (by kernel_rfl)
theorem tc188 : cFun Tryz.prog Tryz.f188 = some v188 := by kernel_rfl
theorem tm188 : Tryz.f188.name ≠ "runtime.NumGoroutine" := name_ne (by kernel_rfl)
theorem tc189 : cFun Tryz.prog Tryz.f189 = some v189 := by kernel_rfl
theorem tm189 : Tryz.f189.name ≠ "runtime.NumGoroutine" := name_ne (by kernel_rfl)
theorem tc190 : cFun Tryz.prog Tryz.f190 = some v190 := by kernel_rfl
theorem tm190 : Tryz.f190.name ≠ "runtime.NumGoroutine" := name_ne (by kernel_rfl)
theorem tc191 : cFun Tryz.prog Tryz.f191 = some v191 := by kernel_rfl
theorem tm191 : Tryz.f191.name ≠ "runtime.NumGoroutine" := name_ne (by kernel_rfl)
theorem tc192 : cFun Tryz.prog Tryz.f192 = some v192 := by kernel_rfl
theorem tm192 : Tryz.f192.name ≠ "runtime.NumGoroutine" := name_ne (by kernel_rfl)
theorem tc193 : cFun Tryz.prog Tryz.f193 = some v193 := by kernel_rfl
theorem tm193 : Tryz.f193.name ≠ "runtime.NumGoroutine" := name_ne (by kernel_rfl)
theorem tc194 : cFun Tryz.prog Tryz.f194 = some v194 := by kernel_rfl
theorem tm194 : Tryz.f194.name ≠ "runtime.NumGoroutine" := name_ne (by kernel_rfl)
theorem tc195 : cFun Tryz.prog Tryz.f195 = some v195 := by kernel_rfl
theorem tm195 : Tryz.f195.name ≠ "runtime.NumGoroutine" := name_ne (by kernel_rfl)
theorem tc196 : cFun Tryz.prog Tryz.f196 = some v196 := by kernel_rfl
theorem tm196 : Tryz.f196.name ≠ "runtime.NumGoroutine" := name_ne (by kernel_rfl)
theorem tc199 : cFun Tryz.prog Tryz.f199 = some v199 := by kernel_rfl
theorem tm199 : Tryz.f199.name ≠ "runtime.NumGoroutine" := name_ne (by kernel_rfl)
theorem tc200 : cFun Tryz.prog Tryz.f200 = some v200 := by kernel_rfl
theorem tm200 : Tryz.f200.name ≠ "runtime.NumGoroutine" := name_ne (by kernel_rfl)
theorem tc201 : cFun Tryz.prog Tryz.f201 = some v201 := by kernel_rfl
theorem tm201 : Tryz.f201.name ≠ "runtime.NumGoroutine" := name_ne (by kernel_rfl)
theorem tc202 : cFun Tryz.prog Tryz.f202 = some v202 := by kernel_rfl
theorem tm202 : Tryz.f202.name ≠ "runtime.NumGoroutine" := name_ne (by kernel_rfl)
theorem tc203 : cFun Tryz.prog Tryz.f203 = some v203 := by kernel_rfl
theorem tm203 : Tryz.f203.name ≠ "runtime.NumGoroutine" := name_ne (by kernel_rfl)
theorem tc205 : cFun Tryz.prog Tryz.f205 = some v205 := by kernel_rfl
theorem tm205 : Tryz.f205.name ≠ "runtime.NumGoroutine" := name_ne (by kernel_rfl)
theorem pg : Pg Tryz.prog tab := by
  refine ⟨by kernel_rfl, table_ok fun p hp => ?_⟩
  simp only [List.mem_cons, List.not_mem_nil, or_false] at hp
  rcases hp with rfl | rfl | rfl | rfl | rfl | rfl | rfl | rfl | rfl | rfl | rfl | rfl | rfl | rfl | rfl | rfl | rfl | rfl | rfl | rfl | rfl | rfl | rfl | rfl | rfl | rfl | rfl | rfl | rfl | rfl | rfl | rfl | rfl | rfl | rfl | rfl | rfl | rfl | rfl | rfl | rfl | rfl | rfl | rfl | rfl | rfl | rfl | rfl | rfl | rfl | rfl | rfl | rfl | rfl | rfl | rfl | rfl | rfl | rfl | rfl | rfl | rfl | rfl | rfl | rfl | rfl | rfl | rfl | rfl | rfl | rfl | rfl | rfl | rfl | rfl | rfl | rfl | rfl | rfl | rfl | rfl | rfl | rfl | rfl | rfl | rfl | rfl | rfl | rfl | rfl | rfl | rfl | rfl | rfl | rfl | rfl | rfl | rfl
  · exact ⟨by decide, _, Tryz.func4, tc4, tm4⟩
  · exact ⟨by decide, _, Tryz.func12, tc12, tm12⟩
  · exact ⟨by decide, _, Tryz.func14, tc14, tm14⟩
  · exact ⟨by decide, _, Tryz.func16, tc16, tm16⟩
  · exact ⟨by decide, _, Tryz.func18, tc18, tm18⟩
  · exact ⟨by decide, _, Tryz.func19, tc19, tm19⟩
  · exact ⟨by decide, _, Tryz.func22, tc22, tm22⟩
  · exact ⟨by decide, _, Tryz.func23, tc23, tm23⟩
  · exact ⟨by decide, _, Tryz.func24, tc24, tm24⟩
  · exact ⟨by decide, _, Tryz.func25, tc25, tm25⟩
  · exact ⟨by decide, _, Tryz.func36, tc36, tm36⟩
  · exact ⟨by decide, _, Tryz.func37, tc37, tm37⟩
  · exact ⟨by decide, _, Tryz.func40, tc40, tm40⟩
  · exact ⟨by decide, _, Tryz.func41, tc41, tm41⟩
  · exact ⟨by decide, _, Tryz.func42, tc42, tm42⟩
  · exact ⟨by decide, _, Tryz.func43, tc43, tm43⟩
  · exact ⟨by decide, _, Tryz.func44, tc44, tm44⟩
  · exact ⟨by decide, _, Tryz.func45, tc45, tm45⟩
  · exact ⟨by decide, _, Tryz.func47, tc47, tm47⟩
  · exact ⟨by decide, _, Tryz.func52, tc52, tm52⟩
  · exact ⟨by decide, _, Tryz.func53, tc53, tm53⟩
  · exact ⟨by decide, _, Tryz.func55, tc55, tm55⟩
  · exact ⟨by decide, _, Tryz.func56, tc56, tm56⟩
  · exact ⟨by decide, _, Tryz.func59, tc59, tm59⟩
  · exact ⟨by decide, _, Tryz.func60, tc60, tm60⟩
  · exact ⟨by decide, _, Tryz.func61, tc61, tm61⟩
  · exact ⟨by decide, _, Tryz.func62, tc62, tm62⟩
  · exact ⟨by decide, _, Tryz.func72, tc72, tm72⟩
  · exact ⟨by decide, _, Tryz.func73, tc73, tm73⟩
  · exact ⟨by decide, _, Tryz.func74, tc74, tm74⟩
  · exact ⟨by decide, _, Tryz.func75, tc75, tm75⟩
  · exact ⟨by decide, _, Tryz.func76, tc76, tm76⟩
  · exact ⟨by decide, _, Tryz.func79, tc79, tm79⟩
  · exact ⟨by decide, _, Tryz.func80, tc80, tm80⟩
  · exact ⟨by decide, _, Tryz.func83, tc83, tm83⟩
  · exact ⟨by decide, _, Tryz.func84, tc84, tm84⟩
  · exact ⟨by decide, _, Tryz.func85, tc85, tm85⟩
  · exact ⟨by decide, _, Tryz.func86, tc86, tm86⟩
  · exact ⟨by decide, _, Tryz.func87, tc87, tm87⟩
  · exact ⟨by decide, _, Tryz.func88, tc88, tm88⟩
  · exact ⟨by decide, _, Tryz.func89, tc89, tm89⟩
  · exact ⟨by decide, _, Tryz.func90, tc90, tm90⟩
  · exact ⟨by decide, _, Tryz.func91, tc91, tm91⟩
  · exact ⟨by decide, _, Tryz.func93, tc93, tm93⟩
  · exact ⟨by decide, _, Tryz.func94, tc94, tm94⟩
  · exact ⟨by decide, _, Tryz.func95, tc95, tm95⟩
  · exact ⟨by decide, _, Tryz.func98, tc98, tm98⟩
  · exact ⟨by decide, _, Tryz.func99, tc99, tm99⟩
  · exact ⟨by decide, _, Tryz.func100, tc100, tm100⟩
  · exact ⟨by decide, _, Tryz.func101, tc101, tm101⟩
  · exact ⟨by decide, _, Tryz.func119, tc119, tm119⟩
  · exact ⟨by decide, _, Tryz.func120, tc120, tm120⟩
  · exact ⟨by decide, _, Tryz.func121, tc121, tm121⟩
  · exact ⟨by decide, _, Tryz.func122, tc122, tm122⟩
  · exact ⟨by decide, _, Tryz.func123, tc123, tm123⟩
  · exact ⟨by decide, _, Tryz.func124, tc124, tm124⟩
  · exact ⟨by decide, _, Tryz.func125, tc125, tm125⟩
  · exact ⟨by decide, _, Tryz.func127, tc127, tm127⟩
  · exact ⟨by decide, _, Tryz.func131, tc131, tm131⟩
  · exact ⟨by decide, _, Tryz.func132, tc132, tm132⟩
  · exact ⟨by decide, _, Tryz.func133, tc133, tm133⟩
  · exact ⟨by decide, _, Tryz.func134, tc134, tm134⟩
  · exact ⟨by decide, _, Tryz.func135, tc135, tm135⟩
  · exact ⟨by decide, _, Tryz.func136, tc136, tm136⟩
  · exact ⟨by decide, _, Tryz.func142, tc142, tm142⟩
  · exact ⟨by decide, _, Tryz.func143, tc143, tm143⟩
  · exact ⟨by decide, _, Tryz.func144, tc144, tm144⟩
  · exact ⟨by decide, _, Tryz.func145, tc145, tm145⟩
  · exact ⟨by decide, _, Tryz.func146, tc146, tm146⟩
  · exact ⟨by decide, _, Tryz.func147, tc147, tm147⟩
  · exact ⟨by decide, _, Tryz.func148, tc148, tm148⟩
  · exact ⟨by decide, _, Tryz.func167, tc167, tm167⟩
  · exact ⟨by decide, _, Tryz.func169, tc169, tm169⟩
  · exact ⟨by decide, _, Tryz.func170, tc170, tm170⟩
  · exact ⟨by decide, _, Tryz.func174, tc174, tm174⟩
  · exact ⟨by decide, _, Tryz.func175, tc175, tm175⟩
  · exact ⟨by decide, _, Tryz.func176, tc176, tm176⟩
  · exact ⟨by decide, _, Tryz.func177, tc177, tm177⟩
  · exact ⟨by decide, _, Tryz.func178, tc178, tm178⟩
  · exact ⟨by decide, _, Tryz.func183, tc183, tm183⟩
  · exact ⟨by decide, _, Tryz.func184, tc184, tm184⟩
  · exact ⟨by decide, _, Tryz.func186, tc186, tm186⟩
  · exact ⟨by decide, _, Tryz.func187, tc187, tm187⟩
  · exact ⟨by decide, _, Tryz.func188, tc188, tm188⟩
  · exact ⟨by decide, _, Tryz.func189, tc189, tm189⟩
  · exact ⟨by decide, _, Tryz.func190, tc190, tm190⟩
  · exact ⟨by decide, _, Tryz.func191, tc191, tm191⟩
  · exact ⟨by decide, _, Tryz.func192, tc192, tm192⟩
  · exact ⟨by decide, _, Tryz.func193, tc193, tm193⟩
  · exact ⟨by decide, _, Tryz.func194, tc194, tm194⟩
  · exact ⟨by decide, _, Tryz.func195, tc195, tm195⟩
  · exact ⟨by decide, _, Tryz.func196, tc196, tm196⟩
  · exact ⟨by decide, _, Tryz.func199, tc199, tm199⟩
  · exact ⟨by decide, _, Tryz.func200, tc200, tm200⟩
  · exact ⟨by decide, _, Tryz.func201, tc201, tm201⟩
  · exact ⟨by decide, _, Tryz.func202, tc202, tm202⟩
  · exact ⟨by decide, _, Tryz.func203, tc203, tm203⟩
  · exact ⟨by decide, _, Tryz.func205, tc205, tm205⟩
end Go.Proofs.YtpfpngmfooagiaaGreat.VM
