/- The compiled functions are the program's: shown by the kernel, one by one. -/
import Derived.Test.YtinonmcnofjeeaaL11Lit
import Derived.Test.YtinonmcnofjeeaaPuRow
import Derived.Test.YtinonmcnofjeeaaChecked
namespace Go.Proofs.Ytinonmcnofjeeaa.VM
set_option linter.unusedSimpArgs false
set_option linter.unusedVariables false
set_option linter.defProp false
set_option maxHeartbeats 1000000
theorem c3 : cFun Try.prog Try.f3 = some v3 := by kernel_rfl
theorem m3 : Try.f3.name ≠ "runtime.NumGoroutine" := name_ne (by kernel_rfl)
theorem c13 : cFun Try.prog Try.f13 = some v13 := by kernel_rfl
theorem m13 : Try.f13.name ≠ "runtime.NumGoroutine" := name_ne (by kernel_rfl)
theorem c14 : cFun Try.prog Try.f14 = some v14 := by kernel_rfl
theorem m14 : Try.f14.name ≠ "runtime.NumGoroutine" := name_ne (by kernel_rfl)
theorem c15 : cFun Try.prog Try.f15 = some v15 := by kernel_rfl
theorem m15 : Try.f15.name ≠ "runtime.NumGoroutine" := name_ne (by kernel_rfl)
theorem c16 : cFun Try.prog Try.f16 = some v16 := by kernel_rfl
theorem m16 : Try.f16.name ≠ "runtime.NumGoroutine" := name_ne (by kernel_rfl)
theorem c17 : cFun Try.prog Try.f17 = some v17 := by kernel_rfl
theorem m17 : Try.f17.name ≠ "runtime.NumGoroutine" := name_ne (by kernel_rfl)
theorem c18 : cFun Try.prog Try.f18 = some v18 := by kernel_rfl
theorem m18 : Try.f18.name ≠ "runtime.NumGoroutine" := name_ne (by kernel_rfl)
theorem c19 : cFun Try.prog Try.f19 = some v19 := by kernel_rfl
theorem m19 : Try.f19.name ≠ "runtime.NumGoroutine" := name_ne (by kernel_rfl)
theorem c20 : cFun Try.prog Try.f20 = some v20 := by kernel_rfl
theorem m20 : Try.f20.name ≠ "runtime.NumGoroutine" := name_ne (by kernel_rfl)
theorem c21 : cFun Try.prog Try.f21 = some v21 := by kernel_rfl
theorem m21 : Try.f21.name ≠ "runtime.NumGoroutine" := name_ne (by kernel_rfl)
theorem c22 : cFun Try.prog Try.f22 = some v22 := by kernel_rfl
theorem m22 : Try.f22.name ≠ "runtime.NumGoroutine" := name_ne (by kernel_rfl)
theorem c23 : cFun Try.prog Try.f23 = some v23 := by kernel_rfl
theorem m23 : Try.f23.name ≠ "runtime.NumGoroutine" := name_ne (by kernel_rfl)
theorem c44 : cFun Try.prog Try.f44 = some v44 := by kernel_rfl
theorem m44 : Try.f44.name ≠ "runtime.NumGoroutine" := name_ne (by kernel_rfl)
theorem c45 : cFun Try.prog Try.f45 = some v45 := by kernel_rfl
theorem m45 : Try.f45.name ≠ "runtime.NumGoroutine" := name_ne (by kernel_rfl)
theorem c46 : cFun Try.prog Try.f46 = some v46 := by kernel_rfl
theorem m46 : Try.f46.name ≠ "runtime.NumGoroutine" := name_ne (by kernel_rfl)
theorem c47 : cFun Try.prog Try.f47 = some v47 := by kernel_rfl
theorem m47 : Try.f47.name ≠ "runtime.NumGoroutine" := name_ne (by kernel_rfl)
theorem c48 : cFun Try.prog Try.f48 = some v48 := by kernel_rfl
theorem m48 : Try.f48.name ≠ "runtime.NumGoroutine" := name_ne (by kernel_rfl)
theorem c49 : cFun Try.prog Try.f49 = some v49 := by kernel_rfl
theorem m49 : Try.f49.name ≠ "runtime.NumGoroutine" := name_ne (by kernel_rfl)
theorem c50 : cFun Try.prog Try.f50 = some v50 := by kernel_rfl
theorem m50 : Try.f50.name ≠ "runtime.NumGoroutine" := name_ne (by kernel_rfl)
theorem c51 : cFun Try.prog Try.f51 = some v51 := by kernel_rfl
theorem m51 : Try.f51.name ≠ "runtime.NumGoroutine" := name_ne (by kernel_rfl)
theorem c52 : cFun Try.prog Try.f52 = some v52 := by kernel_rfl
theorem m52 : Try.f52.name ≠ "runtime.NumGoroutine" := name_ne (by kernel_rfl)
theorem c53 : cFun Try.prog Try.f53 = some v53 := by kernel_rfl
theorem m53 : Try.f53.name ≠ "runtime.NumGoroutine" := name_ne (by kernel_rfl)
theorem c54 : cFun Try.prog Try.f54 = some v54 := by kernel_rfl
theorem m54 : Try.f54.name ≠ "runtime.NumGoroutine" := name_ne (by kernel_rfl)
theorem c55 : cFun Try.prog Try.f55 = some v55 := by kernel_rfl
theorem m55 : Try.f55.name ≠ "runtime.NumGoroutine" := name_ne (by kernel_rfl)
theorem c56 : cFun Try.prog Try.f56 = some v56 := by kernel_rfl
theorem m56 : Try.f56.name ≠ "runtime.NumGoroutine" := name_ne (by kernel_rfl)
theorem c57 : cFun Try.prog Try.f57 = some v57 := by kernel_rfl
theorem m57 : Try.f57.name ≠ "runtime.NumGoroutine" := name_ne (by kernel_rfl)
theorem c58 : cFun Try.prog Try.f58 = some v58 := by kernel_rfl
theorem m58 : Try.f58.name ≠ "runtime.NumGoroutine" := name_ne (by kernel_rfl)
theorem c59 : cFun Try.prog Try.f59 = some v59 := by kernel_rfl
theorem m59 : Try.f59.name ≠ "runtime.NumGoroutine" := name_ne (by kernel_rfl)
theorem c60 : cFun Try.prog Try.f60 = some v60 := by kernel_rfl
theorem m60 : Try.f60.name ≠ "runtime.NumGoroutine" := name_ne (by kernel_rfl)
theorem c61 : cFun Try.prog Try.f61 = some v61 := by kernel_rfl
theorem m61 : Try.f61.name ≠ "runtime.NumGoroutine" := name_ne (by kernel_rfl)
theorem c62 : cFun Try.prog Try.f62 = some v62 := by kernel_rfl
theorem m62 : Try.f62.name ≠ "runtime.NumGoroutine" := name_ne (by kernel_rfl)
theorem c63 : cFun Try.prog Try.f63 = some v63 := by kernel_rfl
theorem m63 : Try.f63.name ≠ "runtime.NumGoroutine" := name_ne (by kernel_rfl)
theorem c64 : cFun Try.prog Try.f64 = some v64 := by kernel_rfl
theorem m64 : Try.f64.name ≠ "runtime.NumGoroutine" := name_ne (by kernel_rfl)
theorem c65 : cFun Try.prog Try.f65 = some v65 := by kernel_rfl
theorem m65 : Try.f65.name ≠ "runtime.NumGoroutine" := name_ne (by kernel_rfl)
theorem c66 : cFun Try.prog Try.f66 = some v66 := by kernel_rfl
theorem m66 : Try.f66.name ≠ "runtime.NumGoroutine" := name_ne (by kernel_rfl)
theorem c67 : cFun Try.prog Try.f67 = some v67 := by kernel_rfl
theorem m67 : Try.f67.name ≠ "runtime.NumGoroutine" := name_ne (by kernel_rfl)
theorem c68 : cFun Try.prog Try.f68 = some v68 := by kernel_rfl
theorem m68 : Try.f68.name ≠ "runtime.NumGoroutine" := name_ne (by kernel_rfl)
theorem c69 : cFun Try.prog Try.f69 = some v69 := by kernel_rfl
theorem m69 : Try.f69.name ≠ "runtime.NumGoroutine" := name_ne (by kernel_rfl)
theorem c70 : cFun Try.prog Try.f70 = some v70 := by kernel_rfl
theorem m70 : Try.f70.name ≠ "runtime.NumGoroutine" := name_ne (by kernel_rfl)
theorem c73 : cFun Try.prog Try.f73 = some v73 := by kernel_rfl
theorem m73 : Try.f73.name ≠ "runtime.NumGoroutine" := name_ne (by kernel_rfl)
theorem c76 : cFun Try.prog Try.f76 = some v76 := by kernel_rfl
theorem m76 : Try.f76.name ≠ "runtime.NumGoroutine" := name_ne (by kernel_rfl)
theorem c80 : cFun Try.prog Try.f80 = some v80 := by kernel_rfl
theorem m80 : Try.f80.name ≠ "runtime.NumGoroutine" := name_ne (by kernel_rfl)
theorem c84 : cFun Try.prog Try.f84 = some v84 := by kernel_rfl
theorem m84 : Try.f84.name ≠ "runtime.NumGoroutine" := name_ne (by kernel_rfl)
theorem c85 : cFun Try.prog Try.f85 = some v85 := by kernel_rfl
theorem m85 : Try.f85.name ≠ "runtime.NumGoroutine" := name_ne (by kernel_rfl)
theorem c86 : cFun Try.prog Try.f86 = some v86 := by kernel_rfl
theorem m86 : Try.f86.name ≠ "runtime.NumGoroutine" := name_ne (by kernel_rfl)
theorem c87 : cFun Try.prog Try.f87 = some v87 := by kernel_rfl
theorem m87 : Try.f87.name ≠ "runtime.NumGoroutine" := name_ne (by kernel_rfl)
theorem c88 : cFun Try.prog Try.f88 = some v88 := by kernel_rfl
theorem m88 : Try.f88.name ≠ "runtime.NumGoroutine" := name_ne (by kernel_rfl)
theorem c89 : cFun Try.prog Try.f89 = some v89 := by kernel_rfl
theorem m89 : Try.f89.name ≠ "runtime.NumGoroutine" := name_ne (by kernel_rfl)
theorem c90 : cFun Try.prog Try.f90 = some v90 := by kernel_rfl
theorem m90 : Try.f90.name ≠ "runtime.NumGoroutine" := name_ne (by kernel_rfl)
theorem c91 : cFun Try.prog Try.f91 = some v91 := by kernel_rfl
theorem m91 : Try.f91.name ≠ "runtime.NumGoroutine" := name_ne (by kernel_rfl)
theorem c92 : cFun Try.prog Try.f92 = some v92 := by kernel_rfl
theorem m92 : Try.f92.name ≠ "runtime.NumGoroutine" := name_ne (by kernel_rfl)
theorem c93 : cFun Try.prog Try.f93 = some v93 := by kernel_rfl
theorem m93 : Try.f93.name ≠ "runtime.NumGoroutine" := name_ne (by kernel_rfl)
theorem c94 : cFun Try.prog Try.f94 = some v94 := by kernel_rfl
theorem m94 : Try.f94.name ≠ "runtime.NumGoroutine" := name_ne (by kernel_rfl)
theorem c95 : cFun Try.prog Try.f95 = some v95 := by kernel_rfl
theorem m95 : Try.f95.name ≠ "runtime.NumGoroutine" := name_ne (by kernel_rfl)
theorem c96 : cFun Try.prog Try.f96 = some v96 := by kernel_rfl
theorem m96 : Try.f96.name ≠ "runtime.NumGoroutine" := name_ne (by kernel_rfl)
theorem c97 : cFun Try.prog Try.f97 = some v97 := by kernel_rfl
theorem m97 : Try.f97.name ≠ "runtime.NumGoroutine" := name_ne (by kernel_rfl)
theorem c107 : cFun Try.prog Try.f107 = some v107 := by kernel_rfl
theorem m107 : Try.f107.name ≠ "runtime.NumGoroutine" := name_ne (by kernel_rfl)
theorem c108 : cFun Try.prog Try.f108 = some v108 := by kernel_rfl
theorem m108 : Try.f108.name ≠ "runtime.NumGoroutine" := name_ne (by kernel_rfl)
theorem c109 : cFun Try.prog Try.f109 = some v109 := by kernel_rfl
theorem m109 : Try.f109.name ≠ "runtime.NumGoroutine" := name_ne (by kernel_rfl)
theorem c110 : cFun Try.prog Try.f110 = some v110 := by kernel_rfl
theorem m110 : Try.f110.name ≠ "runtime.NumGoroutine" := name_ne (by kernel_rfl)
theorem c114 : cFun Try.prog Try.f114 = some v114 := by kernel_rfl
theorem m114 : Try.f114.name ≠ "runtime.NumGoroutine" := name_ne (by kernel_rfl)
theorem c115 : cFun Try.prog Try.f115 = some v115 := by kernel_rfl
theorem m115 : Try.f115.name ≠ "runtime.NumGoroutine" := name_ne (by kernel_rfl)
theorem c119 : cFun Try.prog Try.f119 = some v119 := by kernel_rfl
theorem m119 : Try.f119.name ≠ "runtime.NumGoroutine" := name_ne (by kernel_rfl)
theorem c120 : cFun Try.prog Try.f120 = some v120 := by kernel_rfl
theorem m120 : Try.f120.name ≠ "runtime.NumGoroutine" := name_ne (by kernel_rfl)
theorem c121 : cFun Try.prog Try.f121 = some v121 := by kernel_rfl
theorem m121 : Try.f121.name ≠ "runtime.NumGoroutine" := name_ne (by kernel_rfl)
theorem c122 : cFun Try.prog Try.f122 = some v122 := by kernel_rfl
theorem m122 : Try.f122.name ≠ "runtime.NumGoroutine" := name_ne (by kernel_rfl)
theorem c123 : cFun Try.prog Try.f123 = some v123 := by kernel_rfl
theorem m123 : Try.f123.name ≠ "runtime.NumGoroutine" := name_ne (by kernel_rfl)
theorem c126 : cFun Try.prog Try.f126 = some v126 := by kernel_rfl
theorem m126 : Try.f126.name ≠ "runtime.NumGoroutine" := name_ne (by kernel_rfl)
theorem c127 : cFun Try.prog Try.f127 = some v127 := by kernel_rfl
theorem m127 : Try.f127.name ≠ "runtime.NumGoroutine" := name_ne (by kernel_rfl)
theorem c128 : cFun Try.prog Try.f128 = some v128 := by kernel_rfl
theorem m128 : Try.f128.name ≠ "runtime.NumGoroutine" := name_ne (by kernel_rfl)
theorem c129 : cFun Try.prog Try.f129 = some v129 := by kernel_rfl
theorem m129 : Try.f129.name ≠ "runtime.NumGoroutine" := name_ne (by kernel_rfl)
theorem c130 : cFun Try.prog Try.f130 = some v130 := by kernel_rfl
theorem m130 : Try.f130.name ≠ "runtime.NumGoroutine" := name_ne (by kernel_rfl)
theorem pg : Pg Try.prog tab := by
  refine ⟨by kernel_rfl, table_ok fun p hp => ?_⟩
  simp only [List.mem_cons, List.not_mem_nil, or_false] at hp
  rcases hp with rfl | rfl | rfl | rfl | rfl | rfl | rfl | rfl | rfl | rfl | rfl | rfl | rfl | rfl | rfl | rfl | rfl | rfl | rfl | rfl | rfl | rfl | rfl | rfl | rfl | rfl | rfl | rfl | rfl | rfl | rfl | rfl | rfl | rfl | rfl | rfl | rfl | rfl | rfl | rfl | rfl | rfl | rfl | rfl | rfl | rfl | rfl | rfl | rfl | rfl | rfl | rfl | rfl | rfl | rfl | rfl | rfl | rfl | rfl | rfl | rfl | rfl | rfl | rfl | rfl | rfl | rfl | rfl | rfl | rfl | rfl | rfl
  · exact ⟨_, Try.func3, c3, m3⟩
  · exact ⟨_, Try.func13, c13, m13⟩
  · exact ⟨_, Try.func14, c14, m14⟩
  · exact ⟨_, Try.func15, c15, m15⟩
  · exact ⟨_, Try.func16, c16, m16⟩
  · exact ⟨_, Try.func17, c17, m17⟩
  · exact ⟨_, Try.func18, c18, m18⟩
  · exact ⟨_, Try.func19, c19, m19⟩
  · exact ⟨_, Try.func20, c20, m20⟩
  · exact ⟨_, Try.func21, c21, m21⟩
  · exact ⟨_, Try.func22, c22, m22⟩
  · exact ⟨_, Try.func23, c23, m23⟩
  · exact ⟨_, Try.func44, c44, m44⟩
  · exact ⟨_, Try.func45, c45, m45⟩
  · exact ⟨_, Try.func46, c46, m46⟩
  · exact ⟨_, Try.func47, c47, m47⟩
  · exact ⟨_, Try.func48, c48, m48⟩
  · exact ⟨_, Try.func49, c49, m49⟩
  · exact ⟨_, Try.func50, c50, m50⟩
  · exact ⟨_, Try.func51, c51, m51⟩
  · exact ⟨_, Try.func52, c52, m52⟩
  · exact ⟨_, Try.func53, c53, m53⟩
  · exact ⟨_, Try.func54, c54, m54⟩
  · exact ⟨_, Try.func55, c55, m55⟩
  · exact ⟨_, Try.func56, c56, m56⟩
  · exact ⟨_, Try.func57, c57, m57⟩
  · exact ⟨_, Try.func58, c58, m58⟩
  · exact ⟨_, Try.func59, c59, m59⟩
  · exact ⟨_, Try.func60, c60, m60⟩
  · exact ⟨_, Try.func61, c61, m61⟩
  · exact ⟨_, Try.func62, c62, m62⟩
  · exact ⟨_, Try.func63, c63, m63⟩
  · exact ⟨_, Try.func64, c64, m64⟩
  · exact ⟨_, Try.func65, c65, m65⟩
  · exact ⟨_, Try.func66, c66, m66⟩
  · exact ⟨_, Try.func67, c67, m67⟩
  · exact ⟨_, Try.func68, c68, m68⟩
  · exact ⟨_, Try.func69, c69, m69⟩
  · exact ⟨_, Try.func70, c70, m70⟩
  · exact ⟨_, Try.func73, c73, m73⟩
  · exact ⟨_, Try.func76, c76, m76⟩
  · exact ⟨_, Try.func80, c80, m80⟩
  · exact ⟨_, Try.func84, c84, m84⟩
  · exact ⟨_, Try.func85, c85, m85⟩
  · exact ⟨_, Try.func86, c86, m86⟩
  · exact ⟨_, Try.func87, c87, m87⟩
  · exact ⟨_, Try.func88, c88, m88⟩
  · exact ⟨_, Try.func89, c89, m89⟩
  · exact ⟨_, Try.func90, c90, m90⟩
  · exact ⟨_, Try.func91, c91, m91⟩
  · exact ⟨_, Try.func92, c92, m92⟩
  · exact ⟨_, Try.func93, c93, m93⟩
  · exact ⟨_, Try.func94, c94, m94⟩
  · exact ⟨_, Try.func95, c95, m95⟩
  · exact ⟨_, Try.func96, c96, m96⟩
  · exact ⟨_, Try.func97, c97, m97⟩
  · exact ⟨_, Try.func107, c107, m107⟩
  · exact ⟨_, Try.func108, c108, m108⟩
  · exact ⟨_, Try.func109, c109, m109⟩
  · exact ⟨_, Try.func110, c110, m110⟩
  · exact ⟨_, Try.func114, c114, m114⟩
  · exact ⟨_, Try.func115, c115, m115⟩
  · exact ⟨_, Try.func119, c119, m119⟩
  · exact ⟨_, Try.func120, c120, m120⟩
  · exact ⟨_, Try.func121, c121, m121⟩
  · exact ⟨_, Try.func122, c122, m122⟩
  · exact ⟨_, Try.func123, c123, m123⟩
  · exact ⟨_, Try.func126, c126, m126⟩
  · exact ⟨_, Try.func127, c127, m127⟩
  · exact ⟨_, Try.func128, c128, m128⟩
  · exact ⟨_, Try.func129, c129, m129⟩
  · exact ⟨_, Try.func130, c130, m130⟩
end Go.Proofs.Ytinonmcnofjeeaa.VM
