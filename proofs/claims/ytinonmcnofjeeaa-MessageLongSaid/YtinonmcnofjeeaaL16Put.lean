/- What is no message is written as nothing. Small data. -/
import Derived.Test.YtinonmcnofjeeaaL16May
import Derived.Test.YtinonmcnofjeeaaL11Data
import Derived.KernelRfl
namespace Go.Proofs.Ytinonmcnofjeeaa.VM
set_option linter.unusedSimpArgs false
set_option linter.unusedVariables false
set_option linter.defProp false
set_option maxHeartbeats 1000000
attribute [local irreducible] Af Nx EvO Ev Un Gd Cd EvR EvQ EvC Nc Gc Lp EvM NxM AfM GdM EvMR EvMQ EvMD EvMC Nm Gm
section
variable {P : Program} {m : Ms} {a u : AV}
theorem awake16_pu (g : Pg P tab) : Pu P 31 [] (fun v => v = .bool true) := g.run (n := 400) (by kernel_rfl)
theorem msgPut_bad (g : Pg P tab) (ha : IsL 112 ROp a m.ops) (hu : IsL 40 RFeat u m.fs) (hn : ¬ msOk m) : Pu P 25 [.agg (msC m a u)] (fun v => v = .tup [.str [], .int .i64 1600]) := by
  refine g.pu (vf := v25) rfl rfl ?_
  have hm := may_pu g ha hu (t := []) rfl
  rw [List.append_nil] at hm
  have ht := tolds_ms ha hu
  generalize msC m a u = c at hm ht
  simp only [v25, R0, R1, R2, R3, R4, R5, R6, R7, R8, R9, VOp.fresh, bxC, bsC, AV.cells, un, most, callsOf, List.contains_nil, List.contains_cons, beq_iff_eq, List.getElem?_cons_zero, List.getElem?_cons_succ, seval, Option.map_none, Int.reducePow, ↓reduceIte, Nat.reduceEqDiff, reduceCtorEq, and_self]
  have hf : Fzs true (({ next := 0, t := T.e } : Heap).mk' 0 (.cells c 63 0)) [.ptr 0 0] [.rp c] := .cons (.ptr (by rw [Heap.get_mk, if_pos rfl]) (Fzs.refl ht)) .nil
  refine hm.cl hf ?_
  rintro x ⟨b, rfl, hb⟩
  cases b
  · rw [rowV]
    simp only [RW, R0, R1, R2, R3, R4, R5, R6, R7, R8, R9, VOp.fresh, bxC, bsC, AV.cells, un, most, callsOf, List.contains_nil, List.contains_cons, beq_iff_eq, List.getElem?_cons_zero, List.getElem?_cons_succ, seval, Option.map_none, Int.reducePow, ↓reduceIte, Nat.reduceEqDiff, reduceCtorEq, and_self]
  · exact absurd (hb.1 rfl) hn
theorem one_is : IsL 112 ROp (.rs [.int .i64 1, .int .i64 0, .int .i64 0, .nils, .int .i64 1, .int .i64 0, .nils, .nils] 1) [⟨1, ⟨0, 0, []⟩, 1, m0⟩] :=
  isL_rs (R := ROp) (l := [⟨1, ⟨0, 0, []⟩, 1, m0⟩]) (.cons (delOp i1) .nil) (show 1 * 112 ≤ reachBytes by decide)
abbrev featC1 : AV := .rs [.int .i64 5, .int .i64 0, ring5] 1
abbrev featC2 : AV := .rs [.int .i64 5, .int .i64 0, ring5, .int .i64 5, .int .i64 0, ring5] 2
theorem f5_is : RFeat f5 [.int .i64 5, .int .i64 0, ring5] := ⟨_, rfl, i5, i0, ring5_is⟩
theorem feat1_is : IsL 40 RFeat featC1 [f5] := isL_rs (R := RFeat) (l := [f5]) (.cons f5_is .nil) (show 1 * 40 ≤ reachBytes by decide)
theorem feat2_is : IsL 40 RFeat featC2 [f5, f5] := isL_rs (R := RFeat) (l := [f5, f5]) (.cons f5_is (.cons f5_is .nil)) (show 2 * 40 ≤ reachBytes by decide)
abbrev repC (n : Nat) : List AV := (List.replicate n [.int .i64 0, .int .i64 0, .nils]).flatten
theorem repF_is (n : Nat) (h : n ≤ 1000) : IsL 40 RFeat (.rs (repC n) n) (List.replicate n feat0) := by
  have hc : ∀ n, Cat RFeat (List.replicate n feat0) (repC n) := by
    intro n
    induction n with
    | zero => exact .nil
    | succ n ih =>
      rw [repC, List.replicate_succ, List.replicate_succ, List.flatten_cons]
      exact .cons (show RFeat feat0 [.int .i64 0, .int .i64 0, .nils] from ⟨_, rfl, i0, i0, isL_nil _ _⟩) ih
  have e : reachBytes = 140737488351232 := rfl
  have := isL_rs (hc n) (b := 40) (by rw [List.length_replicate, e]; omega)
  rwa [List.length_replicate] at this
theorem repF_told (n : Nat) : AV.tolds (repC n) = true := by
  induction n with
  | zero => rfl
  | succ n ih => rw [repC, List.replicate_succ, List.flatten_cons, Cat.told.tolds_append, ih]; rfl
theorem repF_len (n : Nat) : (repC n).length = n * 3 := by
  induction n with
  | zero => rfl
  | succ n ih => rw [repC, List.replicate_succ, List.flatten_cons, List.length_append, ih]; simp; omega
theorem manyF {n b : Nat} (h0 : 0 < n) {h : Heap} {e : TypeId} {ver : Nat} (hg : h.get b = some (.cells (repC n) e ver)) {k t q : Int} :
    Fz true h (.agg [.int .i64 k, .int .i64 0, .int .i64 0, .int .i64 0, .int .i64 t, .int .i64 0, .bool false, .int .i64 q, .int .i64 0, .bool false, .int .i64 0, .int .i64 0, .int .i64 0, .int .i64 0, .nils, .sl b 0 n n 3])
      (.agg [.int .i64 k, .int .i64 0, .int .i64 0, .int .i64 0, .int .i64 t, .int .i64 0, .bool false, .int .i64 q, .int .i64 0, .bool false, .int .i64 0, .int .i64 0, .int .i64 0, .int .i64 0, .nils, .rs (repC n) n]) := by
  refine .agg (.cons (.int _ _) (.cons (.int _ _) (.cons (.int _ _) (.cons (.int _ _) (.cons (.int _ _) (.cons (.int _ _) (.cons (.bool _) (.cons (.int _ _) (.cons (.int _ _) (.cons (.bool _) (.cons (.int _ _) (.cons (.int _ _) (.cons (.int _ _) (.cons (.int _ _) (.cons .nils (.cons ?_ .nil))))))))))))))))
  refine .sl h0 hg (cs := repC n) ?_ (Fzs.refl (repF_told n))
  have e := repF_len n
  rw [cut_eq, List.drop_zero, ← e, List.take_length, if_pos rfl]
end
end Go.Proofs.Ytinonmcnofjeeaa.VM
