/- ModelRules: whatever the features and the operations the law answers true; the arguments read afterwards as before. No condition. -/
import Derived.Test.YtpfpngmfooagiaaMLe
import Derived.Test.YtpfpngmfooagiaaMLTab
import Derived.Test.YtpfpngmfooagiaaMLInsF
import Derived.Lib.SmallJoins
namespace Go.Proofs.Ytpfpngmfooagiaa.modelRules
set_option linter.unusedSimpArgs false
set_option linter.unusedVariables false
set_option linter.defProp false
set_option maxHeartbeats 1000000
open Go.ChangeShapes Go.WideShapes Go.ChangeAt Go.RowKit Go.Joins
theorem own : ownKnob Try.prog.godebug = none := by kernel_rfl
set_option maxRecDepth 100000 in
theorem lifted (os : Os) (started : os.Started) (H : Type) (enc : TypeId × Value → H) :
    ReturnsInHanded {} Try.checked os 3 .any (Rows.modelRulesSpec.pre6 enc Try.prog Try.f3 Rows.modelRulesRow.domain false) (Rows.modelRulesSpec.post enc Try.prog Try.f3 false true false false) := by
  refine LawRow.lifted (C := Try.checked) own started (by kernel_rfl) Try.func3
    (ChangeSpec.witness6 (enc := enc) (C := Try.checked) false ⟨#[], #[.slice none 0 0, .slice none 0 0], []⟩ 8 (by kernel_rfl) (by kernel_rfl) (by kernel_rfl) (by kernel_rfl))
    rfl (by kernel_rfl) (by kernel_rfl) (by kernel_rfl) Try.underlying4 ?_ ?_
  · intro ds hl
    rw [Try.params3] at hl
    match ds, hl with
    | [_, _], _ => rfl
  · intro W base args ds p hval hA hw
    rw [Try.params3] at hA hval hw
    obtain ⟨v0, vs0, d0, ds0, p0, q0, hargs, rfl, rfl, h0, r0⟩ := trodAll_cons hA
    obtain ⟨v1, vs1, d1, ds1, p1, q1, rfl, rfl, rfl, h1, r1⟩ := trodAll_cons r0
    obtain ⟨rfl, rfl, rfl⟩ := trodAll_nil r1
    obtain rfl : args = #[v0, v1] := by cases args; simp_all
    simp only [DataW.weightsEach, List.all_append, Bool.and_eq_true] at hw
    obtain ⟨avs0, hv0, hws0⟩ := VM.open_arg (n := 12) (shs := [.sl 40 VM.shFeat]) (by kernel_rfl) h0 (hw.1)
    obtain ⟨w0, l0, rfl, hw0⟩  := VM.wFs hws0
    obtain ⟨avs1, hv1, hws1⟩ := VM.open_arg (n := 12) (shs := [.sl 112 VM.shOp]) (by kernel_rfl) h1 (hw.2.1)
    obtain ⟨w1, l1, rfl, hw1⟩  := VM.wOps hws1
    exact (VM.modelRules_pu VM.pg VM.insF hw0 hw1).calls (.cons (VM.open_one Try.underlying22 (hval 0 22 v0 rfl rfl) hv0) (.cons (VM.open_one Try.underlying23 (hval 1 23 v1 rfl rfl) hv1) .nil))
theorem over : Rows.modelRulesRow.holds Try.pinned (OpenSpec.ofChange Rows.modelRulesSpec) :=
  OpenClaim.holds_of_wide 3 Try.f3 rfl rfl rfl rfl rfl rfl rfl ⟨rfl, rfl, rfl, rfl, rfl⟩ rfl rfl rfl rfl rfl (by kernel_rfl) Try.func3 (by kernel_rfl)
    (of_decide_eq_true (by kernel_rfl)) (by unfold Func.isWrapper; first | (rw [if_pos (by decide +kernel)]; kernel_rfl) | (rw [if_neg (by decide +kernel)]; exact ⟨rfl, rfl⟩))
    (fun os started H enc _ => lifted os started H enc)
end Go.Proofs.Ytpfpngmfooagiaa.modelRules
namespace Go.Proofs.Ytpfpngmfooagiaa
theorem modelRules_holds : Rows.ModelRulesSaid := modelRules.over
#print axioms modelRules_holds
end Go.Proofs.Ytpfpngmfooagiaa
