/- ModelForms: whatever the numbers the law answers true. No condition. -/
import Derived.Test.YtpfpngmfooagiaaMFe
import Derived.Test.YtpfpngmfooagiaaMFTab
import Derived.Test.YtpfpngmfooagiaaMFInsF
import Derived.Lib.SmallJoins
namespace Go.Proofs.Ytpfpngmfooagiaa.modelForms
set_option linter.unusedSimpArgs false
set_option linter.unusedVariables false
set_option linter.defProp false
set_option maxHeartbeats 1000000
open Go.ChangeShapes Go.WideShapes Go.ChangeAt Go.RowKit Go.Joins
theorem own : ownKnob Try.prog.godebug = none := by kernel_rfl
set_option maxRecDepth 100000 in
theorem lifted (os : Os) (started : os.Started) (H : Type) (enc : TypeId × Value → H) :
    ReturnsInHanded {} Try.checked os 5 .any (Rows.modelFormsSpec.pre6 enc Try.prog Try.f5 Rows.modelFormsRow.domain false) (Rows.modelFormsSpec.post enc Try.prog Try.f5 false true false false) := by
  refine LawRow.lifted (C := Try.checked) own started (by kernel_rfl) Try.func5
    (ChangeSpec.witness6 (enc := enc) (C := Try.checked) false ⟨#[], #[.int .i64 0, .int .i64 0], []⟩ 8 (by kernel_rfl) (by kernel_rfl) (by kernel_rfl) (by kernel_rfl))
    rfl (by kernel_rfl) (by kernel_rfl) (by kernel_rfl) Try.underlying4 ?_ ?_
  · intro ds hl
    rw [Try.params5] at hl
    match ds, hl with
    | [_, _], _ => rfl
  · intro W base args ds p hval hA _
    rw [Try.params5] at hA hval
    obtain ⟨v0, vs0, d0, ds0, p0, q0, hargs, rfl, rfl, h0, r0⟩ := trodAll_cons hA
    obtain ⟨v1, vs1, d1, ds1, p1, q1, rfl, rfl, rfl, h1, r1⟩ := trodAll_cons r0
    obtain ⟨rfl, rfl, rfl⟩ := trodAll_nil r1
    obtain rfl : args = #[v0, v1] := by cases args; simp_all
    obtain ⟨a0, rfl, _, lo0, hi0⟩ := open_int Try.underlying3 (hval 0 3 v0 rfl rfl) h0
    obtain ⟨a1, rfl, _, lo1, hi1⟩ := open_int Try.underlying3 (hval 1 3 v1 rfl rfl) h1
    exact (VM.modelForms_pu VM.pg VM.insF a0 a1).calls (.cons (.int _ _) (.cons (.int _ _) .nil))
theorem over : Rows.modelFormsRow.holds Try.pinned (OpenSpec.ofChange Rows.modelFormsSpec) :=
  OpenClaim.holds_of_wide 5 Try.f5 rfl rfl rfl rfl rfl rfl rfl ⟨rfl, rfl, rfl, rfl, rfl⟩ rfl rfl rfl rfl rfl (by kernel_rfl) Try.func5 (by kernel_rfl)
    (of_decide_eq_true (by kernel_rfl)) (by unfold Func.isWrapper; first | (rw [if_pos (by decide +kernel)]; kernel_rfl) | (rw [if_neg (by decide +kernel)]; exact ⟨rfl, rfl⟩))
    (fun os started H enc _ => lifted os started H enc)
end Go.Proofs.Ytpfpngmfooagiaa.modelForms
namespace Go.Proofs.Ytpfpngmfooagiaa
theorem modelForms_holds : Rows.ModelFormsSaid := modelForms.over
#print axioms modelForms_holds
end Go.Proofs.Ytpfpngmfooagiaa
