/- ModelNears: whatever the features, the place and the number the law answers true; the arguments read afterwards as before. No condition. -/
import Derived.Test.YtpfpngmfooagiaaGreatMNe
import Derived.Test.YtpfpngmfooagiaaGreatMNTab
import Derived.Test.YtpfpngmfooagiaaGreatMNInsF
import Derived.Test.YtpfpngmfooagiaaGreatMNSrtN
import Derived.Lib.SmallJoins
namespace Go.Proofs.YtpfpngmfooagiaaGreat.modelNears
set_option linter.unusedSimpArgs false
set_option linter.unusedVariables false
set_option linter.defProp false
set_option maxHeartbeats 1000000
open Go.ChangeShapes Go.WideShapes Go.ChangeAt Go.RowKit Go.Joins
theorem own : ownKnob Tryz.prog.godebug = none := by kernel_rfl
set_option maxRecDepth 100000 in
theorem lifted (os : Os) (started : os.Started) (H : Type) (enc : TypeId × Value → H) :
    ReturnsInHanded {} Tryz.checked os 4 .any (Rows.modelNearsSpec.pre6 enc Tryz.prog Tryz.f4 Rows.modelNearsRow.domain false) (Rows.modelNearsSpec.post enc Tryz.prog Tryz.f4 false true false false) := by
  refine LawRow.lifted (C := Tryz.checked) own started (by kernel_rfl) Tryz.func4
    (ChangeSpec.witness6 (enc := enc) (C := Tryz.checked) false ⟨#[], #[.slice none 0 0, .agg #[.int .i64 0, .int .i64 0], .int .i64 0], []⟩ 8 (by kernel_rfl) (by kernel_rfl) (by kernel_rfl) (by kernel_rfl))
    rfl (by kernel_rfl) (by kernel_rfl) (by kernel_rfl) Tryz.underlying4 ?_ ?_
  · intro ds hl
    rw [Tryz.params4] at hl
    match ds, hl with
    | [_, _, _], _ => rfl
  · intro W base args ds p hval hA hw
    rw [Tryz.params4] at hA hval hw
    obtain ⟨v0, vs0, d0, ds0, p0, q0, hargs, rfl, rfl, h0, r0⟩ := trodAll_cons hA
    obtain ⟨v1, vs1, d1, ds1, p1, q1, rfl, rfl, rfl, h1, r1⟩ := trodAll_cons r0
    obtain ⟨v2, vs2, d2, ds2, p2, q2, rfl, rfl, rfl, h2, r2⟩ := trodAll_cons r1
    obtain ⟨rfl, rfl, rfl⟩ := trodAll_nil r2
    obtain rfl : args = #[v0, v1, v2] := by cases args; simp_all
    simp only [DataW.weightsEach, List.all_append, Bool.and_eq_true] at hw
    obtain ⟨avs0, hv0, hws0⟩ := VM.open_arg (n := 12) (shs := [.sl 40 VM.shFeat]) (by kernel_rfl) h0 (hw.1)
    obtain ⟨w0, l0, rfl, hw0⟩  := VM.wFs hws0
    obtain ⟨avs1, hv1, hws1⟩ := VM.open_arg (n := 12) (shs := [.int .i64, .int .i64]) (by kernel_rfl) h1 (hw.2.1)
    have hln1 : avs1.length ≠ 1 := by have := hws1.length; simp at this; omega
    obtain ⟨p1, rfl⟩  := VM.wPt2 hws1
    obtain ⟨a2, rfl, _, lo2, hi2⟩ := open_int Tryz.underlying3 (hval 2 3 v2 rfl rfl) h2
    exact (VM.modelNears_pu VM.pg VM.insF VM.sortNok hw0 p1 a2).calls (.cons (VM.open_one Tryz.underlying22 (hval 0 22 v0 rfl rfl) hv0) (.cons (VM.open_agg hv1 hln1) (.cons (.int _ _) .nil)))
theorem over : Rows.modelNearsRow.holds Tryz.pinned (OpenSpec.ofChange Rows.modelNearsSpec) :=
  OpenClaim.holds_of_wide 4 Tryz.f4 rfl rfl rfl rfl rfl rfl rfl ⟨rfl, rfl, rfl, rfl, rfl⟩ rfl rfl rfl rfl rfl (by kernel_rfl) Tryz.func4 (by kernel_rfl)
    (of_decide_eq_true (by kernel_rfl)) (by unfold Func.isWrapper; first | (rw [if_pos (by decide +kernel)]; kernel_rfl) | (rw [if_neg (by decide +kernel)]; exact ⟨rfl, rfl⟩))
    (fun os started H enc _ => lifted os started H enc)
end Go.Proofs.YtpfpngmfooagiaaGreat.modelNears
namespace Go.Proofs.YtpfpngmfooagiaaGreat
theorem modelNears_holds : Rows.ModelNearsSaid := modelNears.over
#print axioms modelNears_holds
end Go.Proofs.YtpfpngmfooagiaaGreat
