/- DiskCrashes: whatever the acts and the crash the law answers true; the arguments read afterwards as before. No condition. -/
import Derived.Test.YtlemediphmnffaaDCd
import Derived.Test.YtlemediphmnffaaDCTab
import Derived.Test.YtlemediphmnffaaDCSrtK
import Derived.Lib.SmallJoins
namespace Go.Proofs.Ytlemediphmnffaa.diskCrashes
set_option linter.unusedSimpArgs false
set_option linter.unusedVariables false
set_option linter.defProp false
set_option maxHeartbeats 1000000
open Go.ChangeShapes Go.WideShapes Go.ChangeAt Go.RowKit Go.Joins
theorem own : ownKnob Try.prog.godebug = none := by kernel_rfl
set_option maxRecDepth 100000 in
theorem lifted (os : Os) (started : os.Started) (H : Type) (enc : TypeId × Value → H) :
    ReturnsInHanded {} Try.checked os 5 .any (Rows.diskCrashesSpec.pre6 enc Try.prog Try.f5 Rows.diskCrashesRow.domain false) (Rows.diskCrashesSpec.post enc Try.prog Try.f5 false true false false) := by
  refine LawRow.lifted (C := Try.checked) own started (by kernel_rfl) Try.func5
    (ChangeSpec.witness6 (enc := enc) (C := Try.checked) false ⟨#[], #[.slice none 0 0, .slice none 0 0, .agg #[.int .i64 0, .int .i64 0, .int .i64 0]], []⟩ 8 (by kernel_rfl) (by kernel_rfl) (by kernel_rfl) (by kernel_rfl))
    rfl (by kernel_rfl) (by kernel_rfl) (by kernel_rfl) Try.underlying4 ?_ ?_
  · intro ds hl
    rw [Try.params5] at hl
    match ds, hl with
    | [_, _, _], _ => rfl
  · intro W base args ds p hval hA hw
    rw [Try.params5] at hA hval hw
    obtain ⟨v0, vs0, d0, ds0, p0, q0, hargs, rfl, rfl, h0, r0⟩ := trodAll_cons hA
    obtain ⟨v1, vs1, d1, ds1, p1, q1, rfl, rfl, rfl, h1, r1⟩ := trodAll_cons r0
    obtain ⟨v2, vs2, d2, ds2, p2, q2, rfl, rfl, rfl, h2, r2⟩ := trodAll_cons r1
    obtain ⟨rfl, rfl, rfl⟩ := trodAll_nil r2
    obtain rfl : args = #[v0, v1, v2] := by cases args; simp_all
    simp only [DataW.weightsEach, List.all_append, Bool.and_eq_true] at hw
    obtain ⟨avs0, hv0, hws0⟩ := VM.open_arg (n := 12) (shs := [.sl 8 [.int .i64]]) (by kernel_rfl) h0 (hw.1)
    obtain ⟨w0, l0, rfl, hw0⟩  := VM.wInts8 hws0
    obtain ⟨avs1, hv1, hws1⟩ := VM.open_arg (n := 12) (shs := [.sl 8 [.int .i64]]) (by kernel_rfl) h1 (hw.2.1)
    obtain ⟨w1, l1, rfl, hw1⟩  := VM.wInts8 hws1
    obtain ⟨avs2, hv2, hws2⟩ := VM.open_arg (n := 12) (shs := [.int .i64, .int .i64, .int .i64]) (by kernel_rfl) h2 (hw.2.2.1)
    have hln2 : avs2.length ≠ 1 := by have := hws2.length; simp at this; omega
    obtain ⟨k2, t2, b2, rfl⟩  := VM.wCrash8 hws2
    exact (VM.diskCrashes_pu VM.pg VM.srtKok hw0 hw1 k2 t2 b2).calls (.cons (VM.open_one Try.underlying50 (hval 0 50 v0 rfl rfl) hv0) (.cons (VM.open_one Try.underlying50 (hval 1 50 v1 rfl rfl) hv1) (.cons (VM.open_agg hv2 hln2) .nil)))
theorem over : Rows.diskCrashesRow.holds Try.pinned (OpenSpec.ofChange Rows.diskCrashesSpec) :=
  OpenClaim.holds_of_wide 5 Try.f5 rfl rfl rfl rfl rfl rfl rfl ⟨rfl, rfl, rfl, rfl, rfl⟩ rfl rfl rfl rfl rfl (by kernel_rfl) Try.func5 (by kernel_rfl)
    (of_decide_eq_true (by kernel_rfl)) (by unfold Func.isWrapper; first | (rw [if_pos (by decide +kernel)]; kernel_rfl) | (rw [if_neg (by decide +kernel)]; exact ⟨rfl, rfl⟩))
    (fun os started H enc _ => lifted os started H enc)
end Go.Proofs.Ytlemediphmnffaa.diskCrashes
namespace Go.Proofs.Ytlemediphmnffaa
theorem diskCrashes_holds : Rows.DiskCrashesSaid := diskCrashes.over
#print axioms diskCrashes_holds
end Go.Proofs.Ytlemediphmnffaa
