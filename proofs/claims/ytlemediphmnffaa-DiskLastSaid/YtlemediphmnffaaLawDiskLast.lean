/- DiskLast: whatever the acts and the crash the law answers true; the arguments read afterwards as before. No condition. -/
import Derived.Test.YtlemediphmnffaaDLc
import Derived.Test.YtlemediphmnffaaDLTab
import Derived.Test.YtlemediphmnffaaDLSrtK
import Derived.Lib.SmallJoins
namespace Go.Proofs.Ytlemediphmnffaa.diskLast
set_option linter.unusedSimpArgs false
set_option linter.unusedVariables false
set_option linter.defProp false
set_option maxHeartbeats 1000000
open Go.ChangeShapes Go.WideShapes Go.ChangeAt Go.RowKit Go.Joins
theorem own : ownKnob Try.prog.godebug = none := by kernel_rfl
set_option maxRecDepth 100000 in
theorem lifted (os : Os) (started : os.Started) (H : Type) (enc : TypeId × Value → H) :
    ReturnsInHanded {} Try.checked os 6 .any (Rows.diskLastSpec.pre6 enc Try.prog Try.f6 Rows.diskLastRow.domain false) (Rows.diskLastSpec.post enc Try.prog Try.f6 false true false false) := by
  refine LawRow.lifted (C := Try.checked) own started (by kernel_rfl) Try.func6
    (ChangeSpec.witness6 (enc := enc) (C := Try.checked) false ⟨#[], #[.slice none 0 0, .agg #[.int .i64 0, .int .i64 0, .int .i64 0]], []⟩ 8 (by kernel_rfl) (by kernel_rfl) (by kernel_rfl) (by kernel_rfl))
    rfl (by kernel_rfl) (by kernel_rfl) (by kernel_rfl) Try.underlying4 ?_ ?_
  · intro ds hl
    rw [Try.params6] at hl
    match ds, hl with
    | [_, _], _ => rfl
  · intro W base args ds p hval hA hw
    rw [Try.params6] at hA hval hw
    obtain ⟨v0, vs0, d0, ds0, p0, q0, hargs, rfl, rfl, h0, r0⟩ := trodAll_cons hA
    obtain ⟨v1, vs1, d1, ds1, p1, q1, rfl, rfl, rfl, h1, r1⟩ := trodAll_cons r0
    obtain ⟨rfl, rfl, rfl⟩ := trodAll_nil r1
    obtain rfl : args = #[v0, v1] := by cases args; simp_all
    simp only [DataW.weightsEach, List.all_append, Bool.and_eq_true] at hw
    obtain ⟨avs0, hv0, hws0⟩ := VM.open_arg (n := 12) (shs := [.sl 8 [.int .i64]]) (by kernel_rfl) h0 (hw.1)
    obtain ⟨w0, l0, rfl, hw0⟩  := VM.wInts8 hws0
    obtain ⟨avs1, hv1, hws1⟩ := VM.open_arg (n := 12) (shs := [.int .i64, .int .i64, .int .i64]) (by kernel_rfl) h1 (hw.2.1)
    have hln1 : avs1.length ≠ 1 := by have := hws1.length; simp at this; omega
    obtain ⟨k1, t1, b1, rfl⟩  := VM.wCrash8 hws1
    exact (VM.diskLast_pu VM.pg VM.srtKok hw0 k1 t1 b1).calls (.cons (VM.open_one Try.underlying50 (hval 0 50 v0 rfl rfl) hv0) (.cons (VM.open_agg hv1 hln1) .nil))
theorem over : Rows.diskLastRow.holds Try.pinned (OpenSpec.ofChange Rows.diskLastSpec) :=
  OpenClaim.holds_of_wide 6 Try.f6 rfl rfl rfl rfl rfl rfl rfl ⟨rfl, rfl, rfl, rfl, rfl⟩ rfl rfl rfl rfl rfl (by kernel_rfl) Try.func6 (by kernel_rfl)
    (of_decide_eq_true (by kernel_rfl)) (by unfold Func.isWrapper; first | (rw [if_pos (by decide +kernel)]; kernel_rfl) | (rw [if_neg (by decide +kernel)]; exact ⟨rfl, rfl⟩))
    (fun os started H enc _ => lifted os started H enc)
end Go.Proofs.Ytlemediphmnffaa.diskLast
namespace Go.Proofs.Ytlemediphmnffaa
theorem diskLast_holds : Rows.DiskLastSaid := diskLast.over
#print axioms diskLast_holds
end Go.Proofs.Ytlemediphmnffaa
