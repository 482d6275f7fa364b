/- DiskActs: whatever the number and the acts the law answers true; the arguments read afterwards as before. No condition. -/
import Derived.Test.YtlemediphmnffaaDAd
import Derived.Test.YtlemediphmnffaaDATab
import Derived.Test.YtlemediphmnffaaDASrtK
import Derived.Lib.SmallJoins
namespace Go.Proofs.Ytlemediphmnffaa.diskActs
set_option linter.unusedSimpArgs false
set_option linter.unusedVariables false
set_option linter.defProp false
set_option maxHeartbeats 1000000
open Go.ChangeShapes Go.WideShapes Go.ChangeAt Go.RowKit Go.Joins
theorem own : ownKnob Try.prog.godebug = none := by kernel_rfl
set_option maxRecDepth 100000 in
theorem lifted (os : Os) (started : os.Started) (H : Type) (enc : TypeId × Value → H) :
    ReturnsInHanded {} Try.checked os 4 .any (Rows.diskActsSpec.pre6 enc Try.prog Try.f4 Rows.diskActsRow.domain false) (Rows.diskActsSpec.post enc Try.prog Try.f4 false true false false) := by
  refine LawRow.lifted (C := Try.checked) own started (by kernel_rfl) Try.func4
    (ChangeSpec.witness6 (enc := enc) (C := Try.checked) false ⟨#[], #[.int .i64 0, .slice none 0 0], []⟩ 8 (by kernel_rfl) (by kernel_rfl) (by kernel_rfl) (by kernel_rfl))
    rfl (by kernel_rfl) (by kernel_rfl) (by kernel_rfl) Try.underlying4 ?_ ?_
  · intro ds hl
    rw [Try.params4] at hl
    match ds, hl with
    | [_, _], _ => rfl
  · intro W base args ds p hval hA hw
    rw [Try.params4] at hA hval hw
    obtain ⟨v0, vs0, d0, ds0, p0, q0, hargs, rfl, rfl, h0, r0⟩ := trodAll_cons hA
    obtain ⟨v1, vs1, d1, ds1, p1, q1, rfl, rfl, rfl, h1, r1⟩ := trodAll_cons r0
    obtain ⟨rfl, rfl, rfl⟩ := trodAll_nil r1
    obtain rfl : args = #[v0, v1] := by cases args; simp_all
    simp only [DataW.weightsEach, List.all_append, Bool.and_eq_true] at hw
    obtain ⟨a0, rfl, _, lo0, hi0⟩ := open_int Try.underlying3 (hval 0 3 v0 rfl rfl) h0
    obtain ⟨avs1, hv1, hws1⟩ := VM.open_arg (n := 12) (shs := [.sl 56 [.int .i64, .int .i64, .str, .int .i64, .int .i64, .int .i64]]) (by kernel_rfl) h1 (hw.2.1)
    obtain ⟨w1, l1, rfl, hw1⟩  := VM.wActs hws1
    exact (VM.diskActs_pu VM.pg VM.srtKok a0 hw1).calls (.cons (.int _ _) (.cons (VM.open_one Try.underlying37 (hval 1 37 v1 rfl rfl) hv1) .nil))
theorem over : Rows.diskActsRow.holds Try.pinned (OpenSpec.ofChange Rows.diskActsSpec) :=
  OpenClaim.holds_of_wide 4 Try.f4 rfl rfl rfl rfl rfl rfl rfl ⟨rfl, rfl, rfl, rfl, rfl⟩ rfl rfl rfl rfl rfl (by kernel_rfl) Try.func4 (by kernel_rfl)
    (of_decide_eq_true (by kernel_rfl)) (by unfold Func.isWrapper; first | (rw [if_pos (by decide +kernel)]; kernel_rfl) | (rw [if_neg (by decide +kernel)]; exact ⟨rfl, rfl⟩))
    (fun os started H enc _ => lifted os started H enc)
end Go.Proofs.Ytlemediphmnffaa.diskActs
namespace Go.Proofs.Ytlemediphmnffaa
theorem diskActs_holds : Rows.DiskActsSaid := diskActs.over
#print axioms diskActs_holds
end Go.Proofs.Ytlemediphmnffaa
