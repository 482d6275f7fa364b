/- CoverCounts: whatever the box the law answers true; the arguments read afterwards as before. No condition. -/
import Derived.Test.YteaieinpnpnkbaaDCc
import Derived.Test.YteaieinpnpnkbaaDCTab
import Derived.Test.YteaieinpnpnkbaaDCSrt
import Derived.Lib.SmallJoins
namespace Go.Proofs.Yteaieinpnpnkbaa.coverCounts
set_option linter.unusedSimpArgs false
set_option linter.unusedVariables false
set_option linter.defProp false
set_option maxHeartbeats 1000000
open Go.ChangeShapes Go.WideShapes Go.ChangeAt Go.RowKit Go.Joins
theorem own : ownKnob Try.prog.godebug = none := by kernel_rfl
set_option maxRecDepth 100000 in
theorem lifted (os : Os) (started : os.Started) (H : Type) (enc : TypeId × Value → H) :
    ReturnsInHanded {} Try.checked os 5 .any (Rows.coverCountsSpec.pre6 enc Try.prog Try.f5 Rows.coverCountsRow.domain false) (Rows.coverCountsSpec.post enc Try.prog Try.f5 false true false false) := by
  refine LawRow.lifted (C := Try.checked) own started (by kernel_rfl) Try.func5
    (ChangeSpec.witness6 (enc := enc) (C := Try.checked) false ⟨#[], #[.agg #[.int .i64 0, .int .i64 0, .int .i64 0, .int .i64 0]], []⟩ 8 (by kernel_rfl) (by kernel_rfl) (by kernel_rfl) (by kernel_rfl))
    rfl (by kernel_rfl) (by kernel_rfl) (by kernel_rfl) Try.underlying4 ?_ ?_
  · intro ds hl
    rw [Try.params5] at hl
    match ds, hl with
    | [_], _ => rfl
  · intro W base args ds p hval hA hw
    rw [Try.params5] at hA hval hw
    obtain ⟨v0, vs0, d0, ds0, p0, q0, hargs, rfl, rfl, h0, r0⟩ := trodAll_cons hA
    obtain ⟨rfl, rfl, rfl⟩ := trodAll_nil r0
    obtain rfl : args = #[v0] := by cases args; simp_all
    simp only [DataW.weightsEach, List.all_append, Bool.and_eq_true] at hw
    obtain ⟨avs0, hv0, hws0⟩ := VM.open_arg (n := 12) (shs := [.int .i64, .int .i64, .int .i64, .int .i64]) (by kernel_rfl) h0 (hw.1)
    have hln0 : avs0.length ≠ 1 := by have := hws0.length; simp at this; omega
    obtain ⟨p0, q0, r0, s0, rfl⟩  := VM.wB4 hws0
    exact (VM.coverCounts_pu VM.pg VM.sortIok VM.sortEok p0 q0 r0 s0).calls (.cons (VM.open_agg hv0 hln0) .nil)
theorem over : Rows.coverCountsRow.holds Try.pinned (OpenSpec.ofChange Rows.coverCountsSpec) :=
  OpenClaim.holds_of_wide 5 Try.f5 rfl rfl rfl rfl rfl rfl rfl ⟨rfl, rfl, rfl, rfl, rfl⟩ rfl rfl rfl rfl rfl (by kernel_rfl) Try.func5 (by kernel_rfl)
    (of_decide_eq_true (by kernel_rfl)) (by unfold Func.isWrapper; first | (rw [if_pos (by decide +kernel)]; kernel_rfl) | (rw [if_neg (by decide +kernel)]; exact ⟨rfl, rfl⟩))
    (fun os started H enc _ => lifted os started H enc)
end Go.Proofs.Yteaieinpnpnkbaa.coverCounts
namespace Go.Proofs.Yteaieinpnpnkbaa
theorem coverCounts_holds : Rows.CoverCountsSaid := coverCounts.over
#print axioms coverCounts_holds
end Go.Proofs.Yteaieinpnpnkbaa
