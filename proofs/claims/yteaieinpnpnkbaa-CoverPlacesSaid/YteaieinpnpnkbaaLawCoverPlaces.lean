/- CoverPlaces: whatever the box and the place the law answers true; the arguments read afterwards as before. No condition. -/
import Derived.Test.YteaieinpnpnkbaaDPc
import Derived.Test.YteaieinpnpnkbaaDPTab
import Derived.Test.YteaieinpnpnkbaaDPSrt
import Derived.Lib.SmallJoins
namespace Go.Proofs.Yteaieinpnpnkbaa.coverPlaces
set_option linter.unusedSimpArgs false
set_option linter.unusedVariables false
set_option linter.defProp false
set_option maxHeartbeats 1000000
open Go.ChangeShapes Go.WideShapes Go.ChangeAt Go.RowKit Go.Joins
theorem own : ownKnob Try.prog.godebug = none := by kernel_rfl
set_option maxRecDepth 100000 in
theorem lifted (os : Os) (started : os.Started) (H : Type) (enc : TypeId × Value → H) :
    ReturnsInHanded {} Try.checked os 8 .any (Rows.coverPlacesSpec.pre6 enc Try.prog Try.f8 Rows.coverPlacesRow.domain false) (Rows.coverPlacesSpec.post enc Try.prog Try.f8 false true false false) := by
  refine LawRow.lifted (C := Try.checked) own started (by kernel_rfl) Try.func8
    (ChangeSpec.witness6 (enc := enc) (C := Try.checked) false ⟨#[], #[.agg #[.int .i64 0, .int .i64 0, .int .i64 0, .int .i64 0], .agg #[.int .i64 0, .int .i64 0]], []⟩ 8 (by kernel_rfl) (by kernel_rfl) (by kernel_rfl) (by kernel_rfl))
    rfl (by kernel_rfl) (by kernel_rfl) (by kernel_rfl) Try.underlying4 ?_ ?_
  · intro ds hl
    rw [Try.params8] at hl
    match ds, hl with
    | [_, _], _ => rfl
  · intro W base args ds p hval hA hw
    rw [Try.params8] at hA hval hw
    obtain ⟨v0, vs0, d0, ds0, p0, q0, hargs, rfl, rfl, h0, r0⟩ := trodAll_cons hA
    obtain ⟨v1, vs1, d1, ds1, p1, q1, rfl, rfl, rfl, h1, r1⟩ := trodAll_cons r0
    obtain ⟨rfl, rfl, rfl⟩ := trodAll_nil r1
    obtain rfl : args = #[v0, v1] := by cases args; simp_all
    simp only [DataW.weightsEach, List.all_append, Bool.and_eq_true] at hw
    obtain ⟨avs0, hv0, hws0⟩ := VM.open_arg (n := 12) (shs := [.int .i64, .int .i64, .int .i64, .int .i64]) (by kernel_rfl) h0 (hw.1)
    have hln0 : avs0.length ≠ 1 := by have := hws0.length; simp at this; omega
    obtain ⟨p0, q0, r0, s0, rfl⟩  := VM.wB4 hws0
    obtain ⟨avs1, hv1, hws1⟩ := VM.open_arg (n := 12) (shs := [.int .i64, .int .i64]) (by kernel_rfl) h1 (hw.2.1)
    have hln1 : avs1.length ≠ 1 := by have := hws1.length; simp at this; omega
    obtain ⟨p1, q1, rfl⟩  := VM.wP2 hws1
    exact (VM.coverPlaces_pu VM.pg VM.sortIok VM.sortEok).calls (.cons (VM.open_agg hv0 hln0) (.cons (VM.open_agg hv1 hln1) .nil))
theorem over : Rows.coverPlacesRow.holds Try.pinned (OpenSpec.ofChange Rows.coverPlacesSpec) :=
  OpenClaim.holds_of_wide 8 Try.f8 rfl rfl rfl rfl rfl rfl rfl ⟨rfl, rfl, rfl, rfl, rfl⟩ rfl rfl rfl rfl rfl (by kernel_rfl) Try.func8 (by kernel_rfl)
    (of_decide_eq_true (by kernel_rfl)) (by unfold Func.isWrapper; first | (rw [if_pos (by decide +kernel)]; kernel_rfl) | (rw [if_neg (by decide +kernel)]; exact ⟨rfl, rfl⟩))
    (fun os started H enc _ => lifted os started H enc)
end Go.Proofs.Yteaieinpnpnkbaa.coverPlaces
namespace Go.Proofs.Yteaieinpnpnkbaa
theorem coverPlaces_holds : Rows.CoverPlacesSaid := coverPlaces.over
#print axioms coverPlaces_holds
end Go.Proofs.Yteaieinpnpnkbaa
