/- CoverSets: whatever the ranges and the place the law answers true; the arguments read afterwards as before. No condition. -/
import Derived.Test.YteaieinpnpnkbaaDSc
import Derived.Test.YteaieinpnpnkbaaDSTab
import Derived.Test.YteaieinpnpnkbaaDSSrt
import Derived.Lib.SmallJoins
namespace Go.Proofs.Yteaieinpnpnkbaa.coverSets
set_option linter.unusedSimpArgs false
set_option linter.unusedVariables false
set_option linter.defProp false
set_option maxHeartbeats 1000000
open Go.ChangeShapes Go.WideShapes Go.ChangeAt Go.RowKit Go.Joins
theorem own : ownKnob Try.prog.godebug = none := by kernel_rfl
set_option maxRecDepth 100000 in
theorem lifted (os : Os) (started : os.Started) (H : Type) (enc : TypeId × Value → H) :
    ReturnsInHanded {} Try.checked os 4 .any (Rows.coverSetsSpec.pre6 enc Try.prog Try.f4 Rows.coverSetsRow.domain false) (Rows.coverSetsSpec.post enc Try.prog Try.f4 false true false false) := by
  refine LawRow.lifted (C := Try.checked) own started (by kernel_rfl) Try.func4
    (ChangeSpec.witness6 (enc := enc) (C := Try.checked) false ⟨#[], #[.slice none 0 0, .slice none 0 0, .int .i64 0], []⟩ 8 (by kernel_rfl) (by kernel_rfl) (by kernel_rfl) (by kernel_rfl))
    rfl (by kernel_rfl) (by kernel_rfl) (by kernel_rfl) Try.underlying4 ?_ ?_
  · intro ds hl
    rw [Try.params4] at hl
    match ds, hl with
    | [_, _, _], _ => rfl
  · intro W base args ds p hval hA hw
    rw [Try.params4] at hA hval hw
    obtain ⟨v0, vs0, d0, ds0, p0, q0, hargs, rfl, rfl, h0, r0⟩ := trodAll_cons hA
    obtain ⟨v1, vs1, d1, ds1, p1, q1, rfl, rfl, rfl, h1, r1⟩ := trodAll_cons r0
    obtain ⟨v2, vs2, d2, ds2, p2, q2, rfl, rfl, rfl, h2, r2⟩ := trodAll_cons r1
    obtain ⟨rfl, rfl, rfl⟩ := trodAll_nil r2
    obtain rfl : args = #[v0, v1, v2] := by cases args; simp_all
    simp only [DataW.weightsEach, List.all_append, Bool.and_eq_true] at hw
    obtain ⟨avs0, hv0, hws0⟩ := VM.open_arg (n := 12) (shs := [.sl 16 [.int .i64, .int .i64]]) (by kernel_rfl) h0 (hw.1)
    obtain ⟨k0, u0, rfl, hk0⟩  := VM.wRgs hws0
    obtain ⟨avs1, hv1, hws1⟩ := VM.open_arg (n := 12) (shs := [.sl 16 [.int .i64, .int .i64]]) (by kernel_rfl) h1 (hw.2.1)
    obtain ⟨k1, u1, rfl, hk1⟩  := VM.wRgs hws1
    obtain ⟨a2, rfl, _, lo2, hi2⟩ := open_int Try.underlying3 (hval 2 3 v2 rfl rfl) h2
    exact (VM.coverSets_pu VM.pg VM.sortIok VM.sortEok hk0 hk1 a2).calls (.cons (VM.open_one Try.underlying24 (hval 0 24 v0 rfl rfl) hv0) (.cons (VM.open_one Try.underlying24 (hval 1 24 v1 rfl rfl) hv1) (.cons (.int _ _) .nil)))
theorem over : Rows.coverSetsRow.holds Try.pinned (OpenSpec.ofChange Rows.coverSetsSpec) :=
  OpenClaim.holds_of_wide 4 Try.f4 rfl rfl rfl rfl rfl rfl rfl ⟨rfl, rfl, rfl, rfl, rfl⟩ rfl rfl rfl rfl rfl (by kernel_rfl) Try.func4 (by kernel_rfl)
    (of_decide_eq_true (by kernel_rfl)) (by unfold Func.isWrapper; first | (rw [if_pos (by decide +kernel)]; kernel_rfl) | (rw [if_neg (by decide +kernel)]; exact ⟨rfl, rfl⟩))
    (fun os started H enc _ => lifted os started H enc)
end Go.Proofs.Yteaieinpnpnkbaa.coverSets
namespace Go.Proofs.Yteaieinpnpnkbaa
theorem coverSets_holds : Rows.CoverSetsSaid := coverSets.over
#print axioms coverSets_holds
end Go.Proofs.Yteaieinpnpnkbaa
