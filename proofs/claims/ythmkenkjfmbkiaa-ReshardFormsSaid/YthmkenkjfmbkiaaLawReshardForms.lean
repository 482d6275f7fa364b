/- ReshardForms: whatever the count, the change and the flag the law answers true; the arguments read afterwards as before. No condition. -/
import Derived.Test.YthmkenkjfmbkiaaRFd
import Derived.Test.YthmkenkjfmbkiaaRFTab
import Derived.Test.YthmkenkjfmbkiaaRFIns
import Derived.Lib.SmallJoins
namespace Go.Proofs.Ythmkenkjfmbkiaa.reshardForms
set_option linter.unusedSimpArgs false
set_option linter.unusedVariables false
set_option linter.defProp false
set_option maxHeartbeats 1000000
open Go.ChangeShapes Go.WideShapes Go.ChangeAt Go.RowKit Go.Joins
theorem own : ownKnob Try.prog.godebug = none := by kernel_rfl
set_option maxRecDepth 100000 in
theorem lifted (os : Os) (started : os.Started) (H : Type) (enc : TypeId × Value → H) :
    ReturnsInHanded {} Try.checked os 5 .any (Rows.reshardFormsSpec.pre6 enc Try.prog Try.f5 Rows.reshardFormsRow.domain false) (Rows.reshardFormsSpec.post enc Try.prog Try.f5 false true false false) := by
  refine LawRow.lifted (C := Try.checked) own started (by kernel_rfl) Try.func5
    (ChangeSpec.witness6 (enc := enc) (C := Try.checked) false ⟨#[], #[.int .i64 0, .agg #[.int .i64 0, .int .i64 0, .int .i64 0], .bool false], []⟩ 8 (by kernel_rfl) (by kernel_rfl) (by kernel_rfl) (by kernel_rfl))
    rfl (by kernel_rfl) (by kernel_rfl) (by kernel_rfl) Try.underlying4 ?_ ?_
  · intro ds hl
    rw [Try.params5] at hl
    match ds, hl with
    | [_, _, _], _ => rfl
  · intro W base args ds p hval hA hw
    rw [Try.params5] at hA hval hw
    obtain ⟨v0, vs0, d0, ds0, p0, q0, hargs, rfl, rfl, h0, r0⟩ := trodAll_cons hA
    obtain ⟨v1, vs1, d1, ds1, p1, q1, rfl, rfl, rfl, h1, r1⟩ := trodAll_cons r0
    obtain ⟨v2, vs2, d2, ds2, p2, q2, rfl, rfl, rfl, h2, r2⟩ := trodAll_cons r1
    obtain ⟨rfl, rfl, rfl⟩ := trodAll_nil r2
    obtain rfl : args = #[v0, v1, v2] := by cases args; simp_all
    simp only [DataW.weightsEach, List.all_append, Bool.and_eq_true] at hw
    obtain ⟨a0, rfl, _, lo0, hi0⟩ := open_int Try.underlying3 (hval 0 3 v0 rfl rfl) h0
    obtain ⟨avs1, hv1, hws1⟩ := VM.open_arg (n := 12) (shs := [.int .i64, .int .i64, .int .i64]) (by kernel_rfl) h1 (hw.2.1)
    have hln1 : avs1.length ≠ 1 := by have := hws1.length; simp at this; omega
    obtain ⟨k1, aa1, t1, rfl, hk1, ha1, ht1⟩  := VM.wChg hws1
    obtain ⟨a2, rfl, _⟩ := open_bool Try.underlying4 (hval 2 4 v2 rfl rfl) h2
    exact ((VM.reshardForms_pu VM.pg VM.insOk hk1 ha1 ht1 a0 a2)).calls (.cons (.int _ _) (.cons (VM.open_agg hv1 hln1) (.cons (.bool _) .nil)))
theorem over : Rows.reshardFormsRow.holds Try.pinned (OpenSpec.ofChange Rows.reshardFormsSpec) :=
  OpenClaim.holds_of_wide 5 Try.f5 rfl rfl rfl rfl rfl rfl rfl ⟨rfl, rfl, rfl, rfl, rfl⟩ rfl rfl rfl rfl rfl (by kernel_rfl) Try.func5 (by kernel_rfl)
    (of_decide_eq_true (by kernel_rfl)) (by unfold Func.isWrapper; first | (rw [if_pos (by decide +kernel)]; kernel_rfl) | (rw [if_neg (by decide +kernel)]; exact ⟨rfl, rfl⟩))
    (fun os started H enc _ => lifted os started H enc)
end Go.Proofs.Ythmkenkjfmbkiaa.reshardForms
namespace Go.Proofs.Ythmkenkjfmbkiaa
theorem reshardForms_holds : Rows.ReshardFormsSaid := reshardForms.over
#print axioms reshardForms_holds
end Go.Proofs.Ythmkenkjfmbkiaa
