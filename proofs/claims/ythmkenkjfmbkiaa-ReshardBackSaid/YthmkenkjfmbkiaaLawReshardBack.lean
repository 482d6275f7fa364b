/- ReshardBack: whatever the places and features the law answers true; the arguments read afterwards as before. No condition. -/
import Derived.Test.YthmkenkjfmbkiaaRKd
import Derived.Test.YthmkenkjfmbkiaaRKTab
import Derived.Test.YthmkenkjfmbkiaaRKIns
import Derived.Lib.SmallJoins
namespace Go.Proofs.Ythmkenkjfmbkiaa.reshardBack
set_option linter.unusedSimpArgs false
set_option linter.unusedVariables false
set_option linter.defProp false
set_option maxHeartbeats 1000000
open Go.ChangeShapes Go.WideShapes Go.ChangeAt Go.RowKit Go.Joins
theorem own : ownKnob Try.prog.godebug = none := by kernel_rfl
set_option maxRecDepth 100000 in
theorem lifted (os : Os) (started : os.Started) (H : Type) (enc : TypeId × Value → H) :
    ReturnsInHanded {} Try.checked os 6 .any (Rows.reshardBackSpec.pre6 enc Try.prog Try.f6 Rows.reshardBackRow.domain false) (Rows.reshardBackSpec.post enc Try.prog Try.f6 false true false false) := by
  refine LawRow.lifted (C := Try.checked) own started (by kernel_rfl) Try.func6
    (ChangeSpec.witness6 (enc := enc) (C := Try.checked) false ⟨#[], #[.int .i64 0, .int .i64 0, .slice none 0 0], []⟩ 8 (by kernel_rfl) (by kernel_rfl) (by kernel_rfl) (by kernel_rfl))
    rfl (by kernel_rfl) (by kernel_rfl) (by kernel_rfl) Try.underlying4 ?_ ?_
  · intro ds hl
    rw [Try.params6] at hl
    match ds, hl with
    | [_, _, _], _ => rfl
  · intro W base args ds p hval hA hw
    rw [Try.params6] at hA hval hw
    obtain ⟨v0, vs0, d0, ds0, p0, q0, hargs, rfl, rfl, h0, r0⟩ := trodAll_cons hA
    obtain ⟨v1, vs1, d1, ds1, p1, q1, rfl, rfl, rfl, h1, r1⟩ := trodAll_cons r0
    obtain ⟨v2, vs2, d2, ds2, p2, q2, rfl, rfl, rfl, h2, r2⟩ := trodAll_cons r1
    obtain ⟨rfl, rfl, rfl⟩ := trodAll_nil r2
    obtain rfl : args = #[v0, v1, v2] := by cases args; simp_all
    simp only [DataW.weightsEach, List.all_append, Bool.and_eq_true] at hw
    obtain ⟨a0, rfl, _, lo0, hi0⟩ := open_int Try.underlying3 (hval 0 3 v0 rfl rfl) h0
    obtain ⟨a1, rfl, _, lo1, hi1⟩ := open_int Try.underlying3 (hval 1 3 v1 rfl rfl) h1
    obtain ⟨avs2, hv2, hws2⟩ := VM.open_arg (n := 12) (shs := [.sl 40 VM.shFeat]) (by kernel_rfl) h2 (hw.2.2.1)
    obtain ⟨w2, l2, rfl, hw2⟩  := VM.wFeatsL hws2
    exact ((VM.reshardBack_pu VM.pg VM.insOk hw2 a0 a1)).calls (.cons (.int _ _) (.cons (.int _ _) (.cons (VM.open_one Try.underlying27 (hval 2 27 v2 rfl rfl) hv2) .nil)))
theorem over : Rows.reshardBackRow.holds Try.pinned (OpenSpec.ofChange Rows.reshardBackSpec) :=
  OpenClaim.holds_of_wide 6 Try.f6 rfl rfl rfl rfl rfl rfl rfl ⟨rfl, rfl, rfl, rfl, rfl⟩ rfl rfl rfl rfl rfl (by kernel_rfl) Try.func6 (by kernel_rfl)
    (of_decide_eq_true (by kernel_rfl)) (by unfold Func.isWrapper; first | (rw [if_pos (by decide +kernel)]; kernel_rfl) | (rw [if_neg (by decide +kernel)]; exact ⟨rfl, rfl⟩))
    (fun os started H enc _ => lifted os started H enc)
end Go.Proofs.Ythmkenkjfmbkiaa.reshardBack
namespace Go.Proofs.Ythmkenkjfmbkiaa
theorem reshardBack_holds : Rows.ReshardBackSaid := reshardBack.over
#print axioms reshardBack_holds
end Go.Proofs.Ythmkenkjfmbkiaa
