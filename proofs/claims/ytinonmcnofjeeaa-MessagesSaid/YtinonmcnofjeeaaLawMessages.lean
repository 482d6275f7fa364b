/- Messages: for every message and bytes the law answers true; the arguments read afterwards as before. No condition. -/
import Derived.Test.YtinonmcnofjeeaaL16Msgf
import Derived.Test.YtinonmcnofjeeaaL16MsgTab
import Derived.Lib.SmallJoins
namespace Go.Proofs.Ytinonmcnofjeeaa.messages
set_option linter.unusedSimpArgs false
set_option linter.unusedVariables false
set_option linter.defProp false
set_option maxHeartbeats 1000000
open Go.ChangeShapes Go.WideShapes Go.ChangeAt Go.RowKit Go.Joins
theorem own : ownKnob Try.prog.godebug = none := by kernel_rfl
set_option maxRecDepth 100000 in
theorem lifted (os : Os) (started : os.Started) (H : Type) (enc : TypeId × Value → H) :
    ReturnsInHanded {} Try.checked os 6 .any (Rows.messagesSpec.pre6 enc Try.prog Try.f6 Rows.messagesRow.domain false) (Rows.messagesSpec.post enc Try.prog Try.f6 false true false false) := by
  refine LawRow.lifted (C := Try.checked) own started (by kernel_rfl) Try.func6
    (ChangeSpec.witness6 (enc := enc) (C := Try.checked) false ⟨#[], #[.agg #[.int .i64 0, .int .i64 0, .int .i64 0, .int .i64 0, .int .i64 0, .int .i64 0, .bool false, .int .i64 0, .int .i64 0, .bool false, .int .i64 0, .int .i64 0, .int .i64 0, .int .i64 0, .slice none 0 0, .slice none 0 0], .string ⟨#[]⟩], []⟩ 8 (by kernel_rfl) (by kernel_rfl) (by kernel_rfl) (by kernel_rfl))
    rfl (by kernel_rfl) (by kernel_rfl) (by kernel_rfl) Try.underlying4 ?_ ?_
  · intro ds hl
    rw [Try.params6] at hl
    match ds, hl with
    | [_, _], _ => rfl
  · intro W base args ds p hval hA hw
    rw [Try.params6] at hA hval hw
    obtain ⟨v0, vs0, d0, ds0, p0, q0, hargs, rfl, rfl, h0, r0⟩ := trodAll_cons hA
    obtain ⟨v1, vs1, d1, ds1, p1, q1, rfl, rfl, rfl, h1, r1⟩ := trodAll_cons r0
    obtain ⟨rfl, rfl, rfl⟩ := trodAll_nil r1
    obtain rfl : args = #[v0, v1] := by cases args; simp_all
    simp only [DataW.weightsEach, List.all_append, Bool.and_eq_true] at hw
    obtain ⟨avs, hv, hws⟩ := VM.open_arg (n := 12) (shs := VM.shMs) (by kernel_rfl) h0 hw.1
    obtain ⟨m, a, u, e, ha, hu⟩ := VM.wMs hws
    have hl0 := hws.length
    have hl : avs.length ≠ 1 := by simp at hl0; omega
    subst e
    obtain ⟨s, rfl, rfl, _, _⟩ := Go.ChangeMaps.open_string Try.underlying9 (hval 1 9 v1 rfl rfl) h1
    have hs := hw.2.1
    simp only [DataW.weights, List.all_cons, List.all_nil, Bool.and_true, decide_eq_true_eq] at hs
    obtain ⟨hb, hl2⟩ := VM.str_by hs
    exact (VM.messages_pu VM.pg ha hu hb hl2).calls (.cons (VM.open_agg hv hl) (.cons (.str s) .nil))
theorem over : Rows.messagesRow.holds Try.pinned (OpenSpec.ofChange Rows.messagesSpec) :=
  OpenClaim.holds_of_wide 6 Try.f6 rfl rfl rfl rfl rfl rfl rfl ⟨rfl, rfl, rfl, rfl, rfl⟩ rfl rfl rfl rfl rfl (by kernel_rfl) Try.func6 (by kernel_rfl)
    (of_decide_eq_true (by kernel_rfl)) (by unfold Func.isWrapper; first | (rw [if_pos (by decide +kernel)]; kernel_rfl) | (rw [if_neg (by decide +kernel)]; exact ⟨rfl, rfl⟩))
    (fun os started H enc _ => lifted os started H enc)
end Go.Proofs.Ytinonmcnofjeeaa.messages
namespace Go.Proofs.Ytinonmcnofjeeaa
theorem messages_holds : Rows.MessagesSaid := messages.over
#print axioms messages_holds
end Go.Proofs.Ytinonmcnofjeeaa
