/- Reshards: whatever the map, the change and the features the law answers true; the arguments read afterwards as before. Condition: what is read is of bulk at most 1048576. -/
import Derived.Test.YthmkenkjfmbkiaaRUe
import Derived.Test.YthmkenkjfmbkiaaRUTab
import Derived.Test.YthmkenkjfmbkiaaRUIns
import Derived.Test.YthmkenkjfmbkiaaRUUpl
import Derived.Lib.SmallJoins
namespace Go.Proofs.Ythmkenkjfmbkiaa.reshardsUpto
set_option linter.unusedSimpArgs false
set_option linter.unusedVariables false
set_option linter.defProp false
set_option maxHeartbeats 1000000
open Go.ChangeShapes Go.WideShapes Go.ChangeAt Go.RowKit Go.Joins
theorem own : ownKnob Try.prog.godebug = none := by kernel_rfl
set_option maxRecDepth 100000 in
theorem lifted (os : Os) (started : os.Started) (H : Type) (enc : TypeId × Value → H) (F : Stop.Interp) :
    ReturnsInHanded {} Try.checked os 3 .any ((Rows.OpenSpec.upto Rows.reshardsSpec).pre6 enc Try.prog Try.f3 Rows.reshardsUptoRow.domain false) (((Rows.OpenSpec.upto Rows.reshardsSpec).at F).post enc Try.prog Try.f3 false true false false) := by
  refine LawRow.liftedU (C := Try.checked) F own started (by kernel_rfl) Try.func3
    (OpenSpec.witness (enc := enc) (C := Try.checked) (s := (Rows.OpenSpec.upto Rows.reshardsSpec)) (k := Rows.uptoSmall) rfl false ⟨#[], #[.agg #[.int .i64 0, .slice none 0 0, .slice none 0 0], .int .i64 0, .agg #[.int .i64 0, .int .i64 0, .int .i64 0], .slice none 0 0], []⟩ 8 (by kernel_rfl) (by kernel_rfl) (by kernel_rfl)
      (x := ([.agg [.lit (.int .i64 0), .nil, .nil], .lit (.int .i64 0), .agg [.lit (.int .i64 0), .lit (.int .i64 0), .lit (.int .i64 0)], .nil], [], [])) (by kernel_rfl) rfl (by kernel_rfl))
    rfl (by kernel_rfl) (by kernel_rfl) (by kernel_rfl) Try.underlying4 ?_ ?_
  · intro ds hl
    rw [Try.params3] at hl
    match ds, hl with
    | [_, _, _, _], _ => rfl
  · intro W base args ds p hval hA hw hk
    rw [Try.params3] at hA hval hw
    obtain ⟨v0, vs0, d0, ds0, p0, q0, hargs, rfl, rfl, h0, r0⟩ := trodAll_cons hA
    obtain ⟨v1, vs1, d1, ds1, p1, q1, rfl, rfl, rfl, h1, r1⟩ := trodAll_cons r0
    obtain ⟨v2, vs2, d2, ds2, p2, q2, rfl, rfl, rfl, h2, r2⟩ := trodAll_cons r1
    obtain ⟨v3, vs3, d3, ds3, p3, q3, rfl, rfl, rfl, h3, r3⟩ := trodAll_cons r2
    obtain ⟨rfl, rfl, rfl⟩ := trodAll_nil r3
    obtain rfl : args = #[v0, v1, v2, v3] := by cases args; simp_all
    simp only [DataW.weightsEach, List.all_append, Bool.and_eq_true] at hw
    obtain ⟨avs0, hv0, hws0⟩ := VM.open_arg (n := 12) (shs := [.int .i64, .sl 8 [.int .i64], .sl 8 [.int .i64]]) (by kernel_rfl) h0 (hw.1)
    have hln0 : avs0.length ≠ 1 := by have := hws0.length; simp at this; omega
    obtain ⟨m, vv, uu, rfl, hv7, hu7, he7⟩  := VM.wMap hws0
    obtain ⟨a1, rfl, _, lo1, hi1⟩ := open_int Try.underlying3 (hval 1 3 v1 rfl rfl) h1
    obtain ⟨avs2, hv2, hws2⟩ := VM.open_arg (n := 12) (shs := [.int .i64, .int .i64, .int .i64]) (by kernel_rfl) h2 (hw.2.2.1)
    have hln2 : avs2.length ≠ 1 := by have := hws2.length; simp at this; omega
    obtain ⟨ck, ca, ct, rfl, c64a, c64t⟩  := VM.wC37 hws2
    obtain ⟨avs3, hv3, hws3⟩ := VM.open_arg (n := 12) (shs := [.sl 40 VM.shFeat]) (by kernel_rfl) h3 (hw.2.2.2.1)
    obtain ⟨w3, fs3, rfl, hw3⟩  := VM.wFeatsL hws3
    have hl3 := VM.len_bulk Try.underlying27 h3 hv3 hw3
    have hp3 : Rows.uptoBulk d3 ≤ Rows.uptoBulkAll [d0, d1, d2, d3] := LawRow.bulk_part (by simp)
    exact (VM.reshards_pu VM.pg VM.insOk he7 hv7 hu7 hw3 (by omega) a1 c64a c64t).calls (.cons (VM.open_agg hv0 hln0) (.cons (.int _ _) (.cons (VM.open_agg hv2 hln2) (.cons (VM.open_one Try.underlying27 (hval 3 27 v3 rfl rfl) hv3) .nil))))
theorem over : Rows.reshardsUptoRow.holds Try.pinned (Rows.OpenSpec.upto Rows.reshardsSpec) :=
  OpenClaim.holds_of_cond 3 Try.f3 rfl rfl rfl rfl rfl rfl rfl ⟨rfl, rfl, rfl, rfl, rfl⟩ rfl rfl rfl rfl rfl (by kernel_rfl) Try.func3 (by kernel_rfl)
    (of_decide_eq_true (by kernel_rfl)) (by unfold Func.isWrapper; first | (rw [if_pos (by decide +kernel)]; kernel_rfl) | (rw [if_neg (by decide +kernel)]; exact ⟨rfl, rfl⟩))
    (fun os started H enc _ F => lifted os started H enc F)
end Go.Proofs.Ythmkenkjfmbkiaa.reshardsUpto
namespace Go.Proofs.Ythmkenkjfmbkiaa
theorem reshardsUpto_holds : Rows.ReshardsUptoSaid := reshardsUpto.over
#print axioms reshardsUpto_holds
end Go.Proofs.Ythmkenkjfmbkiaa
