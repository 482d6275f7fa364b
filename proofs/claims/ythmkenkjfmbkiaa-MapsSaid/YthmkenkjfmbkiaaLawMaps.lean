/- Maps: whatever the map, the change, the ranges, the feature the law answers true; the arguments read afterwards as before. No condition. -/
import Derived.Test.YthmkenkjfmbkiaaMPf
import Derived.Test.YthmkenkjfmbkiaaMPTab
import Derived.Test.YthmkenkjfmbkiaaMPIns
import Derived.Test.YthmkenkjfmbkiaaMPSrt
import Derived.Lib.SmallJoins
namespace Go.Proofs.Ythmkenkjfmbkiaa.maps
set_option linter.unusedSimpArgs false
set_option linter.unusedVariables false
set_option linter.defProp false
set_option maxHeartbeats 1000000
open Go.ChangeShapes Go.WideShapes Go.ChangeAt Go.RowKit Go.Joins
theorem own : ownKnob Try.prog.godebug = none := by kernel_rfl
set_option maxRecDepth 100000 in
theorem lifted (os : Os) (started : os.Started) (H : Type) (enc : TypeId × Value → H) :
    ReturnsInHanded {} Try.checked os 11 .any (Rows.mapsSpec.pre6 enc Try.prog Try.f11 Rows.mapsRow.domain false) (Rows.mapsSpec.post enc Try.prog Try.f11 false true false false) := by
  refine LawRow.lifted (C := Try.checked) own started (by kernel_rfl) Try.func11
    (ChangeSpec.witness6 (enc := enc) (C := Try.checked) false ⟨#[], #[.agg #[.int .i64 0, .slice none 0 0, .slice none 0 0], .int .i64 0, .int .i64 0, .slice none 0 0, .agg #[.int .i64 0, .int .i64 0, .int .i64 0], .int .i64 0, .agg #[.int .i64 0, .int .i64 0, .slice none 0 0]], []⟩ 8 (by kernel_rfl) (by kernel_rfl) (by kernel_rfl) (by kernel_rfl))
    rfl (by kernel_rfl) (by kernel_rfl) (by kernel_rfl) Try.underlying4 ?_ ?_
  · intro ds hl
    rw [Try.params11] at hl
    match ds, hl with
    | [_, _, _, _, _, _, _], _ => rfl
  · intro W base args ds p hval hA hw
    rw [Try.params11] at hA hval hw
    obtain ⟨v0, vs0, d0, ds0, p0, q0, hargs, rfl, rfl, h0, r0⟩ := trodAll_cons hA
    obtain ⟨v1, vs1, d1, ds1, p1, q1, rfl, rfl, rfl, h1, r1⟩ := trodAll_cons r0
    obtain ⟨v2, vs2, d2, ds2, p2, q2, rfl, rfl, rfl, h2, r2⟩ := trodAll_cons r1
    obtain ⟨v3, vs3, d3, ds3, p3, q3, rfl, rfl, rfl, h3, r3⟩ := trodAll_cons r2
    obtain ⟨v4, vs4, d4, ds4, p4, q4, rfl, rfl, rfl, h4, r4⟩ := trodAll_cons r3
    obtain ⟨v5, vs5, d5, ds5, p5, q5, rfl, rfl, rfl, h5, r5⟩ := trodAll_cons r4
    obtain ⟨v6, vs6, d6, ds6, p6, q6, rfl, rfl, rfl, h6, r6⟩ := trodAll_cons r5
    obtain ⟨rfl, rfl, rfl⟩ := trodAll_nil r6
    obtain rfl : args = #[v0, v1, v2, v3, v4, v5, v6] := by cases args; simp_all
    simp only [DataW.weightsEach, List.all_append, Bool.and_eq_true] at hw
    obtain ⟨avs0, hv0, hws0⟩ := VM.open_arg (n := 12) (shs := [.int .i64, .sl 8 [.int .i64], .sl 8 [.int .i64]]) (by kernel_rfl) h0 (hw.1)
    have hln0 : avs0.length ≠ 1 := by have := hws0.length; simp at this; omega
    obtain ⟨m, vv, uu, rfl, hv7, hu7, he7⟩  := VM.wMap hws0
    obtain ⟨a1, rfl, _, lo1, hi1⟩ := open_int Try.underlying3 (hval 1 3 v1 rfl rfl) h1
    obtain ⟨a2, rfl, _, lo2, hi2⟩ := open_int Try.underlying3 (hval 2 3 v2 rfl rfl) h2
    obtain ⟨avs3, hv3, hws3⟩ := VM.open_arg (n := 12) (shs := [.sl 16 [.int .i64, .int .i64]]) (by kernel_rfl) h3 (hw.2.2.2.1)
    obtain ⟨k3, u3, rfl, hk3⟩  := VM.wRgs7 hws3
    obtain ⟨avs4, hv4, hws4⟩ := VM.open_arg (n := 12) (shs := [.int .i64, .int .i64, .int .i64]) (by kernel_rfl) h4 (hw.2.2.2.2.1)
    have hln4 : avs4.length ≠ 1 := by have := hws4.length; simp at this; omega
    obtain ⟨ck, ca, ct, rfl, c64a, c64t⟩  := VM.wC37 hws4
    obtain ⟨a5, rfl, _, lo5, hi5⟩ := open_int Try.underlying3 (hval 5 3 v5 rfl rfl) h5
    obtain ⟨avs6, hv6, hws6⟩ := VM.open_arg (n := 12) (shs := VM.shFeat) (by kernel_rfl) h6 (hw.2.2.2.2.2.2.1)
    have hln6 : avs6.length ≠ 1 := by have := hws6.length; simp at this; omega
    obtain ⟨ff, fv, rfl, hf6⟩  := VM.wF37 hws6
    exact (VM.maps_pu VM.pg VM.insOk VM.sortIok he7 hv7 hu7 a1 a2 hk3 c64a c64t a5 hf6).calls (.cons (VM.open_agg hv0 hln0) (.cons (.int _ _) (.cons (.int _ _) (.cons (VM.open_one Try.underlying80 (hval 3 80 v3 rfl rfl) hv3) (.cons (VM.open_agg hv4 hln4) (.cons (.int _ _) (.cons (VM.open_agg hv6 hln6) .nil)))))))
theorem over : Rows.mapsRow.holds Try.pinned (OpenSpec.ofChange Rows.mapsSpec) :=
  OpenClaim.holds_of_wide 11 Try.f11 rfl rfl rfl rfl rfl rfl rfl ⟨rfl, rfl, rfl, rfl, rfl⟩ rfl rfl rfl rfl rfl (by kernel_rfl) Try.func11 (by kernel_rfl)
    (of_decide_eq_true (by kernel_rfl)) (by unfold Func.isWrapper; first | (rw [if_pos (by decide +kernel)]; kernel_rfl) | (rw [if_neg (by decide +kernel)]; exact ⟨rfl, rfl⟩))
    (fun os started H enc _ => lifted os started H enc)
end Go.Proofs.Ythmkenkjfmbkiaa.maps
namespace Go.Proofs.Ythmkenkjfmbkiaa
theorem maps_holds : Rows.MapsSaid := maps.over
#print axioms maps_holds
end Go.Proofs.Ythmkenkjfmbkiaa
