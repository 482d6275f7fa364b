/- Covers: whatever the box, the ranges and the place the law answers true; the arguments read afterwards as before. No condition. -/
import Derived.Test.YteaieinpnpnkbaaDVd
import Derived.Test.YteaieinpnpnkbaaDVTab
import Derived.Test.YteaieinpnpnkbaaDVSrt
import Derived.Lib.SmallJoins
namespace Go.Proofs.Yteaieinpnpnkbaa.covers
set_option linter.unusedSimpArgs false
set_option linter.unusedVariables false
set_option linter.defProp false
set_option maxHeartbeats 1000000
open Go.ChangeShapes Go.WideShapes Go.ChangeAt Go.RowKit Go.Joins
theorem own : ownKnob Try.prog.godebug = none := by kernel_rfl
set_option maxRecDepth 100000 in
theorem lifted (os : Os) (started : os.Started) (H : Type) (enc : TypeId × Value → H) :
    ReturnsInHanded {} Try.checked os 3 .any (Rows.coversSpec.pre6 enc Try.prog Try.f3 Rows.coversRow.domain false) (Rows.coversSpec.post enc Try.prog Try.f3 false true false false) := by
  refine LawRow.lifted (C := Try.checked) own started (by kernel_rfl) Try.func3
    (ChangeSpec.witness6 (enc := enc) (C := Try.checked) false ⟨#[], #[.agg #[.int .i64 0, .int .i64 0, .int .i64 0, .int .i64 0], .slice none 0 0, .slice none 0 0, .int .i64 0], []⟩ 8 (by kernel_rfl) (by kernel_rfl) (by kernel_rfl) (by kernel_rfl))
    rfl (by kernel_rfl) (by kernel_rfl) (by kernel_rfl) Try.underlying4 ?_ ?_
  · intro ds hl
    rw [Try.params3] at hl
    match ds, hl with
    | [_, _, _, _], _ => rfl
  · intro W base args ds p hval hA hw
    rw [Try.params3] at hA hval hw
    obtain ⟨v0, vs0, d0, ds0, p0, q0, hargs, rfl, rfl, h0, r0⟩ := trodAll_cons hA
    obtain ⟨v1, vs1, d1, ds1, p1, q1, rfl, rfl, rfl, h1, r1⟩ := trodAll_cons r0
    obtain ⟨v2, vs2, d2, ds2, p2, q2, rfl, rfl, rfl, h2, r2⟩ := trodAll_cons r1
    obtain ⟨v3, vs3, d3, ds3, p3, q3, rfl, rfl, rfl, h3, r3⟩ := trodAll_cons r2
    obtain ⟨rfl, rfl, rfl⟩ := trodAll_nil r3
    obtain rfl : args = #[v0, v1, v2, v3] := by cases args; simp_all
    simp only [DataW.weightsEach, List.all_append, Bool.and_eq_true] at hw
    obtain ⟨avs0, hv0, hws0⟩ := VM.open_arg (n := 12) (shs := [.int .i64, .int .i64, .int .i64, .int .i64]) (by kernel_rfl) h0 (hw.1)
    have hln0 : avs0.length ≠ 1 := by have := hws0.length; simp at this; omega
    obtain ⟨x0, y0, z0, t0, rfl⟩  := VM.wB4 hws0
    obtain ⟨avs1, hv1, hws1⟩ := VM.open_arg (n := 12) (shs := [.sl 16 [.int .i64, .int .i64]]) (by kernel_rfl) h1 (hw.2.1)
    obtain ⟨k1, u1, rfl, hk1⟩  := VM.wRgs hws1
    obtain ⟨avs2, hv2, hws2⟩ := VM.open_arg (n := 12) (shs := [.sl 16 [.int .i64, .int .i64]]) (by kernel_rfl) h2 (hw.2.2.1)
    obtain ⟨k2, u2, rfl, hk2⟩  := VM.wRgs hws2
    obtain ⟨a3, rfl, _, lo3, hi3⟩ := open_int Try.underlying3 (hval 3 3 v3 rfl rfl) h3
    exact (VM.covers_pu VM.pg VM.sortIok VM.sortEok hk1 hk2 x0 y0 z0 t0 a3).calls (.cons (VM.open_agg hv0 hln0) (.cons (VM.open_one Try.underlying24 (hval 1 24 v1 rfl rfl) hv1) (.cons (VM.open_one Try.underlying24 (hval 2 24 v2 rfl rfl) hv2) (.cons (.int _ _) .nil))))
theorem over : Rows.coversRow.holds Try.pinned (OpenSpec.ofChange Rows.coversSpec) :=
  OpenClaim.holds_of_wide 3 Try.f3 rfl rfl rfl rfl rfl rfl rfl ⟨rfl, rfl, rfl, rfl, rfl⟩ rfl rfl rfl rfl rfl (by kernel_rfl) Try.func3 (by kernel_rfl)
    (of_decide_eq_true (by kernel_rfl)) (by unfold Func.isWrapper; first | (rw [if_pos (by decide +kernel)]; kernel_rfl) | (rw [if_neg (by decide +kernel)]; exact ⟨rfl, rfl⟩))
    (fun os started H enc _ => lifted os started H enc)
end Go.Proofs.Yteaieinpnpnkbaa.covers
namespace Go.Proofs.Yteaieinpnpnkbaa
theorem covers_holds : Rows.CoversSaid := covers.over
#print axioms covers_holds
end Go.Proofs.Yteaieinpnpnkbaa
