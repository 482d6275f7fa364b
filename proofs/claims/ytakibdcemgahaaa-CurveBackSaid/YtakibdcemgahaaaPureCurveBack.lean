/- CurveBack: for every input the law answers true. No condition. -/
import Derived.Test.YtakibdcemgahaaaCurveGo
namespace Go.Proofs.Ytakibdcemgahaaa.Pure
open Go.RowKit Go.Proofs.Ytakibdcemgahaaa.QC Go.Proofs.YtakibdcemgahaaaW.PrintWords Go.Proofs.YtakibdcemgahaaaW.PrintLast Go.Proofs.Ytakibdcemgahaaa.Hil Go.Proofs.Ytakibdcemgahaaa.CurveGo

theorem CurveBack : furlonglaw5_CurveBack.Pure := by
  intro a _
  refine ⟨20, ?_⟩
  obtain ⟨d, hd, e⟩ := and_any a
  unfold furlonglaw5_CurveBack.f
  rw [awake_ok (by decide), e, dec_ok hd (by decide)]
  have hl := hdec_lt 16 d
  have hc := cell_dec 16 d
  have e1 : (((hdec 16 d).1 : Int) * 65536 / 65536).toNat = (hdec 16 d).1 := by omega
  have e2 : (((hdec 16 d).2 : Int) * 65536 / 65536).toNat = (hdec 16 d).2 := by omega
  have he := enc_ok (k := 20) (x := ((hdec 16 d).1 : Int) * 65536) (y := ((hdec 16 d).2 : Int) * 65536) (by omega) (by decide)
  rw [e1, e2, hc, Nat.mod_eq_of_lt hd] at he
  simp only [Option.bind_some, if_true]
  rw [he]
  simp only [Option.bind_some, furlonglaw0_Num.f, if_true]
  have t1 : Int.tmod (((hdec 16 d).1 : Int) * 65536) 65536 = 0 := Int.mul_tmod_left _ _
  have t2 : Int.tmod (((hdec 16 d).2 : Int) * 65536) 65536 = 0 := Int.mul_tmod_left _ _
  rw [t1, t2]
  simp only [if_true]
  simp only [furlonglaw5_CurveBack.j0]
  rw [if_neg (by decide), w64 (by omega) (by omega)]
  by_cases hq : (d : Int) + 1 = 4294967296
  · rw [if_pos hq]
  · rw [if_neg hq]
    have ed : (d : Int) + 1 = ((d + 1 : Nat) : Int) := by push_cast; rfl
    have hn := dec_near 16 d (by omega)
    have hl2 := hdec_lt 16 (d + 1)
    rw [ed, dec_ok (by omega) (by decide)]
    simp only [Option.bind_some, furlonglaw0_Num.f, if_true]
    generalize hdec 16 (d + 1) = q at *
    generalize hdec 16 d = p at *
    obtain ⟨a, b⟩ := p
    obtain ⟨u, v⟩ := q
    simp only at hl hl2 hn ⊢
    unfold near at hn
    simp only at hn
    rw [w64 (n := (u : Int) * 65536 - _) (by omega) (by omega), w64 (n := (v : Int) * 65536 - _) (by omega) (by omega), ← Int.sub_mul, ← Int.sub_mul,
      Int.mul_tdiv_cancel _ (by decide), Int.mul_tdiv_cancel _ (by decide), w64 (n := (u : Int) - a) (by omega) (by omega), w64 (n := (v : Int) - b) (by omega) (by omega)]
    rcases hn with ⟨rfl, h | h⟩ | ⟨rfl, h | h⟩ <;> subst h
    · have c1 : (a : Int) - a = 0 := by omega
      have c2 : (v : Int) - ((v + 1 : Nat) : Int) = -1 := by omega
      rw [c1, c2]; decide +kernel
    · have c1 : (a : Int) - a = 0 := by omega
      have c2 : ((b + 1 : Nat) : Int) - (b : Int) = 1 := by omega
      rw [c1, c2]; decide +kernel
    · have c1 : (b : Int) - b = 0 := by omega
      have c2 : (u : Int) - ((u + 1 : Nat) : Int) = -1 := by omega
      rw [c1, c2]; decide +kernel
    · have c1 : (b : Int) - b = 0 := by omega
      have c2 : ((a + 1 : Nat) : Int) - (a : Int) = 1 := by omega
      rw [c1, c2]; decide +kernel
end Go.Proofs.Ytakibdcemgahaaa.Pure
