/- Part of a proof: what stands for the program, and its walk. No condition. -/
import Derived.Below
import Derived.ChangeArms
import Derived.ChangeMaps5
import Derived.KernelRfl
import Derived.Laws.Cells
import Derived.Laws.IdiomCopy
import Derived.MapKept
import Derived.Orders
import Derived.SizedLaws
import Derived.WalkKit
import Derived.WalkLawsBesides
import GoSem.Claim
import Derived.Test.YtinonmcnofjeeaaL16Msge
set_option linter.unusedSimpArgs false
set_option linter.unusedVariables false
set_option linter.defProp false
set_option maxHeartbeats 1000000
namespace Go.Proofs.Ytinonmcnofjeeaa.VM
attribute [local irreducible] Af Nx EvO Ev Un Gd Cd EvR EvQ EvC Nc Gc Lp EvM NxM AfM GdM EvMR EvMQ EvMD EvMC Nm Gm
def c27 (n : Nat) : VCode := blk n v27.body
abbrev zMs : List AV := [.int .i64 0, .int .i64 0, .int .i64 0, .int .i64 0, .int .i64 0, .int .i64 0, .bool false, .int .i64 0, .int .i64 0, .bool false, .int .i64 0, .int .i64 0, .int .i64 0, .int .i64 0, .nils, .nils]
/-- blocks of the message's rows -/
def GB (h0 : Heap) (n b : Nat) : Prop := h0.next < b ∧ b ≠ n ∧ b ≠ h0.next + 1
/-- what stands while a message is read -/
structure GS (K : Int) (h0 : Heap) (n : Nat) (lo : List Op) (lf : List Feat) (c : List AV) (t : List Nat) (h : Heap) : Prop where
  rp : RP (h0.next + 1) t h
  z : h.get h0.next = some (.cells zMs 63 0)
  m : ∃ e ver, h.get n = some (.cells c e ver)
  r : ∃ e ver, h.get (n + 1) = some (.cells [.bool (kTx K), .bool (kOps K), .bool (kYes K), .bool (kQuery K), .bool (kPart K)] e ver)
  k : ∀ b, b < h0.next → h.get b = h0.get b
  n1 : n + 1 < h.next
  n0 : h0.next + 1 < n
  lo : Lv h (GB h0 n) (c.getD 14 .undef) (cOpsL lo)
  lf : Lv h (GB h0 n) (c.getD 15 .undef) (cFeats lf)
section
variable {K : Int} {h0 : Heap} {n : Nat} {lo lo' : List Op} {lf lf' : List Feat} {c c' : List AV} {t t' : List Nat} {h h' : Heap} {e ver : Nat}
theorem GS.read (s : GS K h0 n lo lf c t h) (rp : RP (h0.next + 1) t' h') (x : ExtX (h0.next + 1) h h') : GS K h0 n lo lf c t' h' := by
  have := s.n1
  have := s.n0
  have := x.1
  obtain ⟨e, v, m⟩ := s.m
  obtain ⟨e2, v2, r⟩ := s.r
  exact ⟨rp, (x.2 _ (by omega) (by omega)).trans s.z, ⟨e, v, (x.2 _ (by omega) (by omega)).trans m⟩, ⟨e2, v2, (x.2 _ (by omega) (by omega)).trans r⟩, fun b hb => (x.2 b (by omega) (by omega)).trans (s.k b hb), by omega, by omega,
    s.lo.frame x.1 fun b hb hl => x.2 b hl hb.2.2, s.lf.frame x.1 fun b hb hl => x.2 b hl hb.2.2⟩
theorem GS.put2 (s : GS K h0 n lo lf c t h) (ho : Lv h (GB h0 n) (c'.getD 14 .undef) (cOpsL lo')) (hf : Lv h (GB h0 n) (c'.getD 15 .undef) (cFeats lf')) : GS K h0 n lo' lf' c' t (h.put n (.cells c' e ver)) := by
  have := s.n1
  have := s.n0
  obtain ⟨e2, v2, r⟩ := s.r
  exact ⟨s.rp.frame (by rw [put_next]; exact Nat.le_refl _) (by rw [Heap.get_put, if_neg (by omega)]), by rw [Heap.get_put, if_neg (by omega)]; exact s.z, ⟨e, ver, by rw [Heap.get_put, if_pos rfl]⟩, ⟨e2, v2, by rw [Heap.get_put, if_neg (by omega)]; exact r⟩, fun b hb => by rw [Heap.get_put, if_neg (by omega)]; exact s.k b hb, by rw [put_next]; omega, by omega,
    ho.put (fun e => e.2.1 rfl) _, hf.put (fun e => e.2.1 rfl) _⟩
theorem GS.keep (s : GS K h0 n lo lf c t h) (rp : RP (h0.next + 1) t' h') (hm : ∃ e ver, h'.get n = some (.cells c' e ver)) (kx : ∀ b, b < h.next → b ≠ h0.next + 1 → b ≠ n → h'.get b = h.get b) (nx : h.next ≤ h'.next)
    (h1 : c'.getD 14 .undef = c.getD 14 .undef) (hf : Lv h' (GB h0 n) (c'.getD 15 .undef) (cFeats lf')) : GS K h0 n lo lf' c' t' h' := by
  have := s.n1
  have := s.n0
  obtain ⟨e2, v2, r⟩ := s.r
  exact ⟨rp, (kx _ (by omega) (by omega) (by omega)).trans s.z, hm, ⟨e2, v2, (kx _ (by omega) (by omega) (by omega)).trans r⟩, fun b hb => (kx b (by omega) (by omega) (by omega)).trans (s.k b hb), by omega, by omega, by rw [h1]; exact s.lo.frame nx fun b hb hl => kx b hl hb.2.2 hb.2.1, hf⟩
theorem GS.put (s : GS K h0 n lo lf c t h) (h1 : c'.getD 14 .undef = c.getD 14 .undef) (h2 : c'.getD 15 .undef = c.getD 15 .undef) : GS K h0 n lo lf c' t (h.put n (.cells c' e ver)) := s.put2 (by rw [h1]; exact s.lo) (by rw [h2]; exact s.lf)
end
/-- the slots that stay -/
def GT (h0 : Heap) (n : Nat) (S : List Nat) (s : T AV) : Prop := sg s 0 = .str S ∧ sg s 2 = .ptr h0.next 0 ∧ sg s 4 = .ptr (h0.next + 1) 0 ∧ sg s 5 = .ptr n 0 ∧ sg s 6 = .ptr (n + 1) 0
section
variable {P : Program} {K : Int} {h0 : Heap} {n : Nat} {lo : List Op} {lf : List Feat} {S t : List Nat} {s : T AV} {h : Heap} {k : List Fr} {Q : Ex → T AV → Heap → Prop}
theorem g_tx (g : Pg P tab) (gt : GT h0 n S s) {c0 c1 c2 c5 c6 c7 c8 c9 c10 c11 c12 c13 c14 c15 : AV} (gs : GS K h0 n lo lf [c0, c1, c2, .int .i64 0, .int .i64 0, c5, c6, c7, c8, c9, c10, c11, c12, c13, c14, c15] t h)
    (hK : ∀ s' h', GT h0 n S s' → GS K h0 n lo lf [c0, c1, c2, .int .i64 (rdTx K t).1.1, .int .i64 (rdTx K t).1.2, c5, c6, c7, c8, c9, c10, c11, c12, c13, c14, c15] (rdTx K t).2 h' → Un P k Q .normal s' h') : Ev P (c27 5) s h (Un P k Q) := by
  obtain ⟨t0, t2, t4, t5, t6⟩ := gt
  obtain ⟨er, vr, hr⟩ := gs.r
  unfold rdTx at hK
  simp only [c27, v27, blk, t6, hr, RX, VOp.fresh, bxC, bsC, un, most, callsOf, seval, Int.reducePow, ↓reduceIte, Nat.reduceEqDiff, reduceCtorEq]
  cases hk : kTx K with
  | false =>
    rw [hk] at hK
    simp only [Bool.false_eq_true, if_false] at hK
    simp only [RX, VOp.fresh, bxC, bsC, un, most, callsOf, seval, Int.reducePow, ↓reduceIte, Nat.reduceEqDiff, reduceCtorEq]
    exact hK _ _ ⟨by simp only [t0, sg_set, Nat.reduceEqDiff, ↓reduceIte], by simp only [t2, sg_set, Nat.reduceEqDiff, ↓reduceIte], by simp only [t4, sg_set, Nat.reduceEqDiff, ↓reduceIte], by simp only [t5, sg_set, Nat.reduceEqDiff, ↓reduceIte], by simp only [t6, sg_set, Nat.reduceEqDiff, ↓reduceIte]⟩ gs
  | true =>
    rw [hk] at hK
    simp only [if_true] at hK
    simp only [t4, RX, VOp.fresh, bxC, bsC, un, most, callsOf, seval, Int.reducePow, ↓reduceIte, Nat.reduceEqDiff, reduceCtorEq]
    refine rd_name g gs.rp fun h2 rp2 x2 => ?_
    have gs2 := gs.read rp2 x2
    obtain ⟨e2, v2, hm⟩ := gs2.m
    simp only [t5, hm, RW, RX, VOp.fresh, bxC, bsC, un, most, callsOf, seval, Int.reducePow, ↓reduceIte, Nat.reduceEqDiff, reduceCtorEq]
    exact hK _ _ ⟨by simp only [t0, sg_set, Nat.reduceEqDiff, ↓reduceIte], by simp only [t2, sg_set, Nat.reduceEqDiff, ↓reduceIte], by simp only [t4, sg_set, Nat.reduceEqDiff, ↓reduceIte], by simp only [t5, sg_set, Nat.reduceEqDiff, ↓reduceIte], by simp only [t6, sg_set, Nat.reduceEqDiff, ↓reduceIte]⟩ (gs2.put rfl rfl)
theorem g_yes (g : Pg P tab) (gt : GT h0 n S s) {c0 c1 c2 c3 c4 c5 c7 c8 c9 c10 c11 c12 c13 c14 c15 : AV} (gs : GS K h0 n lo lf [c0, c1, c2, c3, c4, c5, .bool false, c7, c8, c9, c10, c11, c12, c13, c14, c15] t h)
    (hK : ∀ s' h', GT h0 n S s' → GS K h0 n lo lf [c0, c1, c2, c3, c4, c5, .bool (rdY K t).1, c7, c8, c9, c10, c11, c12, c13, c14, c15] (rdY K t).2 h' → Un P k Q .normal s' h') : Ev P (c27 7) s h (Un P k Q) := by
  obtain ⟨t0, t2, t4, t5, t6⟩ := gt
  obtain ⟨er, vr, hr⟩ := gs.r
  unfold rdY at hK
  simp only [c27, v27, blk, t6, hr, RX, VOp.fresh, bxC, bsC, un, most, callsOf, seval, Int.reducePow, ↓reduceIte, Nat.reduceEqDiff, reduceCtorEq]
  cases hk : kYes K with
  | false =>
    rw [hk] at hK
    simp only [Bool.false_eq_true, if_false] at hK
    simp only [RX, VOp.fresh, bxC, bsC, un, most, callsOf, seval, Int.reducePow, ↓reduceIte, Nat.reduceEqDiff, reduceCtorEq]
    exact hK _ _ ⟨by simp only [t0, sg_set, Nat.reduceEqDiff, ↓reduceIte], by simp only [t2, sg_set, Nat.reduceEqDiff, ↓reduceIte], by simp only [t4, sg_set, Nat.reduceEqDiff, ↓reduceIte], by simp only [t5, sg_set, Nat.reduceEqDiff, ↓reduceIte], by simp only [t6, sg_set, Nat.reduceEqDiff, ↓reduceIte]⟩ gs
  | true =>
    rw [hk] at hK
    simp only [if_true] at hK
    simp only [t4, RX, VOp.fresh, bxC, bsC, un, most, callsOf, seval, Int.reducePow, ↓reduceIte, Nat.reduceEqDiff, reduceCtorEq]
    refine rd_bool g gs.rp fun h2 rp2 x2 => ?_
    have gs2 := gs.read rp2 x2
    obtain ⟨e2, v2, hm⟩ := gs2.m
    simp only [t5, hm, RW, RX, VOp.fresh, bxC, bsC, un, most, callsOf, seval, Int.reducePow, ↓reduceIte, Nat.reduceEqDiff, reduceCtorEq]
    exact hK _ _ ⟨by simp only [t0, sg_set, Nat.reduceEqDiff, ↓reduceIte], by simp only [t2, sg_set, Nat.reduceEqDiff, ↓reduceIte], by simp only [t4, sg_set, Nat.reduceEqDiff, ↓reduceIte], by simp only [t5, sg_set, Nat.reduceEqDiff, ↓reduceIte], by simp only [t6, sg_set, Nat.reduceEqDiff, ↓reduceIte]⟩ (gs2.put rfl rfl)
theorem g_q (g : Pg P tab) (gt : GT h0 n S s) {c0 c1 c2 c3 c4 c5 c6 c8 c9 c14 c15 : AV} (gs : GS K h0 n lo lf [c0, c1, c2, c3, c4, c5, c6, .int .i64 0, c8, c9, .int .i64 0, .int .i64 0, .int .i64 0, .int .i64 0, c14, c15] t h)
    (hK : ∀ s' h', GT h0 n S s' → GS K h0 n lo lf [c0, c1, c2, c3, c4, c5, c6, .int .i64 (rdQ K t).1.1, c8, c9, .int .i64 (rdQ K t).1.2.x0, .int .i64 (rdQ K t).1.2.y0, .int .i64 (rdQ K t).1.2.x1, .int .i64 (rdQ K t).1.2.y1, c14, c15] (rdQ K t).2 h' → Un P k Q .normal s' h') : Ev P (c27 8) s h (Un P k Q) := by
  obtain ⟨t0, t2, t4, t5, t6⟩ := gt
  obtain ⟨er, vr, hr⟩ := gs.r
  unfold rdQ at hK
  simp only [c27, v27, blk, t6, hr, RX, VOp.fresh, bxC, bsC, un, most, callsOf, seval, Int.reducePow, ↓reduceIte, Nat.reduceEqDiff, reduceCtorEq]
  cases hk : kQuery K with
  | false =>
    rw [hk] at hK
    simp only [Bool.false_eq_true, if_false] at hK
    simp only [RX, VOp.fresh, bxC, bsC, un, most, callsOf, seval, Int.reducePow, ↓reduceIte, Nat.reduceEqDiff, reduceCtorEq]
    exact hK _ _ ⟨by simp only [t0, sg_set, Nat.reduceEqDiff, ↓reduceIte], by simp only [t2, sg_set, Nat.reduceEqDiff, ↓reduceIte], by simp only [t4, sg_set, Nat.reduceEqDiff, ↓reduceIte], by simp only [t5, sg_set, Nat.reduceEqDiff, ↓reduceIte], by simp only [t6, sg_set, Nat.reduceEqDiff, ↓reduceIte]⟩ gs
  | true =>
    rw [hk] at hK
    simp only [if_true] at hK
    simp only [t4, RX, VOp.fresh, bxC, bsC, un, most, callsOf, seval, Int.reducePow, ↓reduceIte, Nat.reduceEqDiff, reduceCtorEq]
    refine rnum_cl g (N := 2) (by decide) gs.rp fun h2 rp2 x2 => ?_
    have gs2 := gs.read rp2 x2.x
    obtain ⟨e2, v2, hm⟩ := gs2.m
    simp only [t4, t5, hm, RW, RX, VOp.fresh, bxC, bsC, un, most, callsOf, seval, Int.reducePow, ↓reduceIte, Nat.reduceEqDiff, reduceCtorEq]
    have gs3 := gs2.put (c' := [c0, c1, c2, c3, c4, c5, c6, .int .i64 (rdN 2 t).1, c8, c9, .int .i64 0, .int .i64 0, .int .i64 0, .int .i64 0, c14, c15]) (e := e2) (ver := v2 + 1) rfl rfl
    generalize h2.put n (.cells [c0, c1, c2, c3, c4, c5, c6, .int .i64 (rdN 2 t).1, c8, c9, .int .i64 0, .int .i64 0, .int .i64 0, .int .i64 0, c14, c15] e2 (v2 + 1)) = h3 at *
    refine rnum_cl g (N := 4) (by decide) gs3.rp fun h4 rp4 x4 => ?_
    have gs4 := gs3.read rp4 x4.x
    simp only [t4, RX, VOp.fresh, bxC, bsC, un, most, callsOf, seval, Int.reducePow, ↓reduceIte, Nat.reduceEqDiff, reduceCtorEq]
    refine rnum_cl g (N := 4) (by decide) gs4.rp fun h5 rp5 x5 => ?_
    have gs5 := gs4.read rp5 x5.x
    simp only [t4, RX, VOp.fresh, bxC, bsC, un, most, callsOf, seval, Int.reducePow, ↓reduceIte, Nat.reduceEqDiff, reduceCtorEq]
    refine rnum_cl g (N := 4) (by decide) gs5.rp fun h6 rp6 x6 => ?_
    have gs6 := gs5.read rp6 x6.x
    simp only [t4, RX, VOp.fresh, bxC, bsC, un, most, callsOf, seval, Int.reducePow, ↓reduceIte, Nat.reduceEqDiff, reduceCtorEq]
    refine rnum_cl g (N := 4) (by decide) gs6.rp fun h7 rp7 x7 => ?_
    have gs7 := gs6.read rp7 x7.x
    obtain ⟨e7, v7, hm7⟩ := gs7.m
    simp only [t5, hm7, RW, RX, VOp.fresh, bxC, bsC, un, most, callsOf, seval, Int.reducePow, ↓reduceIte, Nat.reduceEqDiff, reduceCtorEq]
    exact hK _ _ ⟨by simp only [t0, sg_set, Nat.reduceEqDiff, ↓reduceIte], by simp only [t2, sg_set, Nat.reduceEqDiff, ↓reduceIte], by simp only [t4, sg_set, Nat.reduceEqDiff, ↓reduceIte], by simp only [t5, sg_set, Nat.reduceEqDiff, ↓reduceIte], by simp only [t6, sg_set, Nat.reduceEqDiff, ↓reduceIte]⟩ (gs7.put rfl rfl)
theorem g_ops (g : Pg P tab) (gt : GT h0 n S s) {c0 c1 c2 c3 c4 c6 c7 c8 c9 c10 c11 c12 c13 c15 : AV} (gs : GS K h0 n [] lf [c0, c1, c2, c3, c4, .int .i64 0, c6, c7, c8, c9, c10, c11, c12, c13, .nils, c15] t h)
    (hK : ∀ s' h' av, GT h0 n S s' → GS K h0 n (rdBO K t).1.2 lf [c0, c1, c2, c3, c4, .int .i64 (rdBO K t).1.1, c6, c7, c8, c9, c10, c11, c12, c13, av, c15] (rdBO K t).2 h' → Un P k Q .normal s' h') : Ev P (c27 6) s h (Un P k Q) := by
  obtain ⟨t0, t2, t4, t5, t6⟩ := gt
  obtain ⟨er, vr, hr⟩ := gs.r
  unfold rdBO at hK
  simp only [c27, v27, blk, t6, hr, RX, VOp.fresh, bxC, bsC, un, most, callsOf, seval, Int.reducePow, ↓reduceIte, Nat.reduceEqDiff, reduceCtorEq]
  cases hk : kOps K with
  | false =>
    rw [hk] at hK
    simp only [Bool.false_eq_true, if_false] at hK
    simp only [RX, VOp.fresh, bxC, bsC, un, most, callsOf, seval, Int.reducePow, ↓reduceIte, Nat.reduceEqDiff, reduceCtorEq]
    exact hK _ _ .nils ⟨by simp only [t0, sg_set, Nat.reduceEqDiff, ↓reduceIte], by simp only [t2, sg_set, Nat.reduceEqDiff, ↓reduceIte], by simp only [t4, sg_set, Nat.reduceEqDiff, ↓reduceIte], by simp only [t5, sg_set, Nat.reduceEqDiff, ↓reduceIte], by simp only [t6, sg_set, Nat.reduceEqDiff, ↓reduceIte]⟩ gs
  | true =>
    rw [hk] at hK
    simp only [if_true] at hK
    simp only [t4, RX, VOp.fresh, bxC, bsC, un, most, callsOf, seval, Int.reducePow, ↓reduceIte, Nat.reduceEqDiff, reduceCtorEq]
    refine rd_ops g gs.rp fun v h2 r2 rp2 x2 => ?_
    have gs2 := gs.read rp2 x2
    obtain ⟨e2, v2, hm⟩ := gs2.m
    have gn := gs.n1
    have g0 := gs.n0
    have lv := ((lv_opsL r2).weak (B' := GB h0 n) fun b hb _ => ⟨by omega, by omega, by omega⟩).put (b := n) (fun e => e.2.1 rfl) (.cells [c0, c1, c2, c3, c4, .int .i64 ((rdN 4 t).1 - 1), c6, c7, c8, c9, c10, c11, c12, c13, .nils, c15] e2 (v2 + 1))
    have gs3 := gs2.put (c' := [c0, c1, c2, c3, c4, .int .i64 ((rdN 4 t).1 - 1), c6, c7, c8, c9, c10, c11, c12, c13, .nils, c15]) (e := e2) (ver := v2 + 1) rfl rfl
    have hg3 : (h2.put n (.cells [c0, c1, c2, c3, c4, .int .i64 ((rdN 4 t).1 - 1), c6, c7, c8, c9, c10, c11, c12, c13, .nils, c15] e2 (v2 + 1))).get n = some (.cells [c0, c1, c2, c3, c4, .int .i64 ((rdN 4 t).1 - 1), c6, c7, c8, c9, c10, c11, c12, c13, .nils, c15] e2 (v2 + 1)) := by rw [Heap.get_put, if_pos rfl]
    simp only [t5, hm, RW, r2.cells, r2.one, RX, VOp.fresh, bxC, bsC, un, most, callsOf, seval, Int.reducePow, ↓reduceIte, Nat.reduceEqDiff, reduceCtorEq]
    generalize h2.put n (.cells [c0, c1, c2, c3, c4, .int .i64 ((rdN 4 t).1 - 1), c6, c7, c8, c9, c10, c11, c12, c13, .nils, c15] e2 (v2 + 1)) = h3 at *
    exact hK _ _ v ⟨by simp only [t0, sg_set, Nat.reduceEqDiff, ↓reduceIte], by simp only [t2, sg_set, Nat.reduceEqDiff, ↓reduceIte], by simp only [t4, sg_set, Nat.reduceEqDiff, ↓reduceIte], by simp only [t5, sg_set, Nat.reduceEqDiff, ↓reduceIte], by simp only [t6, sg_set, Nat.reduceEqDiff, ↓reduceIte]⟩ (gs3.put2 lv gs3.lf)
theorem g_part (g : Pg P tab) (gt : GT h0 n S s) {c0 c1 c2 c3 c4 c5 c6 c7 c10 c11 c12 c13 c14 : AV} (gs : GS K h0 n lo [] [c0, c1, c2, c3, c4, c5, c6, c7, .int .i64 0, .bool false, c10, c11, c12, c13, c14, .nils] t h)
    (hK : ∀ s' h' av, GT h0 n S s' → GS K h0 n lo (rdPa K t).1.2.2 [c0, c1, c2, c3, c4, c5, c6, c7, .int .i64 (rdPa K t).1.1, .bool (rdPa K t).1.2.1, c10, c11, c12, c13, c14, av] (rdPa K t).2 h' → Un P k Q .normal s' h') : Ev P (c27 9) s h (Un P k Q) := by
  obtain ⟨t0, t2, t4, t5, t6⟩ := gt
  obtain ⟨er, vr, hr⟩ := gs.r
  unfold rdPa at hK
  simp only [c27, v27, blk, t6, hr, RX, VOp.fresh, bxC, bsC, un, most, callsOf, seval, Int.reducePow, ↓reduceIte, Nat.reduceEqDiff, reduceCtorEq]
  cases hk : kPart K with
  | false =>
    rw [hk] at hK
    simp only [Bool.false_eq_true, if_false] at hK
    simp only [RX, VOp.fresh, bxC, bsC, un, most, callsOf, seval, Int.reducePow, ↓reduceIte, Nat.reduceEqDiff, reduceCtorEq]
    exact hK _ _ .nils ⟨by simp only [t0, sg_set, Nat.reduceEqDiff, ↓reduceIte], by simp only [t2, sg_set, Nat.reduceEqDiff, ↓reduceIte], by simp only [t4, sg_set, Nat.reduceEqDiff, ↓reduceIte], by simp only [t5, sg_set, Nat.reduceEqDiff, ↓reduceIte], by simp only [t6, sg_set, Nat.reduceEqDiff, ↓reduceIte]⟩ gs
  | true =>
    rw [hk] at hK
    simp only [if_true] at hK
    simp only [t4, RX, VOp.fresh, bxC, bsC, un, most, callsOf, seval, Int.reducePow, ↓reduceIte, Nat.reduceEqDiff, reduceCtorEq]
    simp only [t5, RX, VOp.fresh, bxC, bsC, un, most, callsOf, seval, Int.reducePow, ↓reduceIte, Nat.reduceEqDiff, reduceCtorEq]
    have gn := gs.n1
    have g0 := gs.n0
    refine rd_part g gs.rp (by omega) (by omega) gs.m fun v rv h2 hm2 r2 rp2 k2 n2 => ?_
    simp only [RX, VOp.fresh, bxC, bsC, un, most, callsOf, seval, Int.reducePow, ↓reduceIte, Nat.reduceEqDiff, reduceCtorEq]
    have lv : Lv h2 (GB h0 n) rv (cFeats (rdPa 6 t).1.2.2) := r2.lv.weak fun b hb _ => ⟨by omega, by omega, by omega⟩
    exact hK _ _ rv ⟨by simp only [t0, sg_set, Nat.reduceEqDiff, ↓reduceIte], by simp only [t2, sg_set, Nat.reduceEqDiff, ↓reduceIte], by simp only [t4, sg_set, Nat.reduceEqDiff, ↓reduceIte], by simp only [t5, sg_set, Nat.reduceEqDiff, ↓reduceIte], by simp only [t6, sg_set, Nat.reduceEqDiff, ↓reduceIte]⟩ (gs.keep rp2 hm2 k2 n2 rfl lv)
end
end Go.Proofs.Ytinonmcnofjeeaa.VM
namespace Go.Proofs.Ytinonmcnofjeeaa.VM
attribute [local irreducible] Af Nx EvO Ev Un Gd Cd EvR EvQ EvC Nc Gc Lp EvM NxM AfM GdM EvMR EvMQ EvMD EvMC Nm Gm
def getMok (s : List Nat) : Prop := msOk (rdMs s) ∧ msB (rdMs s) = s ∧ s.length ≤ 16384
section
variable {P : Program} {K : Int} {h0 : Heap} {n : Nat} {lo : List Op} {lf : List Feat} {S t : List Nat} {s : T AV} {h : Heap} {k : List Fr} {Q : AV → Heap → Prop}
theorem g_end (g : Pg P tab) (gt : GT h0 n S s) {a u : AV} (gs : GS K h0 n (rdMs S).ops (rdMs S).fs (msC (rdMs S) a u) t h) (so : opsSm (rdMs S).ops) (sf : featsSm (rdMs S).fs)
    (q1 : getMok S → ∀ h', Lv h' (h0.next ≤ ·) a (cOpsL (rdMs S).ops) → Lv h' (h0.next ≤ ·) u (cFeats (rdMs S).fs) → Ext h0 h' → Q (.tup [.agg (msC (rdMs S) a u), .int .i64 0]) h')
    (q2 : ¬ getMok S → ∀ h', Ext h0 h' → Q (.tup [.agg zMs, .int .i64 1600]) h') : Ev P (.seq (c27 10) (.seq (c27 11) (rst 12 v27.body))) s h (Un P [] (Fin v27.res Q)) := by
  obtain ⟨t0, t2, t4, t5, t6⟩ := gt
  obtain ⟨e1, v1, hm⟩ := gs.m
  have la : Lv h (GB h0 n) a (cOpsL (rdMs S).ops) := gs.lo
  have lu : Lv h (GB h0 n) u (cFeats (rdMs S).fs) := gs.lf
  have hz := gs.z
  have gn := gs.n1
  have g0 := gs.n0
  have oa : a.one = true := la.one_row
  have ou : u.one = true := lu.one_row
  have hf : Fzs true h [.agg (msC (rdMs S) a u)] [.agg (msC (rdMs S) (cOpsL (rdMs S).ops) (cFeats (rdMs S).fs))] :=
    .cons (.agg (.cons (.int _ _) (.cons (.int _ _) (.cons (.int _ _) (.cons (.int _ _) (.cons (.int _ _) (.cons (.int _ _) (.cons (.bool _) (.cons (.int _ _) (.cons (.int _ _) (.cons (.bool _) (.cons (.int _ _) (.cons (.int _ _) (.cons (.int _ _) (.cons (.int _ _) (.cons la.fz (.cons lu.fz .nil))))))))))))))))) .nil
  unfold msC at hm
  simp only [c27, v27, blk, rst, t5, hm, RX, VOp.fresh, bxC, bsC, un, most, callsOf, seval, Int.reducePow, ↓reduceIte, Nat.reduceEqDiff, reduceCtorEq]
  have bad : ∀ c e v, Ext h0 (h.put h0.next (.cells c e v)) := fun c e v => ⟨by rw [put_next]; omega, fun b hb => by rw [Heap.get_put, if_neg (by omega)]; exact gs.k b hb⟩
  by_cases ok : msOk (rdMs S)
  · refine (msgPut_good g (cOpsL_is so) (cFeats_is sf) ok).cl hf ?_
    rintro v rfl
    unfold msAns
    by_cases hl : (msB (rdMs S)).length ≤ 16384
    · rw [if_pos hl]
      by_cases hs : msB (rdMs S) = S
      · rw [hs]
        simp only [t0, t2, t5, hz, hm, oa, ou, RW, RX, VOp.fresh, bxC, bsC, un, most, callsOf, seval, Int.reducePow, ↓reduceIte, Nat.reduceEqDiff, reduceCtorEq]
        refine q1 ⟨ok, hs, by rw [hs] at hl; exact hl⟩ _ ?_ ?_ (bad _ _ _)
        · exact (la.put (fun e => by have := e.1; omega) _).weak fun b hb _ => Nat.le_of_lt hb.1
        · exact (lu.put (fun e => by have := e.1; omega) _).weak fun b hb _ => Nat.le_of_lt hb.1
      · simp only [t0, t2, hz, hs, RW, RX, VOp.fresh, bxC, bsC, un, most, callsOf, seval, Int.reducePow, ↓reduceIte, Nat.reduceEqDiff, reduceCtorEq]
        exact q2 (fun c => hs c.2.1) _ (bad _ _ _)
    · rw [if_neg hl]
      simp only [t0, t2, hz, RW, RX, VOp.fresh, bxC, bsC, un, most, callsOf, seval, Int.reducePow, ↓reduceIte, Nat.reduceEqDiff, reduceCtorEq]
      exact q2 (fun c => hl (by rw [c.2.1]; exact c.2.2)) _ (bad _ _ _)
  · refine (msgPut_bad g (cOpsL_is so) (cFeats_is sf) ok).cl hf ?_
    rintro v rfl
    simp only [t0, t2, hz, RW, RX, VOp.fresh, bxC, bsC, un, most, callsOf, seval, Int.reducePow, ↓reduceIte, Nat.reduceEqDiff, reduceCtorEq]
    exact q2 (fun c => ok c.1) _ (bad _ _ _)
theorem g_ini (g : Pg P tab) (hby : By S) (hsl : S.length < 4611686018427387904) {B : VCode}
    (q0 : S.length < 2 ∨ 16384 < S.length → ∀ h', Ext h0 h' → Q (.tup [.agg zMs, .int .i64 1600]) h')
    (hK : 2 ≤ S.length → S.length ≤ 16384 → ∀ s' h' n, GT h0 n S s' → GS (rdMs S).kind h0 n [] [] [.int .i64 (rdMs S).kind, .int .i64 (rdMs S).frm, .int .i64 (rdMs S).to, .int .i64 0, .int .i64 0, .int .i64 0, .bool false, .int .i64 0, .int .i64 0, .bool false, .int .i64 0, .int .i64 0, .int .i64 0, .int .i64 0, .nils, .nils] (rdN 1 (rdN 1 (rdN 1 (S.drop 2)).2).2).2 h' → Ev P B s' h' (Un P [] (Fin v27.res Q))) :
    Ev P (.seq (c27 0) (.seq (c27 1) (.seq (c27 2) (.seq (c27 3) (.seq (c27 4) B))))) (argsT [.str S] 0 .e) h0 (Un P [] (Fin v27.res Q)) := by
  have x1 := Ext.mk (h := h0) (.cells zMs 63 0)
  have z1 : (h0.mk' h0.next (.cells zMs 63 0)).get h0.next = some (.cells zMs 63 0) := by rw [Heap.get_mk, if_pos rfl]
  have n1 : (h0.mk' h0.next (.cells zMs 63 0)).next = h0.next + 1 := by rw [mk_next]; omega
  by_cases l1 : S.length < 2
  · have c1 : ((S.length : Nat) : Int) < 2 := by omega
    simp only [c27, v27, blk, c1, RW, RX, VOp.fresh, bxC, bsC, un, most, callsOf, seval, Int.reducePow, ↓reduceIte, Nat.reduceEqDiff, reduceCtorEq]
    exact q0 (.inl l1) _ ⟨by rw [put_next, mk_next]; omega, fun b hb => by rw [Heap.get_put, if_neg (by omega)]; exact x1.2 b hb⟩
  · have c1 : ¬ ((S.length : Nat) : Int) < 2 := by omega
    by_cases l2 : 16384 < S.length
    · have c2 : 16384 < ((S.length : Nat) : Int) := by omega
      simp only [c27, v27, blk, c1, c2, RW, RX, VOp.fresh, bxC, bsC, un, most, callsOf, seval, Int.reducePow, ↓reduceIte, Nat.reduceEqDiff, reduceCtorEq]
      exact q0 (.inr l2) _ ⟨by rw [put_next, mk_next]; omega, fun b hb => by rw [Heap.get_put, if_neg (by omega)]; exact x1.2 b hb⟩
    · have c2 : ¬ 16384 < ((S.length : Nat) : Int) := by omega
      have es : sliceS (.str S) (some (.int .i64 2)) none = some (.str (S.drop 2)) := sliceS_lo (k := .i64) (n := 2) (by omega)
      have n2 : ((h0.mk' h0.next (.cells zMs 63 0)).mk' (h0.next + 1) (.cells [.str (S.drop 2)] 118 0)).next = h0.next + 2 := by rw [mk_next, mk_next]; omega
      have z2 : ((h0.mk' h0.next (.cells zMs 63 0)).mk' (h0.next + 1) (.cells [.str (S.drop 2)] 118 0)).get h0.next = some (.cells zMs 63 0) := by rw [Heap.get_mk, if_neg (by omega), Heap.get_mk, if_pos rfl]
      have k2 : ∀ b, b < h0.next → ((h0.mk' h0.next (.cells zMs 63 0)).mk' (h0.next + 1) (.cells [.str (S.drop 2)] 118 0)).get b = h0.get b := fun b hb => by rw [Heap.get_mk, if_neg (by omega), Heap.get_mk, if_neg (by omega)]
      have rp2 : RP (h0.next + 1) (S.drop 2) ((h0.mk' h0.next (.cells zMs 63 0)).mk' (h0.next + 1) (.cells [.str (S.drop 2)] 118 0)) := ⟨by omega, fun x hx => hby x (List.mem_of_mem_drop hx), by rw [List.length_drop]; omega, 118, 0, by rw [Heap.get_mk, if_pos rfl]⟩
      simp only [c27, v27, blk, c1, c2, es, RW, RX, VOp.fresh, bxC, bsC, un, most, callsOf, seval, Int.reducePow, ↓reduceIte, Nat.reduceEqDiff, reduceCtorEq]
      generalize (h0.mk' h0.next (.cells zMs 63 0)).mk' (h0.next + 1) (.cells [.str (S.drop 2)] 118 0) = h2 at *
      refine rnum_cl g (N := 1) (by decide) rp2 fun h3 rp3 x3 => ?_
      simp only [RX, VOp.fresh, bxC, bsC, un, most, callsOf, seval, Int.reducePow, ↓reduceIte, Nat.reduceEqDiff, reduceCtorEq]
      refine rnum_cl g (N := 1) (by decide) rp3 fun h4 rp4 x4 => ?_
      simp only [RX, VOp.fresh, bxC, bsC, un, most, callsOf, seval, Int.reducePow, ↓reduceIte, Nat.reduceEqDiff, reduceCtorEq]
      refine rnum_cl g (N := 1) (by decide) rp4 fun h5 rp5 x5 => ?_
      simp only [RW, RX, VOp.fresh, bxC, bsC, un, most, callsOf, seval, Int.reducePow, ↓reduceIte, Nat.reduceEqDiff, reduceCtorEq]
      have e3 := x3.next
      have e4 := x4.next
      have e5 := x5.next
      have n6 : ((h5.mk' h5.next (.cells zMs 63 0)).put h5.next (.cells [.int .i64 (rdN 1 (S.drop 2)).1, .int .i64 (rdN 1 (rdN 1 (S.drop 2)).2).1, .int .i64 (rdN 1 (rdN 1 (rdN 1 (S.drop 2)).2).2).1, .int .i64 0, .int .i64 0, .int .i64 0, .bool false, .int .i64 0, .int .i64 0, .bool false, .int .i64 0, .int .i64 0, .int .i64 0, .int .i64 0, .nils, .nils] 63 1)).next = h5.next + 1 := by rw [put_next, mk_next]; omega
      have g6 : ((h5.mk' h5.next (.cells zMs 63 0)).put h5.next (.cells [.int .i64 (rdN 1 (S.drop 2)).1, .int .i64 (rdN 1 (rdN 1 (S.drop 2)).2).1, .int .i64 (rdN 1 (rdN 1 (rdN 1 (S.drop 2)).2).2).1, .int .i64 0, .int .i64 0, .int .i64 0, .bool false, .int .i64 0, .int .i64 0, .bool false, .int .i64 0, .int .i64 0, .int .i64 0, .int .i64 0, .nils, .nils] 63 1)).get h5.next = some (.cells [.int .i64 (rdN 1 (S.drop 2)).1, .int .i64 (rdN 1 (rdN 1 (S.drop 2)).2).1, .int .i64 (rdN 1 (rdN 1 (rdN 1 (S.drop 2)).2).2).1, .int .i64 0, .int .i64 0, .int .i64 0, .bool false, .int .i64 0, .int .i64 0, .bool false, .int .i64 0, .int .i64 0, .int .i64 0, .int .i64 0, .nils, .nils] 63 1) := by rw [Heap.get_put, if_pos rfl]
      have k6 : ∀ b, b < h5.next → b ≠ h0.next + 1 → ((h5.mk' h5.next (.cells zMs 63 0)).put h5.next (.cells [.int .i64 (rdN 1 (S.drop 2)).1, .int .i64 (rdN 1 (rdN 1 (S.drop 2)).2).1, .int .i64 (rdN 1 (rdN 1 (rdN 1 (S.drop 2)).2).2).1, .int .i64 0, .int .i64 0, .int .i64 0, .bool false, .int .i64 0, .int .i64 0, .bool false, .int .i64 0, .int .i64 0, .int .i64 0, .int .i64 0, .nils, .nils] 63 1)).get b = h2.get b := fun b hb hr => by
        rw [Heap.get_put, if_neg (by omega), Heap.get_mk, if_neg (by omega), x5.keep b hr, x4.keep b hr, x3.keep b hr]
      have rp6 : RP (h0.next + 1) (rdN 1 (rdN 1 (rdN 1 (S.drop 2)).2).2).2 ((h5.mk' h5.next (.cells zMs 63 0)).put h5.next (.cells [.int .i64 (rdN 1 (S.drop 2)).1, .int .i64 (rdN 1 (rdN 1 (S.drop 2)).2).1, .int .i64 (rdN 1 (rdN 1 (rdN 1 (S.drop 2)).2).2).1, .int .i64 0, .int .i64 0, .int .i64 0, .bool false, .int .i64 0, .int .i64 0, .bool false, .int .i64 0, .int .i64 0, .int .i64 0, .int .i64 0, .nils, .nils] 63 1)) := rp5.frame (by omega) (by rw [Heap.get_put, if_neg (by omega), Heap.get_mk, if_neg (by omega)])
      generalize (h5.mk' h5.next (.cells zMs 63 0)).put h5.next (.cells [.int .i64 (rdN 1 (S.drop 2)).1, .int .i64 (rdN 1 (rdN 1 (S.drop 2)).2).1, .int .i64 (rdN 1 (rdN 1 (rdN 1 (S.drop 2)).2).2).1, .int .i64 0, .int .i64 0, .int .i64 0, .bool false, .int .i64 0, .int .i64 0, .bool false, .int .i64 0, .int .i64 0, .int .i64 0, .int .i64 0, .nils, .nils] 63 1) = h6 at *
      refine (rowOf_pu g _).go rfl ?_
      rintro v rfl
      unfold rowV
      simp only [RW, RX, VOp.fresh, bxC, bsC, un, most, callsOf, seval, Int.reducePow, ↓reduceIte, Nat.reduceEqDiff, reduceCtorEq]
      have n7 : h6.next = h5.next + 1 := n6
      refine hK (by omega) (by omega) _ _ h5.next ⟨?_, ?_, ?_, ?_, ?_⟩ ?_
      · simp only [sg_set, Nat.reduceEqDiff, ↓reduceIte]
      · simp only [sg_set, Nat.reduceEqDiff, ↓reduceIte]
      · simp only [sg_set, Nat.reduceEqDiff, ↓reduceIte]
      · simp only [sg_set, Nat.reduceEqDiff, ↓reduceIte]
      · simp only [n7, sg_set, Nat.reduceEqDiff, ↓reduceIte]
      · refine ⟨rp6.frame ?_ ?_, ?_, ?_, ?_, ?_, ?_, ?_, .nils, .nils⟩
        · rw [put_next, mk_next]; omega
        · rw [Heap.get_put, if_neg (by omega), Heap.get_mk, if_neg (by omega)]
        · rw [Heap.get_put, if_neg (by omega), Heap.get_mk, if_neg (by omega), k6 _ (by omega) (by omega), z2]
        · exact ⟨_, _, by rw [Heap.get_put, if_neg (by omega), Heap.get_mk, if_neg (by omega)]; exact g6⟩
        · exact ⟨132, 1, by rw [n7, Heap.get_put, if_pos rfl]; rfl⟩
        · intro b hb
          rw [Heap.get_put, if_neg (by omega), Heap.get_mk, if_neg (by omega), k6 b (by omega) (by omega), k2 b hb]
        · rw [put_next, mk_next]; omega
        · omega
theorem rdTx_by (h : By t) : By (rdTx K t).2 := by
  unfold rdTx; split
  · exact rdN_by (rdN_by h)
  · exact h
theorem rdBO_by (h : By t) : By (rdBO K t).2 := by
  unfold rdBO; split
  · exact rep_by (fun _ h => rdOp_by h) _ _ (rdN_by (rdN_by h))
  · exact h
theorem rdY_by (h : By t) : By (rdY K t).2 := by
  unfold rdY; split
  · exact rdN_by h
  · exact h
theorem rdQ_by (h : By t) : By (rdQ K t).2 := by
  unfold rdQ; split
  · exact rdN_by (rdN_by (rdN_by (rdN_by (rdN_by h))))
  · exact h
theorem rdMs_so (hby : By S) : opsSm (rdMs S).ops ∧ featsSm (rdMs S).fs := by
  have hd : By (S.drop 2) := fun x hx => hby x (List.mem_of_mem_drop hx)
  have h3 := rdN_by (n := 1) (rdN_by (n := 1) (rdN_by (n := 1) hd))
  constructor
  · show opsSm (rdBO _ _).1.2
    unfold rdBO; split
    · exact rdOps_sm (rdN_by (rdTx_by h3))
    · exact ⟨by simp, by simp⟩
  · show featsSm (rdPa _ _).1.2.2
    unfold rdPa; split
    · have hb := rdN_by (n := 1) (rdN_by (n := 4) (rdQ_by (K := (rdN 1 (S.drop 2)).1) (rdY_by (K := (rdN 1 (S.drop 2)).1) (rdBO_by (K := (rdN 1 (S.drop 2)).1) (rdTx_by (K := (rdN 1 (S.drop 2)).1) h3)))))
      refine ⟨?_, rep_all (fun _ h => rdFeat_by h) (fun s h => rdFeat_sm h) _ _ (rdN_by hb)⟩
      show (rep rdFeat _ _).1.length ≤ _
      rw [rep_len]; omega
    · exact ⟨by simp, by simp⟩
theorem msg_get (g : Pg P tab) (hby : By S) (hsl : S.length < 4611686018427387904)
    (q1 : getMok S → ∀ a u h', Lv h' (h.next ≤ ·) a (cOpsL (rdMs S).ops) → Lv h' (h.next ≤ ·) u (cFeats (rdMs S).fs) → Ext h h' → Q (.tup [.agg (msC (rdMs S) a u), .int .i64 0]) h')
    (q2 : ¬ getMok S → ∀ h', Ext h h' → Q (.tup [.agg zMs, .int .i64 1600]) h') : Cl P 27 [.str S] h Q := by
  refine g.cl (vf := v27) rfl rfl ?_
  have e : v27.body = .seq (c27 0) (.seq (c27 1) (.seq (c27 2) (.seq (c27 3) (.seq (c27 4) (.seq (c27 5) (.seq (c27 6) (.seq (c27 7) (.seq (c27 8) (.seq (c27 9) (.seq (c27 10) (.seq (c27 11) (rst 12 v27.body)))))))))))) := rfl
  rw [e]
  refine g_ini g hby hsl (fun hl h' x => q2 (fun c => ?_) h' x) fun l1 l2 s1 h1 n gt gs => ?_
  · have h1 := c.2.1
    have h2 := c.2.2
    have := congrArg List.length h1
    rw [msB] at this
    simp only [List.length_cons] at this
    omega
  rw [ev_seq]
  refine g_tx g gt gs fun s2 h2 gt gs => ?_
  rw [un_seq, ev_seq]
  refine g_ops g gt gs fun s3 h3 a gt gs => ?_
  rw [un_seq, ev_seq]
  refine g_yes g gt gs fun s4 h4 gt gs => ?_
  rw [un_seq, ev_seq]
  refine g_q g gt gs fun s5 h5 gt gs => ?_
  rw [un_seq, ev_seq]
  refine g_part g gt gs fun s6 h6 u gt gs => ?_
  rw [un_seq]
  exact g_end g gt (a := a) (u := u) gs (rdMs_so hby).1 (rdMs_so hby).2 (fun ok h' la lu x => q1 ok a u h' la lu x) q2
end
end Go.Proofs.Ytinonmcnofjeeaa.VM
namespace Go.Proofs.Ytinonmcnofjeeaa.VM
attribute [local irreducible] Af Nx EvO Ev Un Gd Cd EvR EvQ EvC Nc Gc Lp EvM NxM AfM GdM EvMR EvMQ EvMD EvMC Nm Gm
def zM (m : Ms) : Ms :=
  if m.kind = 5 then ⟨m.kind, m.frm, m.to, 0, 0, 0, false, m.query, 0, false, m.box, [], []⟩
  else if m.kind = 6 then ⟨m.kind, m.frm, m.to, 0, 0, 0, false, m.query, m.applied, m.busy, m.box, [], m.fs⟩
  else if m.kind = 0 then ⟨m.kind, m.frm, m.to, m.node, m.seq, m.base, false, 0, 0, false, ⟨0, 0, 0, 0⟩, m.ops, []⟩
  else if m.kind = 1 ∨ m.kind = 2 then ⟨m.kind, m.frm, m.to, m.node, m.seq, 0, m.yes, 0, 0, false, ⟨0, 0, 0, 0⟩, [], []⟩
  else ⟨m.kind, m.frm, m.to, m.node, m.seq, 0, false, 0, 0, false, ⟨0, 0, 0, 0⟩, [], []⟩
def zA (m : Ms) (a : AV) : AV := if m.kind = 0 then a else .nils
def zU (m : Ms) (u : AV) : AV := if m.kind = 6 then u else .nils
def plainM (m : Ms) : Prop := (m.node = (zM m).node ∧ m.seq = (zM m).seq) ∧ m.base = (zM m).base ∧ m.yes = (zM m).yes ∧ m.query = (zM m).query ∧ m.applied = (zM m).applied ∧ m.busy = (zM m).busy ∧
  (m.box.x0 = (zM m).box.x0 ∧ m.box.y0 = (zM m).box.y0 ∧ m.box.x1 = (zM m).box.x1 ∧ m.box.y1 = (zM m).box.y1) ∧ m.ops.length = (zM m).ops.length ∧ m.fs.length = (zM m).fs.length
section
variable {P : Program} {m : Ms} {a u : AV}
theorem isL_cells {b : Nat} {α : Type} {R : α → List AV → Prop} {v : AV} {l : List α} (h : IsL b R v l) : v.cells = some [v] := by
  rcases h.2 with ⟨rfl, _⟩ | ⟨c, rfl, _⟩ <;> rfl
theorem zA_is (ha : IsL 112 ROp a m.ops) : IsL 112 ROp (zA m a) (zM m).ops := by
  unfold zA zM
  by_cases k0 : m.kind = 0
  · simp only [k0, if_true, show ¬ (0 : Int) = 5 by decide, show ¬ (0 : Int) = 6 by decide, if_false]; exact ha
  · simp only [k0, if_false]
    split
    · exact isL_nil _ _
    · split
      · exact isL_nil _ _
      · split
        · exact isL_nil _ _
        · exact isL_nil _ _
theorem zU_is (hu : IsL 40 RFeat u m.fs) : IsL 40 RFeat (zU m u) (zM m).fs := by
  unfold zU zM
  by_cases k6 : m.kind = 6
  · simp only [k6, if_true, show ¬ (6 : Int) = 5 by decide, if_false]; exact hu
  · simp only [k6, if_false]
    split
    · exact isL_nil _ _
    · split
      · exact isL_nil _ _
      · split
        · exact isL_nil _ _
        · exact isL_nil _ _
theorem zeroed_cl (g : Pg P tab) (ha : IsL 112 ROp a m.ops) (hu : IsL 40 RFeat u m.fs) {h : Heap} {Q : AV → Heap → Prop} (q : ∀ h', Ext h h' → Q (.agg (msC (zM m) (zA m a) (zU m u))) h') : Cl P 113 [.agg (msC m a u)] h Q := by
  refine g.cl (vf := v113) rfl rfl ?_
  have oa := isL_one ha
  have ou := isL_one hu
  unfold zM zA zU at q
  by_cases k5 : m.kind = 5
  · simp only [k5, if_true, show ¬ (5 : Int) = 0 by decide, show ¬ (5 : Int) = 6 by decide, if_false] at q
    simp only [v113, msC, k5, RW, HN, oa, ou, isL_cells ha, isL_cells hu, RX, VOp.fresh, bxC, bsC, un, most, callsOf, seval, Int.reducePow, ↓reduceIte, Nat.reduceEqDiff, reduceCtorEq]
    exact q _ (by repeat (first | exact Ext.refl _ | refine Ext.putn ?_ (by omega) _ | refine Ext.mkn ?_ (by omega) _))
  by_cases k6 : m.kind = 6
  · simp only [k6, if_true, show ¬ (6 : Int) = 0 by decide, show ¬ (6 : Int) = 5 by decide, if_false] at q
    simp only [v113, msC, k6, RW, HN, oa, ou, isL_cells ha, isL_cells hu, RX, VOp.fresh, bxC, bsC, un, most, callsOf, seval, Int.reducePow, ↓reduceIte, Nat.reduceEqDiff, reduceCtorEq]
    exact q _ (by repeat (first | exact Ext.refl _ | refine Ext.putn ?_ (by omega) _ | refine Ext.mkn ?_ (by omega) _))
  by_cases k0 : m.kind = 0
  · simp only [k0, if_true, show ¬ (0 : Int) = 6 by decide, show ¬ (0 : Int) = 5 by decide, if_false] at q
    simp only [v113, msC, k0, RW, HN, oa, ou, isL_cells ha, isL_cells hu, RX, VOp.fresh, bxC, bsC, un, most, callsOf, seval, Int.reducePow, ↓reduceIte, Nat.reduceEqDiff, reduceCtorEq]
    exact q _ (by repeat (first | exact Ext.refl _ | refine Ext.putn ?_ (by omega) _ | refine Ext.mkn ?_ (by omega) _))
  by_cases k1 : m.kind = 1
  · simp only [k1, if_true, true_or, show ¬ (1 : Int) = 0 by decide, show ¬ (1 : Int) = 6 by decide, show ¬ (1 : Int) = 5 by decide, if_false] at q
    simp only [v113, msC, k1, RW, HN, oa, ou, isL_cells ha, isL_cells hu, RX, VOp.fresh, bxC, bsC, un, most, callsOf, seval, Int.reducePow, ↓reduceIte, Nat.reduceEqDiff, reduceCtorEq]
    exact q _ (by repeat (first | exact Ext.refl _ | refine Ext.putn ?_ (by omega) _ | refine Ext.mkn ?_ (by omega) _))
  by_cases k2 : m.kind = 2
  · simp only [k2, if_true, or_true, show ¬ (2 : Int) = 0 by decide, show ¬ (2 : Int) = 6 by decide, show ¬ (2 : Int) = 5 by decide, if_false] at q
    simp only [v113, msC, k2, RW, HN, oa, ou, isL_cells ha, isL_cells hu, RX, VOp.fresh, bxC, bsC, un, most, callsOf, seval, Int.reducePow, ↓reduceIte, Nat.reduceEqDiff, reduceCtorEq]
    exact q _ (by repeat (first | exact Ext.refl _ | refine Ext.putn ?_ (by omega) _ | refine Ext.mkn ?_ (by omega) _))
  simp only [k0, k1, k2, k5, k6, or_self, if_false] at q
  simp only [v113, msC, k0, k1, k2, k5, k6, RW, HN, oa, ou, isL_cells ha, isL_cells hu, RX, VOp.fresh, bxC, bsC, un, most, callsOf, seval, Int.reducePow, ↓reduceIte, Nat.reduceEqDiff, reduceCtorEq]
  exact q _ (by repeat (first | exact Ext.refl _ | refine Ext.putn ?_ (by omega) _ | refine Ext.mkn ?_ (by omega) _))
theorem plain_pu (g : Pg P tab) (ha : IsL 112 ROp a m.ops) (hu : IsL 40 RFeat u m.fs) : Pu P 102 [.agg (msC m a u)] (IsB (plainM m)) := by
  refine g.pu (vf := v102) rfl rfl ?_
  have iz := zA_is ha
  have uz := zU_is hu
  have oz := isL_one iz
  have ow := isL_one uz
  simp only [v102, msC, RX, VOp.fresh, bxC, bsC, un, most, callsOf, seval, Int.reducePow, ↓reduceIte, Nat.reduceEqDiff, reduceCtorEq]
  refine zeroed_cl g ha hu fun h1 x1 => ?_
  have g1 := (x1.2 0 (by rw [mk_next]; decide)).trans (show _ = some (.cells (msC m a u) 63 0) by rw [Heap.get_mk, if_pos rfl]; rfl)
  have n1 := x1.1
  rw [mk_next] at n1
  have hne : ¬ 0 = h1.next := by have : max 0 (0 + 1) = 1 := rfl; simp only [this] at n1; omega
  unfold plainM
  generalize zM m = z at *
  generalize zA m a = za at *
  generalize zU m u = zu at *
  unfold msC at g1
  have l1 : ((m.ops.length : Int) = (z.ops.length : Int)) = (m.ops.length = z.ops.length) := by rw [eq_iff_iff]; omega
  have l2 : ((m.fs.length : Int) = (z.fs.length : Int)) = (m.fs.length = z.fs.length) := by rw [eq_iff_iff]; omega
  have bq : ∀ a b : Bool, eqv .bool (.bool a) (.bool b) = some (decide (a = b)) := by decide
  simp +contextual (maxSteps := 2000000) only [msC, g1, hne, HN, RW, l1, l2, hu.len, ha.len, iz.len, uz.len, isL_cells iz, isL_cells uz, oz, ow, flat2, flat4, bq, RX, VOp.fresh, bxC, bsC, un, most, callsOf, seval, Int.reducePow, ↓reduceIte, Nat.reduceEqDiff, reduceCtorEq]
theorem rBox_pu (g : Pg P tab) (b : Bx) : Pu P 103 [.agg (boxV b)] (IsB (boxOk b)) := by
  refine g.pu (vf := v103) rfl rfl ?_
  obtain ⟨x0, y0, x1, y1⟩ := b
  simp only [v103, boxV, RX, VOp.fresh, bxC, bsC, un, most, callsOf, seval, Int.reducePow, ↓reduceIte, Nat.reduceEqDiff, reduceCtorEq]
  refine (rPoint_pu g ⟨x0, y0⟩).go rfl ?_
  rintro v ⟨b1, rfl, hb1⟩
  cases b1
  · simp only [RX, VOp.fresh, bxC, bsC, un, most, callsOf, seval, Int.reducePow, ↓reduceIte, Nat.reduceEqDiff, reduceCtorEq]
    exact fun h => by have := hb1.2 ⟨h.1, h.2.1⟩; cases this
  simp only [RX, VOp.fresh, bxC, bsC, un, most, callsOf, seval, Int.reducePow, ↓reduceIte, Nat.reduceEqDiff, reduceCtorEq]
  refine (rPoint_pu g ⟨x1, y1⟩).go rfl ?_
  rintro v ⟨b2, rfl, hb2⟩
  cases b2
  · simp only [RX, VOp.fresh, bxC, bsC, un, most, callsOf, seval, Int.reducePow, ↓reduceIte, Nat.reduceEqDiff, reduceCtorEq]
    exact fun h => by have := hb2.2 ⟨h.2.2.1, h.2.2.2.1⟩; cases this
  have p1 := hb1.1 rfl
  have p2 := hb2.1 rfl
  have : boxOk ⟨x0, y0, x1, y1⟩ ↔ x0 ≤ x1 ∧ y0 ≤ y1 := ⟨fun h => h.2.2.2.2, fun h => ⟨p1.1, p1.2, p2.1, p2.2, h.1, h.2⟩⟩
  simp +contextual (maxSteps := 2000000) only [this, RX, VOp.fresh, bxC, bsC, un, most, callsOf, seval, Int.reducePow, ↓reduceIte, Nat.reduceEqDiff, reduceCtorEq]
theorem rFeats_loop (g : Pg P tab) {l : List Feat} {v : AV} (hv : IsL 40 RFeat v l) (n : Nat) :
    ∀ (i : Nat) (s : T AV) (hh : Heap) (k : List Fr) (Q : Ex → T AV → Heap → Prop), i + n = l.length → sg s 0 = v → sg s 3 = .int .i64 i →
      ((∀ j, i ≤ j → j < l.length → featsAt l j) → ∀ s', Un P k Q (.exit 0) s' hh) → ((¬ ∀ j, i ≤ j → j < l.length → featsAt l j) → ∀ s', sg s' 2 = .bool false → Un P k Q .ret s' hh) → Lp P b104_0 s hh (Un P k Q) := by
  have hb := hv.bound (by decide)
  induction n with
  | zero =>
    intro i s hh k Q hi h0 h3 hK hR
    refine g.lpe b104_0.eq_1 ?_
    have c1 : ¬ ((i : Int) < (l.length : Int)) := by omega
    simp only [h0, h3, hv.len, c1, RX, VOp.fresh, bxC, bsC, un, most, callsOf, seval, Int.reducePow, ↓reduceIte, Nat.reduceEqDiff, reduceCtorEq]
    exact hK (fun j h1 h2 => by omega) _
  | succ n ih =>
    intro i s hh k Q hi h0 h3 hK hR
    refine g.lpe b104_0.eq_1 ?_
    have c1 : (i : Int) < (l.length : Int) := by omega
    obtain ⟨rv, r1, hrv, _, _, _, g1⟩ := getFeat hv i (by omega)
    have w1 : IntKind.i64.wrap ((i : Int) + 1) = ((i + 1 : Nat) : Int) := by rw [w64 (by omega) (by omega)]; push_cast; rfl
    have w2 : IntKind.i64.wrap ((i : Int) - 1) = (i : Int) - 1 := w64 (by omega) (by omega)
    simp only [h0, h3, hv.len, c1, g1, RX, VOp.fresh, bxC, bsC, un, most, callsOf, seval, Int.reducePow, ↓reduceIte, Nat.reduceEqDiff, reduceCtorEq]
    refine (rShape_pu g hrv).go (by simp [AV.tolds, AV.told, hrv.told tRing]) ?_
    rintro x ⟨b, rfl, hbb⟩
    have no : ¬ featsAt l i → ¬ ∀ j, i ≤ j → j < l.length → featsAt l j := fun h hall => h (hall i (Nat.le_refl _) (by omega))
    have step : featsAt l i → ∀ s', sg s' 0 = v → sg s' 3 = .int .i64 (i + 1 : Nat) → Lp P b104_0 s' hh (Un P k Q) := fun hok s' a0 a3 => by
      have all : (∀ j, i ≤ j → j < l.length → featsAt l j) ↔ ∀ j, i + 1 ≤ j → j < l.length → featsAt l j := ⟨fun h j h1 h2 => h j (by omega) h2, fun h j h1 h2 => by
        rcases Nat.lt_or_ge i j with h3 | h3
        · exact h j h3 h2
        · rw [show j = i by omega]; exact hok⟩
      refine ih (i + 1) _ _ k Q (by omega) a0 a3 (fun h => hK (all.2 h)) (fun h => hR (fun h' => h (all.1 h')))
    cases b
    · simp only [RX, VOp.fresh, bxC, bsC, un, most, callsOf, seval, Int.reducePow, ↓reduceIte, Nat.reduceEqDiff, reduceCtorEq]
      exact hR (no fun h => by have := hbb.2 h.1; cases this) _ (by simp only [sg_set, Nat.reduceEqDiff, ↓reduceIte])
    · simp only [h0, h3, RX, VOp.fresh, bxC, bsC, un, most, callsOf, seval, Int.reducePow, ↓reduceIte, Nat.reduceEqDiff, reduceCtorEq]
      by_cases hi0 : i = 0
      · have c2 : ¬ ((0 : Int) < (i : Int)) := by omega
        simp only [c2, h3, w1, RX, VOp.fresh, bxC, bsC, un, most, callsOf, seval, Int.reducePow, ↓reduceIte, Nat.reduceEqDiff, reduceCtorEq]
        refine step ⟨hbb.1 rfl, fun h => by omega⟩ _ ?_ ?_
        · simp only [h0, sg_set, Nat.reduceEqDiff, ↓reduceIte]
        · simp only [sg_set, Nat.reduceEqDiff, ↓reduceIte]
      · have c2 : (0 : Int) < (i : Int) := by omega
        obtain ⟨rv', r1', hrv', _, _, _, g1'⟩ := getFeat hv (i - 1) (by omega)
        have ec : ((i - 1 : Nat) : Int) = (i : Int) - 1 := by omega
        rw [ec] at g1'
        simp only [c2, w2, h0, h3, g1', g1, RX, VOp.fresh, bxC, bsC, un, most, callsOf, seval, Int.reducePow, ↓reduceIte, Nat.reduceEqDiff, reduceCtorEq]
        by_cases hid : (l.getD (i - 1) feat0).id < (l.getD i feat0).id
        · have c3 : ¬ (l.getD i feat0).id ≤ (l.getD (i - 1) feat0).id := by omega
          simp only [c3, h3, w1, RX, VOp.fresh, bxC, bsC, un, most, callsOf, seval, Int.reducePow, ↓reduceIte, Nat.reduceEqDiff, reduceCtorEq]
          refine step ⟨hbb.1 rfl, fun h => hid⟩ _ ?_ ?_
          · simp only [h0, sg_set, Nat.reduceEqDiff, ↓reduceIte]
          · simp only [sg_set, Nat.reduceEqDiff, ↓reduceIte]
        · have c3 : (l.getD i feat0).id ≤ (l.getD (i - 1) feat0).id := by omega
          simp only [c3, RX, VOp.fresh, bxC, bsC, un, most, callsOf, seval, Int.reducePow, ↓reduceIte, Nat.reduceEqDiff, reduceCtorEq]
          exact hR (no fun h => hid (h.2 (by omega))) _ (by simp only [sg_set, Nat.reduceEqDiff, ↓reduceIte])
theorem rFeats_pu (g : Pg P tab) {l : List Feat} {v : AV} (hv : IsL 40 RFeat v l) : Pu P 104 [v] (IsB (featsOk l)) := by
  refine g.pu (vf := v104) rfl rfl ?_
  simp only [v104, RX, VOp.fresh, bxC, bsC, un, most, callsOf, seval, Int.reducePow, ↓reduceIte, Nat.reduceEqDiff, reduceCtorEq]
  refine rFeats_loop g hv l.length 0 _ _ _ _ (by omega) ?_ ?_ ?_ ?_
  · simp only [sg_set, Nat.reduceEqDiff, ↓reduceIte]
  · simp only [sg_set, Nat.reduceEqDiff, ↓reduceIte]
    rfl
  · intro h s'
    simp only [RX, VOp.fresh, bxC, bsC, un, most, callsOf, seval, Int.reducePow, ↓reduceIte, Nat.reduceEqDiff, reduceCtorEq]
    exact fun i hi => h i (by omega) hi
  · intro h s' h2
    simp only [h2, RX, VOp.fresh, bxC, bsC, un, most, callsOf, seval, Int.reducePow, ↓reduceIte, Nat.reduceEqDiff, reduceCtorEq]
    exact fun hok => h fun j _ hj => hok j hj
/-- by kinds -/
def restM (m : Ms) : Prop :=
  if m.kind = 0 then txOk m.node m.seq ∧ (-1 ≤ m.base ∧ m.base ≤ 65535) ∧ opsOk 8 m.ops
  else if m.kind = 5 then (1 ≤ m.query ∧ m.query ≤ 65535) ∧ boxOk m.box
  else if m.kind = 6 then (1 ≤ m.query ∧ m.query ≤ 65535) ∧ boxOk m.box ∧ (0 ≤ m.applied ∧ m.applied ≤ 2147483647) ∧ m.fs.length ≤ 256 ∧ featsOk m.fs ∧ (m.busy = true → m.fs = [])
  else txOk m.node m.seq
theorem msOk_plain : msOk m ↔ (0 ≤ m.kind ∧ m.kind ≤ 6) ∧ nodeOk m.frm ∧ nodeOk m.to ∧ plainM m ∧ restM m := by
  unfold msOk plainM restM zM txM opsM queryM partM
  refine and_congr_right fun hk => and_congr_right fun _ => and_congr_right fun _ => ?_
  obtain ⟨kind, frm, to, node, seq, base, yes, query, applied, busy, box, ops, fs⟩ := m
  simp only at hk ⊢
  have hk : kind = 0 ∨ kind = 1 ∨ kind = 2 ∨ kind = 3 ∨ kind = 4 ∨ kind = 5 ∨ kind = 6 := by omega
  rcases hk with rfl | rfl | rfl | rfl | rfl | rfl | rfl <;> simp [kTx, kOps, kYes, kQuery, kPart, zeroBox] <;> grind
end
end Go.Proofs.Ytinonmcnofjeeaa.VM
namespace Go.Proofs.Ytinonmcnofjeeaa.VM
attribute [local irreducible] Af Nx EvO Ev Un Gd Cd EvR EvQ EvC Nc Gc Lp EvM NxM AfM GdM EvMR EvMQ EvMD EvMC Nm Gm
/-- what the parts' bytes come to -/
def cQ (a b c d : List Nat) (f : Nat) (args : List AV) (h : Heap) : AV × Heap := if f = 52 then cBe args h else if f = 54 then (.str a, h) else if f = 75 then (.str b, h) else if f = 56 then (.str c, h) else (.str d, h)
section
variable {P : Program} {m : Ms} {a u : AV}
theorem rMay_pu (g : Pg P tab) (ha : IsL 112 ROp a m.ops) (hu : IsL 40 RFeat u m.fs) : Pu P 74 [.agg (msC m a u)] (IsB (msOk m)) := by
  have ht : AV.tolds [.agg (msC m a u)] = true := by simp [AV.tolds, AV.told, tolds_ms ha hu]
  have hp := plain_pu g ha hu
  refine g.pu (vf := v74) rfl rfl ?_
  by_cases hr : (0 ≤ m.kind ∧ m.kind ≤ 6) ∧ nodeOk m.frm ∧ nodeOk m.to
  rotate_left
  · have no : ¬ msOk m := fun h => hr ⟨h.1, h.2.1, h.2.2.1⟩
    simp +contextual (maxSteps := 2000000) only [v74, msC, no, RX, VOp.fresh, bxC, bsC, un, most, callsOf, seval, Int.reducePow, ↓reduceIte, Nat.reduceEqDiff, reduceCtorEq]
    intros
    refine absurd ⟨⟨?_, ?_⟩, ⟨?_, ?_⟩, ⟨?_, ?_⟩⟩ hr <;> omega
  have ek : msOk m ↔ plainM m ∧ restM m := by rw [msOk_plain]; exact ⟨fun h => h.2.2.2, fun h => ⟨hr.1, hr.2.1, hr.2.2, h⟩⟩
  obtain ⟨⟨k0, k6⟩, ⟨f0, f8⟩, ⟨t0, t8⟩⟩ := hr
  have c1 : ¬ m.kind < 0 := by omega
  have c2 : ¬ 6 < m.kind := by omega
  have c3 : ¬ m.frm < 0 := by omega
  have c4 : ¬ 8 ≤ m.frm := by omega
  have c5 : ¬ m.to < 0 := by omega
  have c6 : ¬ 8 ≤ m.to := by omega
  unfold msC at hp ht ⊢
  simp only [v74, c1, c2, c3, c4, c5, c6, RX, VOp.fresh, bxC, bsC, un, most, callsOf, seval, Int.reducePow, ↓reduceIte, Nat.reduceEqDiff, reduceCtorEq]
  refine hp.go ht ?_
  rintro x ⟨b, rfl, hb⟩
  cases b
  · simp only [RX, VOp.fresh, bxC, bsC, un, most, callsOf, seval, Int.reducePow, ↓reduceIte, Nat.reduceEqDiff, reduceCtorEq]
    exact fun h => by have := hb.2 (ek.1 h).1; cases this
  have hb := hb.1 rfl
  have ek : msOk m ↔ restM m := ek.trans ⟨fun h => h.2, fun h => ⟨hb, h⟩⟩
  rw [ek]
  clear ek hb c1 c2 c3 c4 c5 c6
  have ho : AV.tolds [a] = true := by simp [AV.tolds, ha.told tOp]
  have hf : AV.tolds [u] = true := by simp [AV.tolds, hu.told tFeat]
  by_cases e0 : m.kind = 0
  · have er : restM m ↔ txOk m.node m.seq ∧ (-1 ≤ m.base ∧ m.base ≤ 65535) ∧ opsOk 8 m.ops := by unfold restM; rw [if_pos e0]
    simp only [e0, RX, VOp.fresh, bxC, bsC, un, most, callsOf, seval, Int.reducePow, ↓reduceIte, Nat.reduceEqDiff, reduceCtorEq]
    refine (rTx_pu g _ _).go rfl ?_
    rintro x ⟨b, rfl, hb⟩
    cases b
    · simp only [RX, VOp.fresh, bxC, bsC, un, most, callsOf, seval, Int.reducePow, ↓reduceIte, Nat.reduceEqDiff, reduceCtorEq]
      exact fun h => by have := hb.2 (er.1 h).1; cases this
    simp only [RX, VOp.fresh, bxC, bsC, un, most, callsOf, seval, Int.reducePow, ↓reduceIte, Nat.reduceEqDiff, reduceCtorEq]
    refine (rBase_pu g _).go rfl ?_
    rintro x rfl
    by_cases c : -1 ≤ m.base ∧ m.base ≤ 65535
    · simp only [c, RX, VOp.fresh, bxC, bsC, un, most, callsOf, seval, Int.reducePow, ↓reduceIte, Nat.reduceEqDiff, reduceCtorEq]
      refine (rOps_pu g ha).go ho ?_
      rintro x ⟨b, rfl, hb2⟩
      simp only [RX, VOp.fresh, bxC, bsC, un, most, callsOf, seval, Int.reducePow, ↓reduceIte, Nat.reduceEqDiff, reduceCtorEq]
      rw [hb2, er]
      exact ⟨fun h => ⟨hb.1 rfl, c, h⟩, fun h => h.2.2⟩
    · simp only [c, RX, VOp.fresh, bxC, bsC, un, most, callsOf, seval, Int.reducePow, ↓reduceIte, Nat.reduceEqDiff, reduceCtorEq]
      exact fun h => c (er.1 h).2.1
  by_cases e5 : m.kind = 5
  · have er : restM m ↔ (1 ≤ m.query ∧ m.query ≤ 65535) ∧ boxOk m.box := by unfold restM; rw [if_neg e0, if_pos e5]
    by_cases q1 : 1 ≤ m.query
    · by_cases q2 : m.query ≤ 65535
      · simp only [e5, q1, q2, RX, VOp.fresh, bxC, bsC, un, most, callsOf, seval, Int.reducePow, ↓reduceIte, Nat.reduceEqDiff, reduceCtorEq]
        refine (rBox_pu g m.box).go rfl ?_
        rintro x ⟨b, rfl, hb⟩
        simp only [RX, VOp.fresh, bxC, bsC, un, most, callsOf, seval, Int.reducePow, ↓reduceIte, Nat.reduceEqDiff, reduceCtorEq]
        rw [hb, er]
        exact ⟨fun h => ⟨⟨q1, q2⟩, h⟩, fun h => h.2⟩
      · simp only [e5, q1, q2, RX, VOp.fresh, bxC, bsC, un, most, callsOf, seval, Int.reducePow, ↓reduceIte, Nat.reduceEqDiff, reduceCtorEq]
        exact fun h => q2 (er.1 h).1.2
    · simp only [e5, q1, RX, VOp.fresh, bxC, bsC, un, most, callsOf, seval, Int.reducePow, ↓reduceIte, Nat.reduceEqDiff, reduceCtorEq]
      exact fun h => q1 (er.1 h).1.1
  by_cases e6 : m.kind = 6
  · have er : restM m ↔ (1 ≤ m.query ∧ m.query ≤ 65535) ∧ boxOk m.box ∧ (0 ≤ m.applied ∧ m.applied ≤ 2147483647) ∧ m.fs.length ≤ 256 ∧ featsOk m.fs ∧ (m.busy = true → m.fs = []) := by unfold restM; rw [if_neg e0, if_neg e5, if_pos e6]
    by_cases q1 : 1 ≤ m.query
    · by_cases q2 : m.query ≤ 65535
      · simp only [e6, q1, q2, RX, VOp.fresh, bxC, bsC, un, most, callsOf, seval, Int.reducePow, ↓reduceIte, Nat.reduceEqDiff, reduceCtorEq]
        refine (rBox_pu g m.box).go rfl ?_
        rintro x ⟨b, rfl, hb⟩
        cases b
        · simp only [RX, VOp.fresh, bxC, bsC, un, most, callsOf, seval, Int.reducePow, ↓reduceIte, Nat.reduceEqDiff, reduceCtorEq]
          exact fun h => by have := hb.2 (er.1 h).2.1; cases this
        have hb := hb.1 rfl
        by_cases p1 : 0 ≤ m.applied
        · by_cases p2 : m.applied ≤ 2147483647
          · by_cases p3 : m.fs.length ≤ 256
            · have p3' : (m.fs.length : Int) ≤ 256 := by omega
              simp only [p1, p2, p3', hu.len, RX, VOp.fresh, bxC, bsC, un, most, callsOf, seval, Int.reducePow, ↓reduceIte, Nat.reduceEqDiff, reduceCtorEq]
              refine (rFeats_pu g hu).go hf ?_
              rintro x ⟨b, rfl, hb2⟩
              cases b
              · simp only [RX, VOp.fresh, bxC, bsC, un, most, callsOf, seval, Int.reducePow, ↓reduceIte, Nat.reduceEqDiff, reduceCtorEq]
                exact fun h => by have := hb2.2 (er.1 h).2.2.2.2.1; cases this
              have hb2 := hb2.1 rfl
              cases hy : m.busy with
              | false =>
                simp only [RX, VOp.fresh, bxC, bsC, un, most, callsOf, seval, Int.reducePow, ↓reduceIte, Nat.reduceEqDiff, reduceCtorEq]
                exact er.2 ⟨⟨q1, q2⟩, hb, ⟨p1, p2⟩, p3, hb2, fun h => by rw [hy] at h; cases h⟩
              | true =>
                have l0 : ((m.fs.length : Int) = 0) = (m.fs = []) := by rw [eq_iff_iff, ← List.length_eq_zero_iff]; omega
                simp only [hu.len, l0, RX, VOp.fresh, bxC, bsC, un, most, callsOf, seval, Int.reducePow, ↓reduceIte, Nat.reduceEqDiff, reduceCtorEq]
                exact ⟨fun h => er.2 ⟨⟨q1, q2⟩, hb, ⟨p1, p2⟩, p3, hb2, fun _ => h⟩, fun h => (er.1 h).2.2.2.2.2 hy⟩
            · have p3' : ¬ (m.fs.length : Int) ≤ 256 := by omega
              simp only [p1, p2, p3', hu.len, RX, VOp.fresh, bxC, bsC, un, most, callsOf, seval, Int.reducePow, ↓reduceIte, Nat.reduceEqDiff, reduceCtorEq]
              exact fun h => p3 (er.1 h).2.2.2.1
          · simp only [p1, p2, RX, VOp.fresh, bxC, bsC, un, most, callsOf, seval, Int.reducePow, ↓reduceIte, Nat.reduceEqDiff, reduceCtorEq]
            exact fun h => p2 (er.1 h).2.2.1.2
        · simp only [p1, RX, VOp.fresh, bxC, bsC, un, most, callsOf, seval, Int.reducePow, ↓reduceIte, Nat.reduceEqDiff, reduceCtorEq]
          exact fun h => p1 (er.1 h).2.2.1.1
      · simp only [e6, q1, q2, RX, VOp.fresh, bxC, bsC, un, most, callsOf, seval, Int.reducePow, ↓reduceIte, Nat.reduceEqDiff, reduceCtorEq]
        exact fun h => q2 (er.1 h).1.2
    · simp only [e6, q1, RX, VOp.fresh, bxC, bsC, un, most, callsOf, seval, Int.reducePow, ↓reduceIte, Nat.reduceEqDiff, reduceCtorEq]
      exact fun h => q1 (er.1 h).1.1
  have er : restM m ↔ txOk m.node m.seq := by unfold restM; rw [if_neg e0, if_neg e5, if_neg e6]
  simp only [e0, e5, e6, RX, VOp.fresh, bxC, bsC, un, most, callsOf, seval, Int.reducePow, ↓reduceIte, Nat.reduceEqDiff, reduceCtorEq]
  refine (rTx_pu g _ _).go rfl ?_
  rintro x ⟨b, rfl, hb⟩
  simp only [RX, VOp.fresh, bxC, bsC, un, most, callsOf, seval, Int.reducePow, ↓reduceIte, Nat.reduceEqDiff, reduceCtorEq]
  rw [hb, er]
theorem rPutBox_pu (g : Pg P tab) (b : Bx) : Pu P 75 [.agg (boxV b)] (fun v => v = .str (boxB b)) := by
  refine g.pu (vf := v75) rfl rfl ?_
  simp +contextual (maxSteps := 2000000) only [v75, boxV, RX, VOp.fresh, bxC, bsC, un, most, callsOf, seval, Int.reducePow, ↓reduceIte, Nat.reduceEqDiff, reduceCtorEq]
  refine EvD.same (fun _ => cBe) (by rfl) ?_
  simp +contextual (maxSteps := 2000000) only [cBe_eq, be4 g, List.length_append, numB_len, (show Int.toNat 4 = 4 from rfl), RX, VOp.fresh, bxC, bsC, un, most, callsOf, seval, Int.reducePow, ↓reduceIte, Nat.reduceEqDiff, reduceCtorEq]
  simp [boxB]
theorem rPutFs_loop (g : Pg P tab) (hu : IsL 40 RFeat u m.fs) (hs : ∀ f ∈ m.fs, featSmall f) {hh : Heap} {e : TypeId} {ver : Nat} (hg : hh.get 0 = some (.cells (msC m a u) e ver)) (acc : List Nat) (n : Nat) :
    ∀ (i : Nat) (s : T AV) (k : List Fr) (Q : Ex → T AV → Heap → Prop), i + n = m.fs.length → sg s 1 = .ptr 0 0 → sg s 4 = .str (acc ++ ((m.fs.take i).map featB).flatten) → sg s 5 = .int .i64 i →
      (∀ s' j, (j = m.fs.length ∨ 16384 < (acc ++ ((m.fs.take j).map featB).flatten).length) → sg s' 4 = .str (acc ++ ((m.fs.take j).map featB).flatten) → Un P k Q (.exit 1) s' hh) → Lp P b26_0 s hh (Un P k Q) := by
  have hb := hu.bound (by decide)
  unfold msC at hg
  induction n with
  | zero =>
    intro i s k Q hi h1 h4 h5 hK
    refine g.lpe b26_0.eq_1 ?_
    have c1 : ¬ ((i : Int) < (m.fs.length : Int)) := by omega
    simp only [h1, h4, h5, hg, hu.len, c1, RX, VOp.fresh, bxC, bsC, un, most, callsOf, seval, Int.reducePow, ↓reduceIte, Nat.reduceEqDiff, reduceCtorEq]
    refine hK _ i (.inl (by omega)) ?_
    simp only [h4, sg_set, Nat.reduceEqDiff, ↓reduceIte]
  | succ n ih =>
    intro i s k Q hi h1 h4 h5 hK
    refine g.lpe b26_0.eq_1 ?_
    have c1 : (i : Int) < (m.fs.length : Int) := by omega
    by_cases hA : (acc ++ ((m.fs.take i).map featB).flatten).length ≤ 16384
    · obtain ⟨rv, r1, hrv, _, _, _, g1⟩ := getFeat hu i (by omega)
      have w1 : IntKind.i64.wrap ((i : Int) + 1) = ((i + 1 : Nat) : Int) := by rw [w64 (by omega) (by omega)]; push_cast; rfl
      have hsm : featSmall (m.fs.getD i feat0) := by rw [getD_feat (by omega)]; exact hs _ (List.getElem_mem _)
      have hfl := featB_len hsm
      have hA1 : acc ++ ((m.fs.take i).map featB).flatten ++ featB (m.fs.getD i feat0) = acc ++ ((m.fs.take (i + 1)).map featB).flatten := by
        rw [getD_feat (by omega), List.append_assoc, flat_take featB m.fs i (by omega)]
      generalize acc ++ ((m.fs.take i).map featB).flatten = A at *
      have c2 : ((A.length : Nat) : Int) ≤ 16384 := by omega
      have c3 : A.length + (featB (m.fs.getD i feat0)).length < 140737488355328 := by omega
      simp only [h1, h4, h5, hg, hu.len, c1, c2, g1, RX, VOp.fresh, bxC, bsC, un, most, callsOf, seval, Int.reducePow, ↓reduceIte, Nat.reduceEqDiff, reduceCtorEq]
      refine (putFeat_pu g hrv hsm).go (by simp [AV.tolds, AV.told, hrv.told tRing]) ?_
      rintro v rfl
      simp only [h4, h5, c3, w1, RX, VOp.fresh, bxC, bsC, un, most, callsOf, seval, Int.reducePow, ↓reduceIte, Nat.reduceEqDiff, reduceCtorEq]
      refine ih (i + 1) _ k Q (by omega) ?_ ?_ ?_ hK
      · simp only [h1, sg_set, Nat.reduceEqDiff, ↓reduceIte]
      · simp only [sg_set, Nat.reduceEqDiff, ↓reduceIte]
        rw [← hA1]
      · simp only [sg_set, Nat.reduceEqDiff, ↓reduceIte]
    · have c2 : ¬ (((acc ++ ((m.fs.take i).map featB).flatten).length : Nat) : Int) ≤ 16384 := by omega
      simp only [h1, h4, h5, hg, hu.len, c1, c2, RX, VOp.fresh, bxC, bsC, un, most, callsOf, seval, Int.reducePow, ↓reduceIte, Nat.reduceEqDiff, reduceCtorEq]
      refine hK _ i (.inr (by omega)) ?_
      simp only [h4, sg_set, Nat.reduceEqDiff, ↓reduceIte]
theorem rMsgPut_bad (g : Pg P tab) (ha : IsL 112 ROp a m.ops) (hu : IsL 40 RFeat u m.fs) (hn : ¬ msOk m) : Pu P 26 [.agg (msC m a u)] (fun v => v = .tup [.str [], .int .i64 1600]) := by
  have ht : AV.tolds [.agg (msC m a u)] = true := by simp [AV.tolds, AV.told, tolds_ms ha hu]
  have hp := rMay_pu g ha hu
  refine g.pu (vf := v26) rfl rfl ?_
  unfold msC at hp ht ⊢
  simp only [v26, RX, VOp.fresh, bxC, bsC, un, most, callsOf, seval, Int.reducePow, ↓reduceIte, Nat.reduceEqDiff, reduceCtorEq]
  refine hp.go ht ?_
  rintro x ⟨b, rfl, hb⟩
  cases b
  · simp only [RX, VOp.fresh, bxC, bsC, un, most, callsOf, seval, Int.reducePow, ↓reduceIte, Nat.reduceEqDiff, reduceCtorEq]
  · exact absurd (hb.1 rfl) hn
theorem rMsgPut_good (g : Pg P tab) (ha : IsL 112 ROp a m.ops) (hu : IsL 40 RFeat u m.fs) (ok : msOk m) : Pu P 26 [.agg (msC m a u)] (fun v => v = msAns m) := by
  have ht : AV.tolds [.agg (msC m a u)] = true := by simp [AV.tolds, AV.told, tolds_ms ha hu]
  have hp := rMay_pu g ha hu
  have mc : msC m a u = [.int .i64 m.kind, .int .i64 m.frm, .int .i64 m.to, .int .i64 m.node, .int .i64 m.seq, .int .i64 m.base, .bool m.yes, .int .i64 m.query, .int .i64 m.applied, .bool m.busy, .int .i64 m.box.x0, .int .i64 m.box.y0, .int .i64 m.box.x1, .int .i64 m.box.y1, a, u] := rfl
  refine g.pu (vf := v26) rfl rfl ?_
  rw [mc] at hp ht ⊢
  simp only [v26, RX, VOp.fresh, bxC, bsC, un, most, callsOf, seval, Int.reducePow, ↓reduceIte, Nat.reduceEqDiff, reduceCtorEq]
  refine hp.go ht ?_
  rintro x ⟨b, rfl, hb⟩
  cases b
  · exact absurd (hb.2 ok) (by simp)
  clear hb
  simp only [RX, VOp.fresh, bxC, bsC, un, most, callsOf, seval, Int.reducePow, ↓reduceIte, Nat.reduceEqDiff, reduceCtorEq]
  refine EvD.same (fun _ => cBe) (by rfl) ?_
  have hA : ((77 :: 83 :: (numB m.kind 1 ++ numB m.frm 1 ++ numB m.to 1))).length = 5 := by simp [numB_len]
  have er : msB m = (77 :: 83 :: (numB m.kind 1 ++ numB m.frm 1 ++ numB m.to 1)) ++ ((if kTx m.kind = true then txB m.node m.seq else []) ++ ((if kOps m.kind = true then numB (m.base + 1) 4 ++ opsB m.ops else []) ++
      ((if kYes m.kind = true then bitB m.yes else []) ++ ((if kQuery m.kind = true then numB m.query 2 ++ boxB m.box else []) ++ (if kPart m.kind = true then numB m.applied 4 ++ (bitB m.busy ++ fsB m.fs) else []))))) := by
    rw [msB]; simp only [List.cons_append, List.nil_append, List.append_assoc]
  have a1 : 2 + 1 < 140737488355328 := by decide
  have o52 : ∀ (x : Int) h, OK P 52 [.int .i64 x, .int .i64 1] h (.str (numB x 1)) h := fun x h => be1 g h
  have o522 : ∀ (x : Int) h, OK P 52 [.int .i64 x, .int .i64 2] h (.str (numB x 2)) h := fun x h => be2 g h
  have o524 : ∀ (x : Int) h, OK P 52 [.int .i64 x, .int .i64 4] h (.str (numB x 4)) h := fun x h => be4 g h
  have o54 : ∀ h, OK P 54 [.agg [.int .i64 m.node, .int .i64 m.seq]] h (.str (txB m.node m.seq)) h := fun h => (putTx_pu g _ _).exact rfl
  have o75 : ∀ h, OK P 75 [.agg [.int .i64 m.box.x0, .int .i64 m.box.y0, .int .i64 m.box.x1, .int .i64 m.box.y1]] h (.str (boxB m.box)) h := fun h => (rPutBox_pu g m.box).exact rfl
  have o56 : ∀ b h, OK P 56 [.bool b] h (.str (bitB b)) h := fun b h => (bit_pu g _).exact rfl
  have i1 : Int.toNat 1 = 1 := rfl
  have i2 : Int.toNat 2 = 2 := rfl
  have i4 : Int.toNat 4 = 4 := rfl
  have mk := ok.1
  by_cases e5 : m.kind = 5
  · have e : msB m = (77 :: 83 :: (numB m.kind 1 ++ numB m.frm 1 ++ numB m.to 1)) ++ numB m.query 2 ++ boxB m.box := by
      rw [er, e5]; simp [kTx, kOps, kYes, kQuery, kPart]
    clear er
    simp only [cBe_eq, o52, List.length_append, List.length_cons, List.length_nil, numB_len, i1, e5, RX, VOp.fresh, bxC, bsC, un, most, callsOf, seval, Int.reducePow, ↓reduceIte, Nat.reduceEqDiff, reduceCtorEq]
    rw [e5] at e hA
    generalize (77 :: 83 :: (numB 5 1 ++ numB m.frm 1 ++ numB m.to 1)) = A at *
    have c1 : A.length + (numB m.query 2).length < 140737488355328 := by rw [numB_len]; omega
    have c2 : (A ++ numB m.query 2).length + (boxB m.box).length < 140737488355328 := by rw [List.length_append, numB_len, boxB_len]; omega
    refine EvD.same (cQ [] (boxB m.box) [] []) (by rfl) ?_
    by_cases hlen : (msB m).length ≤ 16384
    · have c8 : ¬ (16384 : Int) < ((msB m).length : Int) := by omega
      simp only [cQ, cBe_eq, o522, o75, i2, c1, c2, ← e, c8, RX, VOp.fresh, bxC, bsC, un, most, callsOf, seval, Int.reducePow, ↓reduceIte, Nat.reduceEqDiff, reduceCtorEq]
      rw [msAns, if_pos hlen]
    · have c8 : (16384 : Int) < ((msB m).length : Int) := by omega
      simp only [cQ, cBe_eq, o522, o75, i2, c1, c2, ← e, c8, RX, VOp.fresh, bxC, bsC, un, most, callsOf, seval, Int.reducePow, ↓reduceIte, Nat.reduceEqDiff, reduceCtorEq]
      rw [msAns, if_neg hlen]
  by_cases e6 : m.kind = 6
  · have e : msB m = (77 :: 83 :: (numB m.kind 1 ++ numB m.frm 1 ++ numB m.to 1)) ++ numB m.query 2 ++ boxB m.box ++ numB m.applied 4 ++ bitB m.busy ++ numB m.fs.length 2 ++ (m.fs.map featB).flatten := by
      rw [er, e6]; simp [kTx, kOps, kYes, kQuery, kPart, fsB]
    have hp := ok.2.2.2.2.2.2.2
    unfold partM at hp
    simp only [e6, show kPart 6 = true from rfl, if_true] at hp
    clear er
    simp only [cBe_eq, o52, List.length_append, List.length_cons, List.length_nil, numB_len, i1, e6, RX, VOp.fresh, bxC, bsC, un, most, callsOf, seval, Int.reducePow, ↓reduceIte, Nat.reduceEqDiff, reduceCtorEq]
    rw [e6] at e hA
    generalize (77 :: 83 :: (numB 6 1 ++ numB m.frm 1 ++ numB m.to 1)) = A at *
    have c1 : A.length + (numB m.query 2).length < 140737488355328 := by rw [numB_len]; omega
    have c2 : (A ++ numB m.query 2).length + (boxB m.box).length < 140737488355328 := by rw [List.length_append, numB_len, boxB_len]; omega
    have c3 : (A ++ numB m.query 2 ++ boxB m.box).length + (numB m.applied 4).length < 140737488355328 := by rw [List.length_append, List.length_append, numB_len, numB_len, boxB_len]; omega
    have c4 : (A ++ numB m.query 2 ++ boxB m.box ++ numB m.applied 4).length + (bitB m.busy).length < 140737488355328 := by rw [List.length_append, List.length_append, List.length_append, numB_len, numB_len, boxB_len, bitB_len]; omega
    have c5 : (A ++ numB m.query 2 ++ boxB m.box ++ numB m.applied 4 ++ bitB m.busy).length + (numB m.fs.length 2).length < 140737488355328 := by rw [List.length_append, List.length_append, List.length_append, List.length_append, numB_len, numB_len, numB_len, boxB_len, bitB_len]; omega
    refine EvD.same (cQ [] (boxB m.box) (bitB m.busy) []) (by rfl) ?_
    simp only [cQ, cBe_eq, o522, o524, o75, o56, i2, i4, c1, c2, c3, c4, c5, hu.len, RX, VOp.fresh, bxC, bsC, un, most, callsOf, seval, Int.reducePow, ↓reduceIte, Nat.reduceEqDiff, reduceCtorEq]
    refine rPutFs_loop g (a := a) hu (fsSmall hp.2.2.2) (e := 63) (ver := 0) ?_ (A ++ numB m.query 2 ++ boxB m.box ++ numB m.applied 4 ++ bitB m.busy ++ numB m.fs.length 2) m.fs.length 0 _ _ _ (by omega) ?_ ?_ ?_ ?_
    · rw [Heap.get_mk, if_pos rfl, mc, e6]
    · simp only [sg_set, Nat.reduceEqDiff, ↓reduceIte]
    · simp only [sg_set, Nat.reduceEqDiff, ↓reduceIte]
      simp
    · simp only [sg_set, Nat.reduceEqDiff, ↓reduceIte]
      rfl
    intro s' j hj h4
    by_cases hlen : (msB m).length ≤ 16384
    · have c8 : ¬ (16384 : Int) < ((msB m).length : Int) := by omega
      have hjl : j = m.fs.length := by
        rcases hj with hj | hj
        · exact hj
        · exfalso
          have h1 : ((m.fs.take j).map featB).flatten.length ≤ ((m.fs.map featB).flatten).length := by
            conv => rhs; rw [← List.take_append_drop j m.fs, List.map_append, List.flatten_append, List.length_append]
            omega
          rw [e] at hlen
          rw [List.length_append] at hlen hj
          omega
      rw [hjl, List.take_length, ← e] at h4
      simp only [h4, c8, RX, VOp.fresh, bxC, bsC, un, most, callsOf, seval, Int.reducePow, ↓reduceIte, Nat.reduceEqDiff, reduceCtorEq]
      rw [msAns, if_pos hlen]
    · have c8 : (16384 : Int) < (((A ++ numB m.query 2 ++ boxB m.box ++ numB m.applied 4 ++ bitB m.busy ++ numB m.fs.length 2 ++ ((m.fs.take j).map featB).flatten).length : Nat) : Int) := by
        rcases hj with hj | hj
        · rw [hj, List.take_length, ← e]; omega
        · omega
      simp only [h4, c8, RX, VOp.fresh, bxC, bsC, un, most, callsOf, seval, Int.reducePow, ↓reduceIte, Nat.reduceEqDiff, reduceCtorEq]
      rw [msAns, if_neg hlen]
  by_cases e0 : m.kind = 0
  · have e : msB m = (77 :: 83 :: (numB m.kind 1 ++ numB m.frm 1 ++ numB m.to 1)) ++ txB m.node m.seq ++ numB (m.base + 1) 4 ++ opsB m.ops := by
      rw [er, e0]; simp [kTx, kOps, kYes, kQuery, kPart]
    have hp := ok.2.2.2.2.2.1
    unfold opsM at hp
    simp only [e0, show kOps 0 = true from rfl, if_true] at hp
    clear er
    have hsm := opsOk_small hp.2
    have hl := opsB_len hp.2.2.1 hsm
    have o55 : ∀ h, OK P 55 [a] h (.str (opsB m.ops)) h := fun h => (putOps_pu g ha (by have := hp.2.2.1; omega) hsm).exact (by simp [AV.tolds, ha.told tOp])
    have w1 : IntKind.i64.wrap (m.base + 1) = m.base + 1 := w64 (by omega) (by omega)
    simp only [cBe_eq, o52, List.length_append, List.length_cons, List.length_nil, numB_len, i1, e0, RX, VOp.fresh, bxC, bsC, un, most, callsOf, seval, Int.reducePow, ↓reduceIte, Nat.reduceEqDiff, reduceCtorEq]
    rw [e0] at e hA
    generalize (77 :: 83 :: (numB 0 1 ++ numB m.frm 1 ++ numB m.to 1)) = A at *
    have c1 : A.length + (txB m.node m.seq).length < 140737488355328 := by rw [txB_len]; omega
    have c2 : (A ++ txB m.node m.seq).length + (numB (m.base + 1) 4).length < 140737488355328 := by rw [List.length_append, numB_len, txB_len]; omega
    have c3 : (A ++ txB m.node m.seq ++ numB (m.base + 1) 4).length + (opsB m.ops).length < 140737488355328 := by rw [List.length_append, List.length_append, numB_len, txB_len]; omega
    refine EvD.same (cQ (txB m.node m.seq) [] [] (opsB m.ops)) (by rfl) ?_
    by_cases hlen : (msB m).length ≤ 16384
    · have c8 : ¬ (16384 : Int) < ((msB m).length : Int) := by omega
      simp only [cQ, cBe_eq, o524, o54, o55, i4, w1, c1, c2, c3, ← e, c8, RX, VOp.fresh, bxC, bsC, un, most, callsOf, seval, Int.reducePow, ↓reduceIte, Nat.reduceEqDiff, reduceCtorEq]
      rw [msAns, if_pos hlen]
    · have c8 : (16384 : Int) < ((msB m).length : Int) := by omega
      simp only [cQ, cBe_eq, o524, o54, o55, i4, w1, c1, c2, c3, ← e, c8, RX, VOp.fresh, bxC, bsC, un, most, callsOf, seval, Int.reducePow, ↓reduceIte, Nat.reduceEqDiff, reduceCtorEq]
      rw [msAns, if_neg hlen]
  by_cases e12 : m.kind = 1 ∨ m.kind = 2
  · have e : msB m = (77 :: 83 :: (numB m.kind 1 ++ numB m.frm 1 ++ numB m.to 1)) ++ txB m.node m.seq ++ bitB m.yes := by
      rw [er]; rcases e12 with e | e <;> rw [e] <;> simp [kTx, kOps, kYes, kQuery, kPart]
    clear er
    rcases e12 with e1 | e1
    all_goals
      simp only [cBe_eq, o52, List.length_append, List.length_cons, List.length_nil, numB_len, i1, e1, RX, VOp.fresh, bxC, bsC, un, most, callsOf, seval, Int.reducePow, ↓reduceIte, Nat.reduceEqDiff, reduceCtorEq]
      rw [e1] at e hA
    · generalize (77 :: 83 :: (numB 1 1 ++ numB m.frm 1 ++ numB m.to 1)) = A at *
      have c1 : A.length + (txB m.node m.seq).length < 140737488355328 := by rw [txB_len]; omega
      have c2 : (A ++ txB m.node m.seq).length + (bitB m.yes).length < 140737488355328 := by rw [List.length_append, bitB_len, txB_len]; omega
      refine EvD.same (cQ (txB m.node m.seq) [] (bitB m.yes) []) (by rfl) ?_
      by_cases hlen : (msB m).length ≤ 16384
      · have c8 : ¬ (16384 : Int) < ((msB m).length : Int) := by omega
        simp only [cQ, o54, o56, c1, c2, ← e, c8, RX, VOp.fresh, bxC, bsC, un, most, callsOf, seval, Int.reducePow, ↓reduceIte, Nat.reduceEqDiff, reduceCtorEq]
        rw [msAns, if_pos hlen]
      · have c8 : (16384 : Int) < ((msB m).length : Int) := by omega
        simp only [cQ, o54, o56, c1, c2, ← e, c8, RX, VOp.fresh, bxC, bsC, un, most, callsOf, seval, Int.reducePow, ↓reduceIte, Nat.reduceEqDiff, reduceCtorEq]
        rw [msAns, if_neg hlen]
    · generalize (77 :: 83 :: (numB 2 1 ++ numB m.frm 1 ++ numB m.to 1)) = A at *
      have c1 : A.length + (txB m.node m.seq).length < 140737488355328 := by rw [txB_len]; omega
      have c2 : (A ++ txB m.node m.seq).length + (bitB m.yes).length < 140737488355328 := by rw [List.length_append, bitB_len, txB_len]; omega
      refine EvD.same (cQ (txB m.node m.seq) [] (bitB m.yes) []) (by rfl) ?_
      by_cases hlen : (msB m).length ≤ 16384
      · have c8 : ¬ (16384 : Int) < ((msB m).length : Int) := by omega
        simp only [cQ, o54, o56, c1, c2, ← e, c8, RX, VOp.fresh, bxC, bsC, un, most, callsOf, seval, Int.reducePow, ↓reduceIte, Nat.reduceEqDiff, reduceCtorEq]
        rw [msAns, if_pos hlen]
      · have c8 : (16384 : Int) < ((msB m).length : Int) := by omega
        simp only [cQ, o54, o56, c1, c2, ← e, c8, RX, VOp.fresh, bxC, bsC, un, most, callsOf, seval, Int.reducePow, ↓reduceIte, Nat.reduceEqDiff, reduceCtorEq]
        rw [msAns, if_neg hlen]
  have e1 : ¬ m.kind = 1 := fun h => e12 (.inl h)
  have e2 : ¬ m.kind = 2 := fun h => e12 (.inr h)
  have e : msB m = (77 :: 83 :: (numB m.kind 1 ++ numB m.frm 1 ++ numB m.to 1)) ++ txB m.node m.seq := by
    have : m.kind = 3 ∨ m.kind = 4 := by omega
    rw [er]; rcases this with e | e <;> rw [e] <;> simp [kTx, kOps, kYes, kQuery, kPart]
  clear er
  simp only [cBe_eq, o52, List.length_append, List.length_cons, List.length_nil, numB_len, i1, e0, e1, e2, e5, e6, RX, VOp.fresh, bxC, bsC, un, most, callsOf, seval, Int.reducePow, ↓reduceIte, Nat.reduceEqDiff, reduceCtorEq]
  refine (putTx_pu g _ _).go rfl ?_
  rintro v rfl
  generalize (77 :: 83 :: (numB m.kind 1 ++ numB m.frm 1 ++ numB m.to 1)) = A at *
  have c1 : A.length + (txB m.node m.seq).length < 140737488355328 := by rw [txB_len]; omega
  by_cases hlen : (msB m).length ≤ 16384
  · have c8 : ¬ (16384 : Int) < ((msB m).length : Int) := by omega
    simp only [c1, ← e, c8, RX, VOp.fresh, bxC, bsC, un, most, callsOf, seval, Int.reducePow, ↓reduceIte, Nat.reduceEqDiff, reduceCtorEq]
    rw [msAns, if_pos hlen]
  · have c8 : (16384 : Int) < ((msB m).length : Int) := by omega
    simp only [c1, ← e, c8, RX, VOp.fresh, bxC, bsC, un, most, callsOf, seval, Int.reducePow, ↓reduceIte, Nat.reduceEqDiff, reduceCtorEq]
    rw [msAns, if_neg hlen]
end
end Go.Proofs.Ytinonmcnofjeeaa.VM
namespace Go.Proofs.Ytinonmcnofjeeaa.VM
attribute [local irreducible] Af Nx EvO Ev Un Gd Cd EvR EvQ EvC Nc Gc Lp EvM NxM AfM GdM EvMR EvMQ EvMD EvMC Nm Gm
def rdBxM (t : Option (List Nat)) : Bx × Option (List Nat) :=
  let a := rdM 4 t; let b := rdM 4 a.2; let c := rdM 4 b.2; let d := rdM 4 c.2
  (⟨a.1, b.1, c.1, d.1⟩, d.2)
def rdFsM (t : Option (List Nat)) : List Feat × Option (List Nat) := rpO rdFeatM (rdM 2 t).1.toNat (rdM 2 t).2
def ms0 (k f t : Int) : Ms := ⟨k, f, t, 0, 0, 0, false, 0, 0, false, ⟨0, 0, 0, 0⟩, [], []⟩
/-- a message's parts, by its kind -/
def rdK (k f t : Int) (s : Option (List Nat)) : Ms × Option (List Nat) :=
  if k = 5 then ({ ms0 k f t with query := (rdM 2 s).1, box := (rdBxM (rdM 2 s).2).1 }, (rdBxM (rdM 2 s).2).2)
  else if k = 6 then ({ ms0 k f t with query := (rdM 2 s).1, box := (rdBxM (rdM 2 s).2).1, applied := (rdM 4 (rdBxM (rdM 2 s).2).2).1, busy := (rdBitM (rdM 4 (rdBxM (rdM 2 s).2).2).2).1, fs := (rdFsM (rdBitM (rdM 4 (rdBxM (rdM 2 s).2).2).2).2).1 }, (rdFsM (rdBitM (rdM 4 (rdBxM (rdM 2 s).2).2).2).2).2)
  else if k = 0 then ({ ms0 k f t with node := (rdM 1 s).1, seq := (rdM 2 (rdM 1 s).2).1, base := (rdM 4 (rdM 2 (rdM 1 s).2).2).1 - 1, ops := (rdOpsM (rdM 4 (rdM 2 (rdM 1 s).2).2).2).1 }, (rdOpsM (rdM 4 (rdM 2 (rdM 1 s).2).2).2).2)
  else if k = 1 ∨ k = 2 then ({ ms0 k f t with node := (rdM 1 s).1, seq := (rdM 2 (rdM 1 s).2).1, yes := (rdBitM (rdM 2 (rdM 1 s).2).2).1 }, (rdBitM (rdM 2 (rdM 1 s).2).2).2)
  else ({ ms0 k f t with node := (rdM 1 s).1, seq := (rdM 2 (rdM 1 s).2).1 }, (rdM 2 (rdM 1 s).2).2)
def rdMsM (S : List Nat) : Ms × Option (List Nat) := rdK (S.getD 2 0 : Nat) (S.getD 3 0 : Nat) (S.getD 4 0 : Nat) (some (S.drop 5))
theorem rdBxM_put {b : Bx} (h : boxOk b) (t : List Nat) : rdBxM (some (boxB b ++ t)) = (b, some t) := by
  obtain ⟨⟨a1, a2⟩, ⟨b1, b2⟩, ⟨c1, c2⟩, ⟨d1, d2⟩, _⟩ := h
  rw [rdBxM, boxB]
  simp only [List.append_assoc]
  rw [rdM_put a1 (by omega)]
  simp only
  rw [rdM_put b1 (by omega)]
  simp only
  rw [rdM_put c1 (by omega)]
  simp only
  rw [rdM_put d1 (by omega)]
theorem rdFsM_put {l : List Feat} (hl : l.length ≤ 256) (h : featsOk l) (t : List Nat) : rdFsM (some (fsB l ++ t)) = (l, some t) := by
  rw [rdFsM, fsB, List.append_assoc, rdM_put (by omega) (by omega)]
  simp only [Int.toNat_natCast]
  refine rpO_put l t fun f hf t => ?_
  obtain ⟨i, hi, rfl⟩ := List.mem_iff_getElem.1 hf
  have := (h i hi).1
  rw [getD_feat hi] at this
  exact rdFeatM_put this t
theorem rdBitM_put (b : Bool) (t : List Nat) : rdBitM (some (bitB b ++ t)) = (b, some t) := by
  have : rdM 1 (some (bitB b ++ t)) = (if b = true then 1 else 0, some t) := by
    cases b
    · exact rdM_put (by decide) (by decide) t
    · exact rdM_put (by decide) (by decide) t
  rw [rdBitM, this]
  cases b <;> simp
theorem num1 {x : Int} (h0 : 0 ≤ x) (h1 : x < 256) : numB x 1 = [x.toNat] := by
  simp [numB]; omega
theorem rdMsM_putT {m : Ms} (h : msOk m) (z : List Nat) : rdMsM (msB m ++ z) = (m, some z) := by
  obtain ⟨⟨k0, k6⟩, ⟨f0, f7⟩, ⟨t0, t7⟩, htx, hy, ho, hq, hp⟩ := h
  have bz : ∀ {b : Bx}, zeroBox b → b = ⟨0, 0, 0, 0⟩ := fun {b} ⟨a1, a2, a3, a4⟩ => by cases b; simp only at a1 a2 a3 a4; rw [a1, a2, a3, a4]
  obtain ⟨kind, frm, to, node, seq, base, yes, query, applied, busy, box, ops, fs⟩ := m
  simp only at k0 k6 f0 f7 t0 t7 hy
  have ek : ((kind.toNat : Nat) : Int) = kind := by omega
  have ef : ((frm.toNat : Nat) : Int) = frm := by omega
  have et : ((to.toNat : Nat) : Int) = to := by omega
  have hk : kind = 0 ∨ kind = 1 ∨ kind = 2 ∨ kind = 3 ∨ kind = 4 ∨ kind = 5 ∨ kind = 6 := by omega
  unfold txM at htx
  unfold opsM at ho
  unfold queryM at hq
  unfold partM at hp
  simp only at htx ho hq hp
  have go : rdMsM (msB ⟨kind, frm, to, node, seq, base, yes, query, applied, busy, box, ops, fs⟩ ++ z) = rdK kind frm to (some (((if kTx kind = true then txB node seq else []) ++ ((if kOps kind = true then numB (base + 1) 4 ++ opsB ops else []) ++
      ((if kYes kind = true then bitB yes else []) ++ ((if kQuery kind = true then numB query 2 ++ boxB box else []) ++ (if kPart kind = true then numB applied 4 ++ (bitB busy ++ fsB fs) else []))))) ++ z)) := by
    rw [msB, rdMsM]
    simp only [num1 k0 (by omega : kind < 256), num1 f0 (by omega : frm < 256), num1 t0 (by omega : to < 256), List.cons_append, List.nil_append, List.getD_cons_succ, List.getD_cons_zero, List.drop_succ_cons, List.drop_zero, ek, ef, et]
  rw [go, rdK]
  clear go ek ef et
  rcases hk with rfl | rfl | rfl | rfl | rfl | rfl | rfl
  all_goals simp only [show kTx 0 = true from rfl, show kTx 1 = true from rfl, show kTx 2 = true from rfl, show kTx 3 = true from rfl, show kTx 4 = true from rfl, show kTx 5 = false from rfl, show kTx 6 = false from rfl, show kOps 0 = true from rfl, show kOps 1 = false from rfl, show kOps 2 = false from rfl, show kOps 3 = false from rfl, show kOps 4 = false from rfl, show kOps 5 = false from rfl, show kOps 6 = false from rfl, show kYes 0 = false from rfl, show kYes 1 = true from rfl, show kYes 2 = true from rfl, show kYes 3 = false from rfl, show kYes 4 = false from rfl, show kYes 5 = false from rfl, show kYes 6 = false from rfl, show kQuery 0 = false from rfl, show kQuery 1 = false from rfl, show kQuery 2 = false from rfl, show kQuery 3 = false from rfl, show kQuery 4 = false from rfl, show kQuery 5 = true from rfl, show kQuery 6 = true from rfl, show kPart 0 = false from rfl, show kPart 1 = false from rfl, show kPart 2 = false from rfl, show kPart 3 = false from rfl, show kPart 4 = false from rfl, show kPart 5 = false from rfl, show kPart 6 = true from rfl, if_true, Bool.false_eq_true, if_false, false_or, true_or] at htx hy ho hq hp ⊢
  all_goals simp only [Int.reduceEq, if_true, if_false, or_true, true_or, or_self, List.nil_append, List.append_nil, List.append_assoc, txB, ms0]
  · obtain ⟨a1, a2, a3, a4⟩ := htx
    obtain ⟨⟨o1, o2⟩, o3⟩ := ho
    rw [rdM_put a1 (by omega), rdM_put (by omega) (by omega)]
    simp only
    rw [rdM_put (by omega) (by omega)]
    have := rdOpsM_put o3 z
    simp only [this, hy, hq.1, bz hq.2, hp.1, hp.2.1, hp.2.2]
    congr 2
    omega
  · obtain ⟨a1, a2, a3, a4⟩ := htx
    rw [rdM_put a1 (by omega), rdM_put (by omega) (by omega)]
    have := rdBitM_put yes z
    simp only [this, ho.1, ho.2, hq.1, bz hq.2, hp.1, hp.2.1, hp.2.2]
  · obtain ⟨a1, a2, a3, a4⟩ := htx
    rw [rdM_put a1 (by omega), rdM_put (by omega) (by omega)]
    have := rdBitM_put yes z
    simp only [this, ho.1, ho.2, hq.1, bz hq.2, hp.1, hp.2.1, hp.2.2]
  · obtain ⟨a1, a2, a3, a4⟩ := htx
    have := rdM_put (x := seq) (n := 2) (by omega) (by omega) z
    rw [rdM_put a1 (by omega), this]
    simp only [hy, ho.1, ho.2, hq.1, bz hq.2, hp.1, hp.2.1, hp.2.2]
  · obtain ⟨a1, a2, a3, a4⟩ := htx
    have := rdM_put (x := seq) (n := 2) (by omega) (by omega) z
    rw [rdM_put a1 (by omega), this]
    simp only [hy, ho.1, ho.2, hq.1, bz hq.2, hp.1, hp.2.1, hp.2.2]
  · obtain ⟨⟨a1, a2⟩, a3⟩ := hq
    have := rdBxM_put a3 z
    rw [rdM_put (by omega) (by omega)]
    simp only [this, htx.1, htx.2, hy, ho.1, ho.2, hp.1, hp.2.1, hp.2.2]
  · obtain ⟨⟨a1, a2⟩, a3⟩ := hq
    obtain ⟨⟨b1, b2⟩, b3, _, b4⟩ := hp
    rw [rdM_put (by omega) (by omega)]
    simp only
    rw [rdBxM_put a3]
    simp only
    rw [rdM_put (by omega) (by omega)]
    simp only
    rw [rdBitM_put]
    have := rdFsM_put b3 b4 z
    simp only [this, htx.1, htx.2, hy, ho.1, ho.2]
theorem rdMsM_put {m : Ms} (h : msOk m) : rdMsM (msB m) = (m, some []) := by
  have := rdMsM_putT h []
  rwa [List.append_nil] at this
end Go.Proofs.Ytinonmcnofjeeaa.VM
namespace Go.Proofs.Ytinonmcnofjeeaa.VM
attribute [local irreducible] Af Nx EvO Ev Un Gd Cd EvR EvQ EvC Nc Gc Lp EvM NxM AfM GdM EvMR EvMQ EvMD EvMC Nm Gm
/-- blocks of the message's rows -/
def RB (h0 : Heap) (b : Nat) : Prop := h0.next + 2 < b
/-- what stands while the document reads a message -/
structure RG (h0 : Heap) (S : List Nat) (lo : List Op) (lf : List Feat) (c : List AV) (t : Option (List Nat)) (h : Heap) : Prop where
  rp : RR (h0.next + 1) S t h
  z : h.get h0.next = some (.cells zMs 63 0)
  m : ∃ e ver, h.get (h0.next + 2) = some (.cells c e ver)
  k : ∀ b, b < h0.next → h.get b = h0.get b
  n1 : h0.next + 2 < h.next
  lo : Lv h (RB h0) (c.getD 14 .undef) (cOpsL lo)
  lf : LR h (RB h0) (c.getD 15 .undef) 3 ((lf.map cFeat).flatten) lf.length
section
variable {h0 : Heap} {S : List Nat} {lo lo' : List Op} {lf lf' : List Feat} {c c' : List AV} {t t' : Option (List Nat)} {h h' : Heap} {e ver : Nat}
theorem RG.read (s : RG h0 S lo lf c t h) (rp : RR (h0.next + 1) S t' h') (x : ExtX (h0.next + 1) h h') : RG h0 S lo lf c t' h' := by
  have := s.n1
  have := x.1
  obtain ⟨e, v, m⟩ := s.m
  exact ⟨rp, (x.2 _ (by omega) (by omega)).trans s.z, ⟨e, v, (x.2 _ (by omega) (by omega)).trans m⟩, fun b hb => (x.2 b (by omega) (by omega)).trans (s.k b hb), by omega,
    s.lo.frame x.1 fun b hb hl => x.2 b hl (by unfold RB at hb; omega), s.lf.frame x.1 fun b hb hl => x.2 b hl (by unfold RB at hb; omega)⟩
theorem RG.put2 (s : RG h0 S lo lf c t h) (ho : Lv h (RB h0) (c'.getD 14 .undef) (cOpsL lo')) (hf : LR h (RB h0) (c'.getD 15 .undef) 3 ((lf'.map cFeat).flatten) lf'.length) : RG h0 S lo' lf' c' t (h.put (h0.next + 2) (.cells c' e ver)) := by
  have := s.n1
  have kk : ∀ b, RB h0 b → b < h.next → (h.put (h0.next + 2) (.cells c' e ver)).get b = h.get b := fun b hb _ => by unfold RB at hb; rw [Heap.get_put, if_neg (by omega)]
  exact ⟨s.rp.frame (by rw [put_next]; exact Nat.le_refl _) (by rw [Heap.get_put, if_neg (by omega)]), by rw [Heap.get_put, if_neg (by omega)]; exact s.z, ⟨e, ver, by rw [Heap.get_put, if_pos rfl]⟩, fun b hb => by rw [Heap.get_put, if_neg (by omega)]; exact s.k b hb, by rw [put_next]; omega,
    ho.frame (by rw [put_next]; exact Nat.le_refl _) kk, hf.frame (by rw [put_next]; exact Nat.le_refl _) kk⟩
theorem RG.put (s : RG h0 S lo lf c t h) (h1 : c'.getD 14 .undef = c.getD 14 .undef) (h2 : c'.getD 15 .undef = c.getD 15 .undef) : RG h0 S lo lf c' t (h.put (h0.next + 2) (.cells c' e ver)) := s.put2 (by rw [h1]; exact s.lo) (by rw [h2]; exact s.lf)
theorem RG.pushF (s : RG h0 S [] lf c t h) (h14 : c.getD 14 .undef = .nils) (f : Feat) {fv : AV} {B : Nat → Prop} (r : LR h B fv 1 (f.rings.map cRing) f.rings.length) (hB : ∀ b, B b → RB h0 b ∧ b ∉ blkOf (c.getD 15 .undef)) (hl : lf.length ≤ 1000000) :
    ∃ h5, appendV (h.mk' h.next (.cells [.int .i64 f.id, .int .i64 f.shape, fv] 52 0)) 3 40 52 (c.getD 15 .undef) (.sl h.next 0 1 1 3) = some (.sl (h.next + 1) 0 (lf.length + 1) (lf.length + 1) 3, h5) ∧ h5.get (h0.next + 2) = h.get (h0.next + 2) ∧
      ∀ c' e ver, c'.getD 14 .undef = c.getD 14 .undef → c'.getD 15 .undef = .sl (h.next + 1) 0 (lf.length + 1) (lf.length + 1) 3 → RG h0 S [] (lf ++ [f]) c' t (h5.put (h0.next + 2) (.cells c' e ver)) := by
  have em := Ext.mk (h := h) (.cells [.int .i64 f.id, .int .i64 f.shape, fv] 52 0)
  have hn : (h.mk' h.next (.cells [.int .i64 f.id, .int .i64 f.shape, fv] 52 0)).next = h.next + 1 := by rw [mk_next]; omega
  have n1 := s.n1
  have hlt := s.lf.lt
  have hv := s.lf.inB
  have l1 : Lvs (h.mk' h.next (.cells [.int .i64 f.id, .int .i64 f.shape, fv] 52 0)) (fun b => RB h0 b ∧ b ∉ blkOf (c.getD 15 .undef)) [.int .i64 f.id, .int .i64 f.shape, fv] (cFeat f) :=
    .cons .int (.cons .int (.cons ((r.lv.frame em.1 fun b _ hb => em.2 b hb).weak fun b hb _ => hB b hb) .nil))
  obtain ⟨h5, e5, r5, n5, k5⟩ := (s.lf.frame em.1 fun b _ hb => em.2 b hb).push (nb := h.next) (eb := 52) (vb := 0) (c := [.int .i64 f.id, .int .i64 f.shape, fv]) (by rw [Heap.get_mk, if_pos rfl]) rfl (by simp only [List.all_cons, List.all_nil, one_int, r.one, Bool.and_self]) l1 (by rw [hn]; unfold RB; omega) (bytes := 40) (by unfold most2; omega) 52
  rw [hn] at e5 r5 n5 k5
  have kk : ∀ b, b < h.next → b ∉ blkOf (c.getD 15 .undef) → h5.get b = h.get b := fun b hb hb' => (k5 b hb' (by omega)).trans (em.2 b hb)
  have nb : ∀ b, b ≤ h0.next + 2 → b ∉ blkOf (c.getD 15 .undef) := fun b hb hc => by have := hv b hc; unfold RB at this; omega
  refine ⟨h5, e5, kk _ n1 (nb _ (by omega)), fun c' e ver q1 q2 => ?_⟩
  have g6 : ∀ b, b ≠ h0.next + 2 → (h5.put (h0.next + 2) (.cells c' e ver)).get b = h5.get b := fun b hb => by rw [Heap.get_put, if_neg hb]
  have k6 : ∀ b, b < h0.next + 2 → (h5.put (h0.next + 2) (.cells c' e ver)).get b = h.get b := fun b hb => (g6 b (by omega)).trans (kk b (by omega) (nb b (by omega)))
  refine ⟨s.rp.frame (by rw [put_next]; omega) (k6 _ (by omega)), (k6 _ (by omega)).trans s.z, ⟨e, ver, by rw [Heap.get_put, if_pos rfl]⟩, fun b hb => (k6 b (by omega)).trans (s.k b hb), by rw [put_next]; omega, ?_, ?_⟩
  · rw [q1, h14]
    exact .nils
  · rw [q2, List.map_append, List.flatten_append, List.length_append]
    simp only [List.map_cons, List.map_nil, List.flatten_cons, List.flatten_nil, List.append_nil, List.length_singleton]
    exact r5.frame (by rw [put_next]; exact Nat.le_refl _) fun b hb _ => g6 b (by unfold RB at hb; omega)
end
section
variable {P : Program} {h0 : Heap} {S : List Nat}
theorem rg_fs (g : Pg P tab) {p0 p1 p2 p3 p4 p5 p6 p7 p8 p9 p10 p11 p12 p13 : AV} (n : Nat) : ∀ (done : List Feat) (t : Option (List Nat)) (s : T AV) (h : Heap) (rv : AV) (k : List Fr) (Q : Ex → T AV → Heap → Prop), done.length + n ≤ 100000 →
    RG h0 S [] done [p0, p1, p2, p3, p4, p5, p6, p7, p8, p9, p10, p11, p12, p13, .nils, rv] t h → sg s 0 = .str S → sg s 2 = .ptr h0.next 0 → sg s 4 = .ptr (h0.next + 1) 0 → sg s 5 = .ptr (h0.next + 2) 0 → sg s 6 = .int .i64 (done.length + n : Nat) → sg s 7 = .int .i64 done.length →
    (∀ s' h' rv', RG h0 S [] (done ++ (rpO rdFeatM n t).1) [p0, p1, p2, p3, p4, p5, p6, p7, p8, p9, p10, p11, p12, p13, .nils, rv'] (rpO rdFeatM n t).2 h' → sg s' 0 = .str S → sg s' 2 = .ptr h0.next 0 → sg s' 4 = .ptr (h0.next + 1) 0 → sg s' 5 = .ptr (h0.next + 2) 0 → Un P k Q (.exit 1) s' h') → Lp P b28_0 s h (Un P k Q) := by
  induction n with
  | zero =>
    intro done t s h rv k Q hl rs t0 t2 t4 t5 t6 t7 hQ
    refine g.lpe b28_0.eq_1 ?_
    have c1 : ¬ ((done.length : Int) < (done.length : Int)) := by omega
    rw [Nat.add_zero] at t6
    simp only [t6, t7, c1, RX, VOp.fresh, bxC, bsC, un, most, callsOf, seval, Int.reducePow, ↓reduceIte, Nat.reduceEqDiff, reduceCtorEq]
    refine hQ _ _ rv (by simpa [rpO] using rs) ?_ ?_ ?_ ?_
    · simp only [t0, sg_set, Nat.reduceEqDiff, ↓reduceIte]
    · simp only [t2, sg_set, Nat.reduceEqDiff, ↓reduceIte]
    · simp only [t4, sg_set, Nat.reduceEqDiff, ↓reduceIte]
    · simp only [t5, sg_set, Nat.reduceEqDiff, ↓reduceIte]
  | succ n ih =>
    intro done t s h rv k Q hl rs t0 t2 t4 t5 t6 t7 hQ
    refine g.lpe b28_0.eq_1 ?_
    have c1 : (done.length : Int) < ((done.length + (n + 1) : Nat) : Int) := by omega
    have w1 : IntKind.i64.wrap ((done.length : Int) + 1) = ((done.length + 1 : Nat) : Int) := by rw [w64 (by omega) (by omega)]; push_cast; rfl
    by_cases hn : t = none
    · subst hn
      obtain ⟨e, ver, x, gb⟩ := rs.rp.none
      simp only [t4, t6, t7, c1, gb, RX, VOp.fresh, bxC, bsC, un, most, callsOf, seval, Int.reducePow, ↓reduceIte, Nat.reduceEqDiff, reduceCtorEq]
      refine hQ _ _ rv (by simpa [rpO] using rs) ?_ ?_ ?_ ?_
      · simp only [t0, sg_set, Nat.reduceEqDiff, ↓reduceIte]
      · simp only [t2, sg_set, Nat.reduceEqDiff, ↓reduceIte]
      · simp only [t4, sg_set, Nat.reduceEqDiff, ↓reduceIte]
      · simp only [t5, sg_set, Nat.reduceEqDiff, ↓reduceIte]
    obtain ⟨tt, ht⟩ : ∃ tt, some tt = t := by
      cases t with
      | none => exact absurd rfl hn
      | some tt => exact ⟨tt, rfl⟩
    have hrp : rpO rdFeatM (n + 1) t = ((rdFeatM t).1 :: (rpO rdFeatM n (rdFeatM t).2).1, (rpO rdFeatM n (rdFeatM t).2).2) := by rw [← ht]; rfl
    rw [hrp] at hQ
    obtain ⟨eb, verb, xb, gb⟩ := RR.some (by rw [ht]; exact rs.rp : RR (h0.next + 1) S (some tt) h)
    have n1 := rs.n1
    obtain ⟨_, h4, ok4, fv, rfl, r4, rp4, x4⟩ := rr_feat g rs.rp (Q := fun v h' => ∃ fv, v = .agg [.int .i64 (rdFeatM t).1.id, .int .i64 (rdFeatM t).1.shape, fv] ∧ LR h' (h.next ≤ ·) fv 1 ((rdFeatM t).1.rings.map cRing) (rdFeatM t).1.rings.length ∧ RR (h0.next + 1) S (rdFeatM t).2 h' ∧ ExtX (h0.next + 1) h h') (fun fv h' a b c => ⟨fv, rfl, a, b, c⟩)
    have rs4 := rs.read rp4 x4
    have hlt : ∀ b ∈ blkOf rv, b < h.next := rs.lf.lt
    obtain ⟨h5, e5, g5, k5⟩ := rs4.pushF rfl (rdFeatM t).1 r4 (fun b hb => ⟨by unfold RB; omega, fun hc => by have := hlt b hc; omega⟩) (by omega)
    have e5 : appendV (h4.mk' h4.next (.cells [.int .i64 (rdFeatM t).1.id, .int .i64 (rdFeatM t).1.shape, fv] 52 0)) 3 40 52 rv (.sl h4.next 0 1 1 3) = some (.sl (h4.next + 1) 0 (done.length + 1) (done.length + 1) 3, h5) := e5
    obtain ⟨em, vm, hm⟩ := rs.m
    have n4 := x4.1
    have hm4 := (x4.2 (h0.next + 2) (by omega) (by omega)).trans hm
    have hm5 := g5.trans hm4
    have hfn : ¬ h0.next + 2 = h4.next := by omega
    have hmm : (h4.mk' h4.next (.cells [.int .i64 (rdFeatM t).1.id, .int .i64 (rdFeatM t).1.shape, fv] 52 0)).get (h0.next + 2) = some (.cells [p0, p1, p2, p3, p4, p5, p6, p7, p8, p9, p10, p11, p12, p13, .nils, rv] em vm) := by rw [Heap.get_mk, if_neg hfn]; exact hm4
    simp only [t4, t5, t6, t7, c1, gb, RX, VOp.fresh, bxC, bsC, un, most, callsOf, seval, Int.reducePow, ↓reduceIte, Nat.reduceEqDiff, reduceCtorEq]
    refine EvD.lk (fun _ _ _ => (.agg [.int .i64 (rdFeatM t).1.id, .int .i64 (rdFeatM t).1.shape, fv], h4)) ?_
    simp only [t4, t5, t7, hm, hm4, hm5, hmm, hfn, ok4, e5, r4.one, w1, RW, RX, VOp.fresh, bxC, bsC, un, most, callsOf, seval, Int.reducePow, ↓reduceIte, Nat.reduceEqDiff, reduceCtorEq]
    refine ⟨⟨⟨?_, ?_, trivial⟩, trivial⟩, ?_⟩
    · show Lk _ _ _ _
      simp only [Lk, wanted, hm, hm4, RX, VOp.fresh, bxC, bsC, un, most, callsOf, seval, Int.reducePow, ↓reduceIte, Nat.reduceEqDiff, reduceCtorEq]
    · show Lk _ _ _ _
      simp only [Lk, wanted, hm, hm4, hmm, hfn, RX, VOp.fresh, bxC, bsC, un, most, callsOf, seval, Int.reducePow, ↓reduceIte, Nat.reduceEqDiff, reduceCtorEq]
    refine ih (done ++ [(rdFeatM t).1]) (rdFeatM t).2 _ _ (.sl (h4.next + 1) 0 (done.length + 1) (done.length + 1) 3) k Q (by rw [List.length_append, List.length_singleton]; omega) ?_ ?_ ?_ ?_ ?_ ?_ ?_ ?_
    · exact k5 _ _ _ rfl rfl
    · simp only [t0, sg_set, Nat.reduceEqDiff, ↓reduceIte]
    · simp only [t2, sg_set, Nat.reduceEqDiff, ↓reduceIte]
    · simp only [t4, sg_set, Nat.reduceEqDiff, ↓reduceIte]
    · simp only [t5, sg_set, Nat.reduceEqDiff, ↓reduceIte]
    · simp only [t6, sg_set, Nat.reduceEqDiff, ↓reduceIte]
      rw [List.length_append, List.length_singleton]
      congr 2; omega
    · simp only [sg_set, Nat.reduceEqDiff, ↓reduceIte]
      rw [List.length_append, List.length_singleton]
    · intro s' h' rv' q1 q2 q3 q4 q5
      refine hQ s' h' rv' ?_ q2 q3 q4 q5
      simpa only [List.append_assoc, List.cons_append, List.nil_append] using q1
theorem rr_box (g : Pg P tab) {rb : Nat} {t : Option (List Nat)} {h : Heap} (rp : RR rb S t h) {Q : AV → Heap → Prop} (q : ∀ h', RR rb S (rdBxM t).2 h' → ExtX rb h h' → Q (.agg (boxV (rdBxM t).1)) h') : Cl P 79 [.ptr rb 0] h Q := by
  refine g.cl (vf := v79) rfl rfl ?_
  have hne : ¬ h.next = rb := by have := rp.1; omega
  have hrb := rp.1
  simp only [v79, RX, VOp.fresh, bxC, bsC, un, most, callsOf, seval, Int.reducePow, ↓reduceIte, Nat.reduceEqDiff, reduceCtorEq]
  have x1 := Ext.mk (h := h) (.cells [.int .i64 0, .int .i64 0, .int .i64 0, .int .i64 0] 60 0)
  have n1 : (h.mk' h.next (.cells [.int .i64 0, .int .i64 0, .int .i64 0, .int .i64 0] 60 0)).next = h.next + 1 := by rw [mk_next]; omega
  have z1 : (h.mk' h.next (.cells [.int .i64 0, .int .i64 0, .int .i64 0, .int .i64 0] 60 0)).get h.next = some (.cells [.int .i64 0, .int .i64 0, .int .i64 0, .int .i64 0] 60 0) := by rw [Heap.get_mk, if_pos rfl]
  have rp1 := rp.frame x1.1 (x1.2 rb rp.1)
  generalize h.mk' h.next (.cells [.int .i64 0, .int .i64 0, .int .i64 0, .int .i64 0] 60 0) = h1 at *
  refine rrnum_cl g (N := 4) (by decide) rp1 fun h2 rp2 x2 => ?_
  simp only [RX, VOp.fresh, bxC, bsC, un, most, callsOf, seval, Int.reducePow, ↓reduceIte, Nat.reduceEqDiff, reduceCtorEq]
  refine rrnum_cl g (N := 4) (by decide) rp2 fun h3 rp3 x3 => ?_
  simp only [RX, VOp.fresh, bxC, bsC, un, most, callsOf, seval, Int.reducePow, ↓reduceIte, Nat.reduceEqDiff, reduceCtorEq]
  refine rrnum_cl g (N := 4) (by decide) rp3 fun h4 rp4 x4 => ?_
  simp only [RX, VOp.fresh, bxC, bsC, un, most, callsOf, seval, Int.reducePow, ↓reduceIte, Nat.reduceEqDiff, reduceCtorEq]
  refine rrnum_cl g (N := 4) (by decide) rp4 fun h5 rp5 x5 => ?_
  have z5 := (x5.keep h.next hne).trans ((x4.keep h.next hne).trans ((x3.keep h.next hne).trans ((x2.keep h.next hne).trans z1)))
  have xx := x2.x.trans (x3.x.trans (x4.x.trans x5.x))
  have e2 := x2.next
  have e3 := x3.next
  have e4 := x4.next
  have e5 := x5.next
  simp only [z5, RW, RX, VOp.fresh, bxC, bsC, un, most, callsOf, seval, Int.reducePow, ↓reduceIte, Nat.reduceEqDiff, reduceCtorEq]
  refine q _ (rp5.frame (by rw [put_next]; omega) (by rw [Heap.get_put, if_neg (fun e => hne e.symm)])) ⟨by rw [put_next]; omega, fun b hb hx => ?_⟩
  rw [Heap.get_put, if_neg (by omega), xx.2 b (by omega) hx, x1.2 b hb]
end
end Go.Proofs.Ytinonmcnofjeeaa.VM
namespace Go.Proofs.Ytinonmcnofjeeaa.VM
attribute [local irreducible] Af Nx EvO Ev Un Gd Cd EvR EvQ EvC Nc Gc Lp EvM NxM AfM GdM EvMR EvMQ EvMD EvMC Nm Gm
def c28 (n : Nat) : VCode := blk n v28.body
/-- the slots that stay -/
def RT (h0 : Heap) (S : List Nat) (s : T AV) : Prop := sg s 0 = .str S ∧ sg s 2 = .ptr h0.next 0 ∧ sg s 4 = .ptr (h0.next + 1) 0 ∧ sg s 5 = .ptr (h0.next + 2) 0
theorem getMok_M {s : List Nat} (h : getMok s) : rdMsM s = (rdMs s, some []) := by
  have := rdMsM_put h.1
  rwa [h.2.1] at this
theorem getMok_ofM {s : List Nat} (h : msOk (rdMsM s).1) (e : msB (rdMsM s).1 = s) (hl : s.length ≤ 16384) : getMok s := by
  have := rdMs_put h
  rw [e] at this
  unfold getMok
  rw [this]
  exact ⟨h, e, hl⟩
theorem rdBxM_by {t : Option (List Nat)} (h : ByO t) : ByO (rdBxM t).2 := rdM_by (rdM_by (rdM_by (rdM_by h)))
theorem rdBitM_by {t : Option (List Nat)} (h : ByO t) : ByO (rdBitM t).2 := by
  unfold rdBitM
  simp only
  split
  · intro s e; cases e
  · exact rdM_by h
theorem rdM2_le {st : Option (List Nat)} (h : ByO st) : (rdM 2 st).1 ≤ 65535 := by
  cases st with
  | none => simp [rdM]
  | some t =>
    simp only [rdM]
    by_cases hl : t.length < 2
    · simp [hl]
    · rw [if_neg hl]
      have := beV_lt ((h t rfl).take 2)
      rw [List.length_take, Nat.min_eq_left (by omega)] at this
      simp only
      omega
theorem rdFsM_sm {t : Option (List Nat)} (h : ByO t) : featsSm (rdFsM t).1 := by
  unfold rdFsM
  have := rdM_le (n := 2) (by decide) h
  have h2 := rdM2_le h
  exact ⟨by have := rpO_len rdFeatM (rdM 2 t).1.toNat (rdM 2 t).2; omega, rpO_all (fun _ h => rdFeatM_by h) (fun _ h => rdFeatM_sm h) _ _ (rdM_by h)⟩
section
variable {P : Program} {h0 : Heap} {S : List Nat} {t : Option (List Nat)} {s : T AV} {h : Heap} {k : List Fr}
theorem rg_sw (g : Pg P tab) {K F U : Int} {Q : Ex → T AV → Heap → Prop} (rt : RT h0 S s) (rs : RG h0 S [] [] [.int .i64 K, .int .i64 F, .int .i64 U, .int .i64 0, .int .i64 0, .int .i64 0, .bool false, .int .i64 0, .int .i64 0, .bool false, .int .i64 0, .int .i64 0, .int .i64 0, .int .i64 0, .nils, .nils] t h)
    (hK : ∀ s' h' a u, RT h0 S s' → RG h0 S (rdK K F U t).1.ops (rdK K F U t).1.fs (msC (rdK K F U t).1 a u) (rdK K F U t).2 h' → Un P k Q .normal s' h') : Ev P (c28 4) s h (Un P k Q) := by
  obtain ⟨t0, t2, t4, t5⟩ := rt
  obtain ⟨e1, v1, hm⟩ := rs.m
  unfold rdK at hK
  by_cases k5 : K = 5
  · simp only [k5, if_true] at hK
    rw [k5] at rs hm
    simp only [c28, v28, blk, t4, t5, hm, RX, VOp.fresh, bxC, bsC, un, most, callsOf, seval, Int.reducePow, ↓reduceIte, Nat.reduceEqDiff, reduceCtorEq]
    refine rrnum_cl g (N := 2) (by decide) rs.rp fun h2 rp2 x2 => ?_
    have r2 := rs.read rp2 x2.x
    obtain ⟨e2, v2, m2⟩ := r2.m
    simp only [t4, t5, m2, RW, RX, VOp.fresh, bxC, bsC, un, most, callsOf, seval, Int.reducePow, ↓reduceIte, Nat.reduceEqDiff, reduceCtorEq]
    have r3 := r2.put (e := e2) (ver := v2 + 1) (c' := [.int .i64 5, .int .i64 F, .int .i64 U, .int .i64 0, .int .i64 0, .int .i64 0, .bool false, .int .i64 (rdM 2 t).1, .int .i64 0, .bool false, .int .i64 0, .int .i64 0, .int .i64 0, .int .i64 0, .nils, .nils]) rfl rfl
    refine rr_box g r3.rp fun h4 rp4 x4 => ?_
    have r4 := r3.read rp4 x4
    obtain ⟨e4, v4, m4⟩ := r4.m
    simp only [t4, t5, m4, RW, boxV, RX, VOp.fresh, bxC, bsC, un, most, callsOf, seval, Int.reducePow, ↓reduceIte, Nat.reduceEqDiff, reduceCtorEq]
    exact hK _ _ .nils .nils ⟨by simp only [t0, sg_set, Nat.reduceEqDiff, ↓reduceIte], by simp only [t2, sg_set, Nat.reduceEqDiff, ↓reduceIte], by simp only [t4, sg_set, Nat.reduceEqDiff, ↓reduceIte], by simp only [t5, sg_set, Nat.reduceEqDiff, ↓reduceIte]⟩ (r4.put rfl rfl)
  by_cases k6 : K = 6
  · simp only [k6, Int.reduceEq, if_true, if_false] at hK
    rw [k6] at rs hm
    simp only [c28, v28, blk, t4, t5, hm, RX, VOp.fresh, bxC, bsC, un, most, callsOf, seval, Int.reducePow, ↓reduceIte, Nat.reduceEqDiff, reduceCtorEq]
    refine rrnum_cl g (N := 2) (by decide) rs.rp fun h2 rp2 x2 => ?_
    have r2 := rs.read rp2 x2.x
    obtain ⟨e2, v2, m2⟩ := r2.m
    simp only [t4, t5, m2, RW, RX, VOp.fresh, bxC, bsC, un, most, callsOf, seval, Int.reducePow, ↓reduceIte, Nat.reduceEqDiff, reduceCtorEq]
    have r3 := r2.put (e := e2) (ver := v2 + 1) (c' := [.int .i64 6, .int .i64 F, .int .i64 U, .int .i64 0, .int .i64 0, .int .i64 0, .bool false, .int .i64 (rdM 2 t).1, .int .i64 0, .bool false, .int .i64 0, .int .i64 0, .int .i64 0, .int .i64 0, .nils, .nils]) rfl rfl
    refine rr_box g r3.rp fun h4 rp4 x4 => ?_
    have r4 := r3.read rp4 x4
    obtain ⟨e4, v4, m4⟩ := r4.m
    simp only [t4, t5, m4, RW, boxV, RX, VOp.fresh, bxC, bsC, un, most, callsOf, seval, Int.reducePow, ↓reduceIte, Nat.reduceEqDiff, reduceCtorEq]
    have r5 := r4.put (e := e4) (ver := v4 + 1) (c' := [.int .i64 6, .int .i64 F, .int .i64 U, .int .i64 0, .int .i64 0, .int .i64 0, .bool false, .int .i64 (rdM 2 t).1, .int .i64 0, .bool false, .int .i64 (rdBxM (rdM 2 t).2).1.x0, .int .i64 (rdBxM (rdM 2 t).2).1.y0, .int .i64 (rdBxM (rdM 2 t).2).1.x1, .int .i64 (rdBxM (rdM 2 t).2).1.y1, .nils, .nils]) rfl rfl
    refine rrnum_cl g (N := 4) (by decide) r5.rp fun h6 rp6 x6 => ?_
    have r6 := r5.read rp6 x6.x
    obtain ⟨e6, v6, m6⟩ := r6.m
    simp only [t4, t5, m6, RW, RX, VOp.fresh, bxC, bsC, un, most, callsOf, seval, Int.reducePow, ↓reduceIte, Nat.reduceEqDiff, reduceCtorEq]
    have r7 := r6.put (e := e6) (ver := v6 + 1) (c' := [.int .i64 6, .int .i64 F, .int .i64 U, .int .i64 0, .int .i64 0, .int .i64 0, .bool false, .int .i64 (rdM 2 t).1, .int .i64 (rdM 4 (rdBxM (rdM 2 t).2).2).1, .bool false, .int .i64 (rdBxM (rdM 2 t).2).1.x0, .int .i64 (rdBxM (rdM 2 t).2).1.y0, .int .i64 (rdBxM (rdM 2 t).2).1.x1, .int .i64 (rdBxM (rdM 2 t).2).1.y1, .nils, .nils]) rfl rfl
    refine rr_bool g r7.rp fun h8 rp8 x8 => ?_
    have r8 := r7.read rp8 x8
    obtain ⟨e8, v8, m8⟩ := r8.m
    simp only [t4, t5, m8, RW, RX, VOp.fresh, bxC, bsC, un, most, callsOf, seval, Int.reducePow, ↓reduceIte, Nat.reduceEqDiff, reduceCtorEq]
    have r9 := r8.put (e := e8) (ver := v8 + 1) (c' := [.int .i64 6, .int .i64 F, .int .i64 U, .int .i64 0, .int .i64 0, .int .i64 0, .bool false, .int .i64 (rdM 2 t).1, .int .i64 (rdM 4 (rdBxM (rdM 2 t).2).2).1, .bool (rdBitM (rdM 4 (rdBxM (rdM 2 t).2).2).2).1, .int .i64 (rdBxM (rdM 2 t).2).1.x0, .int .i64 (rdBxM (rdM 2 t).2).1.y0, .int .i64 (rdBxM (rdM 2 t).2).1.x1, .int .i64 (rdBxM (rdM 2 t).2).1.y1, .nils, .nils]) rfl rfl
    refine rrnum_cl g (N := 2) (by decide) r9.rp fun h10 rp10 x10 => ?_
    have r10 := r9.read rp10 x10.x
    have hk0 := (rdM_le (n := 2) (by decide) r9.rp.by)
    obtain ⟨n, hn⟩ : ∃ n : Nat, (rdM 2 (rdBitM (rdM 4 (rdBxM (rdM 2 t).2).2).2).2).1 = (n : Int) := ⟨(rdM 2 (rdBitM (rdM 4 (rdBxM (rdM 2 t).2).2).2).2).1.toNat, by omega⟩
    have hn6 : n ≤ 65535 := by have := rdM2_le r9.rp.by; omega
    have ef : rdFsM (rdBitM (rdM 4 (rdBxM (rdM 2 t).2).2).2).2 = rpO rdFeatM n (rdM 2 (rdBitM (rdM 4 (rdBxM (rdM 2 t).2).2).2).2).2 := by rw [rdFsM, hn, Int.toNat_natCast]
    rw [ef] at hK
    simp only [hn, RX, VOp.fresh, bxC, bsC, un, most, callsOf, seval, Int.reducePow, ↓reduceIte, Nat.reduceEqDiff, reduceCtorEq]
    refine rg_fs g n [] _ _ h10 .nils _ _ (by simp; omega) r10 ?_ ?_ ?_ ?_ ?_ ?_ ?_
    · simp only [t0, sg_set, Nat.reduceEqDiff, ↓reduceIte]
    · simp only [t2, sg_set, Nat.reduceEqDiff, ↓reduceIte]
    · simp only [t4, sg_set, Nat.reduceEqDiff, ↓reduceIte]
    · simp only [t5, sg_set, Nat.reduceEqDiff, ↓reduceIte]
    · simp only [sg_set, Nat.reduceEqDiff, ↓reduceIte]
      simp
    · simp only [sg_set, Nat.reduceEqDiff, ↓reduceIte]
      rfl
    intro s' h' rv' q1 q2 q3 q4 q5
    simp only [RX, VOp.fresh, bxC, bsC, un, most, callsOf, seval, Int.reducePow, ↓reduceIte, Nat.reduceEqDiff, reduceCtorEq]
    rw [List.nil_append] at q1
    exact hK _ _ .nils rv' ⟨q2, q3, q4, q5⟩ q1
  by_cases k0 : K = 0
  · simp only [k0, Int.reduceEq, if_true, if_false] at hK
    rw [k0] at rs hm
    simp only [c28, v28, blk, t4, t5, hm, RX, VOp.fresh, bxC, bsC, un, most, callsOf, seval, Int.reducePow, ↓reduceIte, Nat.reduceEqDiff, reduceCtorEq]
    refine rr_tx g rs.rp fun h2 rp2 x2 => ?_
    have r2 := rs.read rp2 x2
    obtain ⟨e2, v2, m2⟩ := r2.m
    simp only [t4, t5, m2, RW, RX, VOp.fresh, bxC, bsC, un, most, callsOf, seval, Int.reducePow, ↓reduceIte, Nat.reduceEqDiff, reduceCtorEq]
    have r3 := r2.put (e := e2) (ver := v2 + 1) (c' := [.int .i64 0, .int .i64 F, .int .i64 U, .int .i64 (rdM 1 t).1, .int .i64 (rdM 2 (rdM 1 t).2).1, .int .i64 0, .bool false, .int .i64 0, .int .i64 0, .bool false, .int .i64 0, .int .i64 0, .int .i64 0, .int .i64 0, .nils, .nils]) rfl rfl
    refine rrnum_cl g (N := 4) (by decide) r3.rp fun h4 rp4 x4 => ?_
    have hb4 := rdM_le (n := 4) (by decide) r3.rp.by
    have w1 : IntKind.i64.wrap ((rdM 4 (rdM 2 (rdM 1 t).2).2).1 - 1) = (rdM 4 (rdM 2 (rdM 1 t).2).2).1 - 1 := w64 (by omega) (by omega)
    have r4 := r3.read rp4 x4.x
    obtain ⟨e4, v4, m4⟩ := r4.m
    simp only [t4, t5, m4, w1, RW, RX, VOp.fresh, bxC, bsC, un, most, callsOf, seval, Int.reducePow, ↓reduceIte, Nat.reduceEqDiff, reduceCtorEq]
    have r5 := r4.put (e := e4) (ver := v4 + 1) (c' := [.int .i64 0, .int .i64 F, .int .i64 U, .int .i64 (rdM 1 t).1, .int .i64 (rdM 2 (rdM 1 t).2).1, .int .i64 ((rdM 4 (rdM 2 (rdM 1 t).2).2).1 - 1), .bool false, .int .i64 0, .int .i64 0, .bool false, .int .i64 0, .int .i64 0, .int .i64 0, .int .i64 0, .nils, .nils]) rfl rfl
    refine rr_ops g r5.rp fun v h6 l6 rp6 x6 => ?_
    have r6 := r5.read rp6 x6
    obtain ⟨e6, v6, m6⟩ := r6.m
    have n5 := r5.n1
    simp only [t4, t5, m6, RW, l6.one, l6.cells, RX, VOp.fresh, bxC, bsC, un, most, callsOf, seval, Int.reducePow, ↓reduceIte, Nat.reduceEqDiff, reduceCtorEq]
    exact hK _ _ v .nils ⟨by simp only [t0, sg_set, Nat.reduceEqDiff, ↓reduceIte], by simp only [t2, sg_set, Nat.reduceEqDiff, ↓reduceIte], by simp only [t4, sg_set, Nat.reduceEqDiff, ↓reduceIte], by simp only [t5, sg_set, Nat.reduceEqDiff, ↓reduceIte]⟩ (r6.put2 ((lv_opsL l6).weak fun b hb _ => by unfold RB; omega) r6.lf)
  by_cases k1 : K = 1
  · simp only [k1, Int.reduceEq, if_true, if_false, true_or] at hK
    rw [k1] at rs hm
    simp only [c28, v28, blk, t4, t5, hm, RX, VOp.fresh, bxC, bsC, un, most, callsOf, seval, Int.reducePow, ↓reduceIte, Nat.reduceEqDiff, reduceCtorEq]
    refine rr_tx g rs.rp fun h2 rp2 x2 => ?_
    have r2 := rs.read rp2 x2
    obtain ⟨e2, v2, m2⟩ := r2.m
    simp only [t4, t5, m2, RW, RX, VOp.fresh, bxC, bsC, un, most, callsOf, seval, Int.reducePow, ↓reduceIte, Nat.reduceEqDiff, reduceCtorEq]
    have r3 := r2.put (e := e2) (ver := v2 + 1) (c' := [.int .i64 1, .int .i64 F, .int .i64 U, .int .i64 (rdM 1 t).1, .int .i64 (rdM 2 (rdM 1 t).2).1, .int .i64 0, .bool false, .int .i64 0, .int .i64 0, .bool false, .int .i64 0, .int .i64 0, .int .i64 0, .int .i64 0, .nils, .nils]) rfl rfl
    refine rr_bool g r3.rp fun h4 rp4 x4 => ?_
    have r4 := r3.read rp4 x4
    obtain ⟨e4, v4, m4⟩ := r4.m
    simp only [t4, t5, m4, RW, RX, VOp.fresh, bxC, bsC, un, most, callsOf, seval, Int.reducePow, ↓reduceIte, Nat.reduceEqDiff, reduceCtorEq]
    exact hK _ _ .nils .nils ⟨by simp only [t0, sg_set, Nat.reduceEqDiff, ↓reduceIte], by simp only [t2, sg_set, Nat.reduceEqDiff, ↓reduceIte], by simp only [t4, sg_set, Nat.reduceEqDiff, ↓reduceIte], by simp only [t5, sg_set, Nat.reduceEqDiff, ↓reduceIte]⟩ (r4.put rfl rfl)
  by_cases k2 : K = 2
  · simp only [k2, Int.reduceEq, if_true, if_false, or_true] at hK
    rw [k2] at rs hm
    simp only [c28, v28, blk, t4, t5, hm, RX, VOp.fresh, bxC, bsC, un, most, callsOf, seval, Int.reducePow, ↓reduceIte, Nat.reduceEqDiff, reduceCtorEq]
    refine rr_tx g rs.rp fun h2 rp2 x2 => ?_
    have r2 := rs.read rp2 x2
    obtain ⟨e2, v2, m2⟩ := r2.m
    simp only [t4, t5, m2, RW, RX, VOp.fresh, bxC, bsC, un, most, callsOf, seval, Int.reducePow, ↓reduceIte, Nat.reduceEqDiff, reduceCtorEq]
    have r3 := r2.put (e := e2) (ver := v2 + 1) (c' := [.int .i64 2, .int .i64 F, .int .i64 U, .int .i64 (rdM 1 t).1, .int .i64 (rdM 2 (rdM 1 t).2).1, .int .i64 0, .bool false, .int .i64 0, .int .i64 0, .bool false, .int .i64 0, .int .i64 0, .int .i64 0, .int .i64 0, .nils, .nils]) rfl rfl
    refine rr_bool g r3.rp fun h4 rp4 x4 => ?_
    have r4 := r3.read rp4 x4
    obtain ⟨e4, v4, m4⟩ := r4.m
    simp only [t4, t5, m4, RW, RX, VOp.fresh, bxC, bsC, un, most, callsOf, seval, Int.reducePow, ↓reduceIte, Nat.reduceEqDiff, reduceCtorEq]
    exact hK _ _ .nils .nils ⟨by simp only [t0, sg_set, Nat.reduceEqDiff, ↓reduceIte], by simp only [t2, sg_set, Nat.reduceEqDiff, ↓reduceIte], by simp only [t4, sg_set, Nat.reduceEqDiff, ↓reduceIte], by simp only [t5, sg_set, Nat.reduceEqDiff, ↓reduceIte]⟩ (r4.put rfl rfl)
  simp only [k0, k1, k2, k5, k6, if_false, or_self] at hK
  simp only [c28, v28, blk, t4, t5, hm, k0, k1, k2, k5, k6, RX, VOp.fresh, bxC, bsC, un, most, callsOf, seval, Int.reducePow, ↓reduceIte, Nat.reduceEqDiff, reduceCtorEq]
  refine rr_tx g rs.rp fun h2 rp2 x2 => ?_
  have r2 := rs.read rp2 x2
  obtain ⟨e2, v2, m2⟩ := r2.m
  simp only [t4, t5, m2, RW, RX, VOp.fresh, bxC, bsC, un, most, callsOf, seval, Int.reducePow, ↓reduceIte, Nat.reduceEqDiff, reduceCtorEq]
  exact hK _ _ .nils .nils ⟨by simp only [t0, sg_set, Nat.reduceEqDiff, ↓reduceIte], by simp only [t2, sg_set, Nat.reduceEqDiff, ↓reduceIte], by simp only [t4, sg_set, Nat.reduceEqDiff, ↓reduceIte], by simp only [t5, sg_set, Nat.reduceEqDiff, ↓reduceIte]⟩ (r2.put rfl rfl)
theorem rdK_sm {K F U : Int} (h : ByO t) : opsSm (rdK K F U t).1.ops ∧ featsSm (rdK K F U t).1.fs := by
  have o0 : opsSm [] := ⟨by simp, by simp⟩
  have f0 : featsSm [] := ⟨by simp, by simp⟩
  unfold rdK
  split
  · exact ⟨o0, f0⟩
  split
  · exact ⟨o0, rdFsM_sm (rdBitM_by (rdM_by (rdBxM_by (rdM_by h))))⟩
  split
  · exact ⟨rdOpsM_sm (rdM_by (rdM_by (rdM_by h))), f0⟩
  split
  · exact ⟨o0, f0⟩
  · exact ⟨o0, f0⟩
theorem rg_end (g : Pg P tab) {Q : AV → Heap → Prop} (rt : RT h0 S s) {a u : AV} (rs : RG h0 S (rdMsM S).1.ops (rdMsM S).1.fs (msC (rdMsM S).1 a u) (rdMsM S).2 h) (so : opsSm (rdMsM S).1.ops) (sf : featsSm (rdMsM S).1.fs)
    (q1 : getMok S → ∀ h', Lv h' (h0.next ≤ ·) a (cOpsL (rdMs S).ops) → Lv h' (h0.next ≤ ·) u (cFeats (rdMs S).fs) → Ext h0 h' → Q (.tup [.agg (msC (rdMs S) a u), .int .i64 0]) h')
    (q2 : ¬ getMok S → ∀ h', Ext h0 h' → Q (.tup [.agg zMs, .int .i64 1600]) h') : Ev P (.seq (c28 5) (.seq (c28 6) (rst 7 v28.body))) s h (Un P [] (Fin v28.res Q)) := by
  obtain ⟨t0, t2, t4, t5⟩ := rt
  obtain ⟨e1, v1, hm⟩ := rs.m
  have la : Lv h (RB h0) a (cOpsL (rdMsM S).1.ops) := rs.lo
  have lu : Lv h (RB h0) u (cFeats (rdMsM S).1.fs) := rs.lf.lv
  have hz := rs.z
  have gn := rs.n1
  have oa : a.one = true := la.one_row
  have ou : u.one = true := lu.one_row
  have hf : Fzs true h [.agg (msC (rdMsM S).1 a u)] [.agg (msC (rdMsM S).1 (cOpsL (rdMsM S).1.ops) (cFeats (rdMsM S).1.fs))] :=
    .cons (.agg (.cons (.int _ _) (.cons (.int _ _) (.cons (.int _ _) (.cons (.int _ _) (.cons (.int _ _) (.cons (.int _ _) (.cons (.bool _) (.cons (.int _ _) (.cons (.int _ _) (.cons (.bool _) (.cons (.int _ _) (.cons (.int _ _) (.cons (.int _ _) (.cons (.int _ _) (.cons la.fz (.cons lu.fz .nil))))))))))))))))) .nil
  have rp := rs.rp
  obtain ⟨_, _, _, e9, v9, a9, b9, gb, ha9, hst⟩ := rp
  have bad : ∀ c e v, Ext h0 (h.put h0.next (.cells c e v)) := fun c e v => ⟨by rw [put_next]; omega, fun b hb => by rw [Heap.get_put, if_neg (by omega)]; exact rs.k b hb⟩
  have hm' := hm
  unfold msC at hm
  simp only [c28, v28, blk, rst, t5, hm, RX, VOp.fresh, bxC, bsC, un, most, callsOf, seval, Int.reducePow, ↓reduceIte, Nat.reduceEqDiff, reduceCtorEq]
  have go : getMok S → msOk (rdMsM S).1 ∧ msB (rdMsM S).1 = S ∧ S.length ≤ 16384 := fun hg => by rw [getMok_M hg]; exact hg
  by_cases ok : msOk (rdMsM S).1
  · refine (rMsgPut_good g (cOpsL_is so) (cFeats_is sf) ok).cl hf ?_
    rintro v rfl
    unfold msAns
    by_cases hl : (msB (rdMsM S).1).length ≤ 16384
    · rw [if_pos hl]
      by_cases hs : msB (rdMsM S).1 = S
      · have hg := getMok_ofM ok hs (by rw [← hs]; exact hl)
        have em := getMok_M hg
        have e1 : (rdMsM S).1 = rdMs S := by rw [em]
        have e2 : (rdMsM S).2 = some [] := by rw [em]
        rw [e2] at hst
        cases b9 with
        | true => simp at hst
        | false =>
          have ea : a9 = S.length := by
            simp only [Bool.false_eq_true, if_false, Option.some.injEq] at hst
            have := congrArg List.length hst
            simp only [List.length_nil, List.length_drop] at this
            omega
          have hnn : (a9 : Int) = (S.length : Int) := by omega
          rw [hs]
          rw [e1] at la lu hm ⊢
          simp only [t0, t2, t4, t5, gb, hnn, hz, hm, oa, ou, RW, RX, VOp.fresh, bxC, bsC, un, most, callsOf, seval, Int.reducePow, ↓reduceIte, Nat.reduceEqDiff, reduceCtorEq]
          refine q1 hg _ ?_ ?_ (bad _ _ _)
          · exact (la.put (fun e => by unfold RB at e; omega) _).weak fun b hb _ => by unfold RB at hb; omega
          · exact (lu.put (fun e => by unfold RB at e; omega) _).weak fun b hb _ => by unfold RB at hb; omega
      · have hs' := hs
        cases b9 with
        | true =>
          simp only [t0, t2, t4, t5, gb, hz, RW, hs, RX, VOp.fresh, bxC, bsC, un, most, callsOf, seval, Int.reducePow, ↓reduceIte, Nat.reduceEqDiff, reduceCtorEq]
          exact q2 (fun c => hs (go c).2.1) _ (bad _ _ _)
        | false =>
          by_cases hnn : (a9 : Int) = (S.length : Int)
          · simp only [t0, t2, t4, t5, gb, hnn, hz, RW, hs, RX, VOp.fresh, bxC, bsC, un, most, callsOf, seval, Int.reducePow, ↓reduceIte, Nat.reduceEqDiff, reduceCtorEq]
            exact q2 (fun c => hs (go c).2.1) _ (bad _ _ _)
          · simp only [t0, t2, t4, t5, gb, hnn, hz, RW, hs, RX, VOp.fresh, bxC, bsC, un, most, callsOf, seval, Int.reducePow, ↓reduceIte, Nat.reduceEqDiff, reduceCtorEq]
            exact q2 (fun c => hs (go c).2.1) _ (bad _ _ _)
    · rw [if_neg hl]
      cases b9 with
      | true =>
        simp only [t0, t2, t4, t5, gb, hz, RW, RX, VOp.fresh, bxC, bsC, un, most, callsOf, seval, Int.reducePow, ↓reduceIte, Nat.reduceEqDiff, reduceCtorEq]
        exact q2 (fun c => hl (by rw [(go c).2.1]; exact (go c).2.2)) _ (bad _ _ _)
      | false =>
        by_cases hnn : (a9 : Int) = (S.length : Int)
        · simp only [t0, t2, t4, t5, gb, hnn, hz, RW, RX, VOp.fresh, bxC, bsC, un, most, callsOf, seval, Int.reducePow, ↓reduceIte, Nat.reduceEqDiff, reduceCtorEq]
          exact q2 (fun c => hl (by rw [(go c).2.1]; exact (go c).2.2)) _ (bad _ _ _)
        · simp only [t0, t2, t4, t5, gb, hnn, hz, RW, RX, VOp.fresh, bxC, bsC, un, most, callsOf, seval, Int.reducePow, ↓reduceIte, Nat.reduceEqDiff, reduceCtorEq]
          exact q2 (fun c => hl (by rw [(go c).2.1]; exact (go c).2.2)) _ (bad _ _ _)
  · refine (rMsgPut_bad g (cOpsL_is so) (cFeats_is sf) ok).cl hf ?_
    rintro v rfl
    cases b9 with
    | true =>
      simp only [t0, t2, t4, t5, gb, hz, RW, RX, VOp.fresh, bxC, bsC, un, most, callsOf, seval, Int.reducePow, ↓reduceIte, Nat.reduceEqDiff, reduceCtorEq]
      exact q2 (fun c => ok (go c).1) _ (bad _ _ _)
    | false =>
      by_cases hnn : (a9 : Int) = (S.length : Int)
      · simp only [t0, t2, t4, t5, gb, hnn, hz, RW, RX, VOp.fresh, bxC, bsC, un, most, callsOf, seval, Int.reducePow, ↓reduceIte, Nat.reduceEqDiff, reduceCtorEq]
        exact q2 (fun c => ok (go c).1) _ (bad _ _ _)
      · simp only [t0, t2, t4, t5, gb, hnn, hz, RW, RX, VOp.fresh, bxC, bsC, un, most, callsOf, seval, Int.reducePow, ↓reduceIte, Nat.reduceEqDiff, reduceCtorEq]
        exact q2 (fun c => ok (go c).1) _ (bad _ _ _)
end
end Go.Proofs.Ytinonmcnofjeeaa.VM
namespace Go.Proofs.Ytinonmcnofjeeaa.VM
attribute [local irreducible] Af Nx EvO Ev Un Gd Cd EvR EvQ EvC Nc Gc Lp EvM NxM AfM GdM EvMR EvMQ EvMD EvMC Nm Gm
section
variable {P : Program} {h0 h : Heap} {S : List Nat} {Q : AV → Heap → Prop}
theorem slice2 {x y : Nat} {r : List Nat} : sliceS (.str (x :: y :: r)) none (some (.int .i64 2)) = some (.str [x, y]) := by
  have : (2 : Int) ≤ ((r.length : Nat) : Int) + 1 + 1 := by omega
  simp [sliceS, bounds, natOf, this]
theorem rg_ini (g : Pg P tab) (hby : By S) (hsl : S.length < 4611686018427387904) {B : VCode}
    (q2 : ¬ getMok S → ∀ h', Ext h0 h' → Q (.tup [.agg zMs, .int .i64 1600]) h')
    (hK : ∀ s' h', RT h0 S s' → RG h0 S [] [] [.int .i64 (S.getD 2 0 : Nat), .int .i64 (S.getD 3 0 : Nat), .int .i64 (S.getD 4 0 : Nat), .int .i64 0, .int .i64 0, .int .i64 0, .bool false, .int .i64 0, .int .i64 0, .bool false, .int .i64 0, .int .i64 0, .int .i64 0, .int .i64 0, .nils, .nils] (some (S.drop 5)) h' → Ev P B s' h' (Un P [] (Fin v28.res Q))) :
    Ev P (.seq (c28 0) (.seq (c28 1) (.seq (c28 2) (.seq (c28 3) B)))) (argsT [.str S] 0 .e) h0 (Un P [] (Fin v28.res Q)) := by
  have x1 := Ext.mk (h := h0) (.cells zMs 63 0)
  have bad : ∀ c e v, Ext h0 ((h0.mk' h0.next (.cells zMs 63 0)).put h0.next (.cells c e v)) := fun c e v => x1.putn (Nat.le_refl _) _
  have ln : getMok S → 5 ≤ S.length ∧ S.length ≤ 16384 ∧ S.getD 0 0 = 77 ∧ S.getD 1 0 = 83 := fun hg => by
    have h1 := hg.2.1
    refine ⟨?_, hg.2.2, by rw [← h1, msB]; rfl, by rw [← h1, msB]; rfl⟩
    rw [← h1, msB]
    simp only [List.length_cons, List.length_append, numB_len]
    omega
  by_cases l1 : S.length < 5
  · have c1 : ((S.length : Nat) : Int) < 5 := by omega
    simp only [c28, v28, blk, c1, RW, RX, VOp.fresh, bxC, bsC, un, most, callsOf, seval, Int.reducePow, ↓reduceIte, Nat.reduceEqDiff, reduceCtorEq]
    exact q2 (fun c => by have := ln c; omega) _ (bad _ _ _)
  have c1 : ¬ ((S.length : Nat) : Int) < 5 := by omega
  by_cases l2 : 16384 < S.length
  · have c2 : 16384 < ((S.length : Nat) : Int) := by omega
    simp only [c28, v28, blk, c1, c2, RW, RX, VOp.fresh, bxC, bsC, un, most, callsOf, seval, Int.reducePow, ↓reduceIte, Nat.reduceEqDiff, reduceCtorEq]
    exact q2 (fun c => by have := ln c; omega) _ (bad _ _ _)
  have c2 : ¬ 16384 < ((S.length : Nat) : Int) := by omega
  obtain ⟨x, y, a, b, c, r, rfl⟩ : ∃ x y a b c r, S = x :: y :: a :: b :: c :: r := by
    match S, l1 with
    | x :: y :: a :: b :: c :: r, _ => exact ⟨x, y, a, b, c, r, rfl⟩
    | [_, _, _, _], l => simp at l
    | [_, _, _], l => simp at l
    | [_, _], l => simp at l
    | [_], l => simp at l
    | [], l => simp at l
  have d1 : ¬ (((r.length + 5 : Nat) : Nat) : Int) < 5 := by omega
  have d2 : ¬ 16384 < (((r.length + 5 : Nat) : Nat) : Int) := by simp only [List.length_cons] at l2; omega
  by_cases hx : [x, y] = [77, 83]
  · have ba : a < 256 := hby a (by simp)
    have bb : b < 256 := hby b (by simp)
    have bc : c < 256 := hby c (by simp)
    have wa : IntKind.i64.wrap (a : Int) = (a : Int) := w64 (by omega) (by omega)
    have wb : IntKind.i64.wrap (b : Int) = (b : Int) := w64 (by omega) (by omega)
    have wc : IntKind.i64.wrap (c : Int) = (c : Int) := w64 (by omega) (by omega)
    simp only [c28, v28, blk, d1, d2, slice2, hx, wa, wb, wc, HN, RW, RX, VOp.fresh, bxC, bsC, un, most, callsOf, seval, Int.reducePow, ↓reduceIte, Nat.reduceEqDiff, reduceCtorEq]
    refine hK _ _ ⟨by simp only [sg_set, Nat.reduceEqDiff, ↓reduceIte], by simp only [sg_set, Nat.reduceEqDiff, ↓reduceIte], by simp only [sg_set, Nat.reduceEqDiff, ↓reduceIte], by simp only [sg_set, Nat.reduceEqDiff, ↓reduceIte]⟩ ⟨⟨?_, hby, hsl, 125, 0, 5, false, ?_, by simp only [List.length_cons]; omega, ?_⟩, ?_, ⟨63, 1, ?_⟩, ?_, ?_, .nils, .nil _ _ _⟩
    · rw [put_next, mk_next, mk_next, mk_next]; omega
    · rw [Heap.get_put, if_neg (by omega), Heap.get_mk, if_neg (by omega), Heap.get_mk, if_pos rfl]; rfl
    · simp
    · rw [Heap.get_put, if_neg (by omega), Heap.get_mk, if_neg (by omega), Heap.get_mk, if_neg (by omega), Heap.get_mk, if_pos rfl]
    · rw [Heap.get_put, if_pos rfl]; simp
    · intro b hb
      rw [Heap.get_put, if_neg (by omega), Heap.get_mk, if_neg (by omega), Heap.get_mk, if_neg (by omega), Heap.get_mk, if_neg (by omega)]
    · rw [put_next, mk_next, mk_next, mk_next]; omega
  · simp only [c28, v28, blk, d1, d2, slice2, hx, HN, RW, RX, VOp.fresh, bxC, bsC, un, most, callsOf, seval, Int.reducePow, ↓reduceIte, Nat.reduceEqDiff, reduceCtorEq]
    refine q2 (fun hg => hx ?_) _ (bad _ _ _)
    have := ln hg
    simp only [List.getD_cons_zero, List.getD_cons_succ] at this
    rw [this.2.2.1, this.2.2.2]
theorem rmsg_get (g : Pg P tab) (hby : By S) (hsl : S.length < 4611686018427387904)
    (q1 : getMok S → ∀ a u h', Lv h' (h.next ≤ ·) a (cOpsL (rdMs S).ops) → Lv h' (h.next ≤ ·) u (cFeats (rdMs S).fs) → Ext h h' → Q (.tup [.agg (msC (rdMs S) a u), .int .i64 0]) h')
    (q2 : ¬ getMok S → ∀ h', Ext h h' → Q (.tup [.agg zMs, .int .i64 1600]) h') : Cl P 28 [.str S] h Q := by
  refine g.cl (vf := v28) rfl rfl ?_
  have e : v28.body = .seq (c28 0) (.seq (c28 1) (.seq (c28 2) (.seq (c28 3) (.seq (c28 4) (.seq (c28 5) (.seq (c28 6) (rst 7 v28.body))))))) := rfl
  rw [e]
  refine rg_ini g hby hsl q2 fun s1 h1 rt rs => ?_
  rw [ev_seq]
  have sm := rdK_sm (K := (S.getD 2 0 : Nat)) (F := (S.getD 3 0 : Nat)) (U := (S.getD 4 0 : Nat)) rs.rp.by
  refine rg_sw g rt rs fun s2 h2 a u rt rs => ?_
  rw [un_seq]
  exact rg_end g rt (a := a) (u := u) rs sm.1 sm.2 (fun ok h' la lu x => q1 ok a u h' la lu x) q2
end
end Go.Proofs.Ytinonmcnofjeeaa.VM
namespace Go.Proofs.Ytinonmcnofjeeaa.VM
attribute [local irreducible] Af Nx EvO Ev Un Gd Cd EvR EvQ EvC Nc Gc Lp EvM NxM AfM GdM EvMR EvMQ EvMD EvMC Nm Gm
theorem Has.sim {h h' : Heap} {L : List (Nat × List AV)} {B : Nat → Prop} (H : Has h L) (hB : ∀ p ∈ L, ¬ B p.1) (s : Sim B h h') : Has h' L := fun p hp => ⟨Nat.lt_of_lt_of_le (H p hp).1 s.1, let ⟨e, ver, g⟩ := (H p hp).2; ⟨e, ver, ((s.2 _ (H p hp).1).1 (hB p hp)).trans g⟩⟩
section
variable {h : Heap} {B : Nat → Prop}
theorem ms_lvs {m : Ms} {a u a' u' : AV} (la : Lv h B a a') (lu : Lv h B u u') : Lvs h B (msC m a u) (msC m a' u') :=
  .cons .int (.cons .int (.cons .int (.cons .int (.cons .int (.cons .int (.cons .bool (.cons .int (.cons .int (.cons .bool (.cons .int (.cons .int (.cons .int (.cons .int (.cons la (.cons lu .nil)))))))))))))))
theorem LFeats.of {v : AV} {l : List Feat} (a : Lv h B v (cFeats l)) (hs : featsSm l) : LFeats h B v := by
  by_cases h0 : l.length = 0
  · have : l = [] := List.eq_nil_of_length_eq_zero h0
    subst this
    exact .inl a.nils_inv
  · obtain ⟨b, off, cap, rfl, hB, hb, hg⟩ := a.row_inv (z := 3) (by omega) (flat_len8 (F := cFeat) fun _ => rfl)
    refine .inr ⟨b, off, l.length, cap, rfl, hs.1, hB, hb, fun i hi => ?_⟩
    have s2 := hs.2 _ (List.getElem_mem hi)
    have get : ∀ j (y : AV), j < 3 → (cFeat l[i])[j]? = some y → ∃ a, At h b (off + i * 3 + j) a ∧ Lv h B a y := fun j y hj hy => by
      rw [Nat.add_assoc]
      exact hg (i * 3 + j) y (by rw [flat_get (F := cFeat) (z := 3) (fun _ => rfl) hi hj]; exact hy)
    obtain ⟨x0, a0, l0⟩ := get 0 _ (by decide) rfl
    rw [l0.int_inv] at a0
    obtain ⟨x2, a2, l2⟩ := get 2 _ (by decide) rfl
    exact ⟨⟨_, a0⟩, x2, a2, LRings.of l2 s2.2.2.1 s2.2.2.2⟩
end
def mz : Ms := ⟨0, 0, 0, 0, 0, 0, false, 0, 0, false, ⟨0, 0, 0, 0⟩, [], []⟩
open Classical in
noncomputable def gM (s : List Nat) : Ms := if getMok s then rdMs s else mz
open Classical in
noncomputable def gME (s : List Nat) : Int := if getMok s then 0 else 1600
theorem gM_sm {s : List Nat} (hby : By s) : opsSm (gM s).ops ∧ featsSm (gM s).fs := by
  unfold gM
  split
  · exact rdMs_so hby
  · exact ⟨⟨by simp [mz], by simp [mz]⟩, ⟨by simp [mz], by simp [mz]⟩⟩
section
variable {P : Program}
theorem gMsg_cl (g : Pg P tab) {s : List Nat} (hby : By s) (hsl : s.length < 4611686018427387904) {h : Heap} {Q : AV → Heap → Prop} (q : ∀ a u h', Lv h' (h.next ≤ ·) a (cOpsL (gM s).ops) → Lv h' (h.next ≤ ·) u (cFeats (gM s).fs) → Ext h h' → Q (.tup [.agg (msC (gM s) a u), .int .i64 (gME s)]) h') : Cl P 27 [.str s] h Q := by
  refine msg_get g hby hsl (fun ok a u h' la lu x => ?_) fun no h' x => ?_
  · have e1 : gM s = rdMs s := if_pos ok
    have e2 : gME s = 0 := if_pos ok
    rw [e1, e2] at q
    exact q a u h' la lu x
  · have e1 : gM s = mz := if_neg no
    have e2 : gME s = 1600 := if_neg no
    rw [e1, e2] at q
    exact q .nils .nils h' .nils .nils x
theorem rMsg_cl (g : Pg P tab) {s : List Nat} (hby : By s) (hsl : s.length < 4611686018427387904) {h : Heap} {Q : AV → Heap → Prop} (q : ∀ a u h', Lv h' (h.next ≤ ·) a (cOpsL (gM s).ops) → Lv h' (h.next ≤ ·) u (cFeats (gM s).fs) → Ext h h' → Q (.tup [.agg (msC (gM s) a u), .int .i64 (gME s)]) h') : Cl P 28 [.str s] h Q := by
  refine rmsg_get g hby hsl (fun ok a u h' la lu x => ?_) fun no h' x => ?_
  · have e1 : gM s = rdMs s := if_pos ok
    have e2 : gME s = 0 := if_pos ok
    rw [e1, e2] at q
    exact q a u h' la lu x
  · have e1 : gM s = mz := if_neg no
    have e2 : gME s = 1600 := if_neg no
    rw [e1, e2] at q
    exact q .nils .nils h' .nils .nils x
theorem mput_both (g : Pg P tab) {m : Ms} {a u a' u' : AV} (ha : IsL 112 ROp a m.ops) (hu : IsL 40 RFeat u m.fs) (ha' : IsL 112 ROp a' m.ops) (hu' : IsL 40 RFeat u' m.fs) : ∃ b e, Pu P 25 [.agg (msC m a u)] (fun v => v = .tup [.str b, .int .i64 e]) ∧ Pu P 26 [.agg (msC m a' u')] (fun v => v = .tup [.str b, .int .i64 e]) := by
  by_cases ok : msOk m
  · have p1 := msgPut_good g ha hu ok
    have p2 := rMsgPut_good g ha' hu' ok
    unfold msAns at p1 p2
    by_cases hl : (msB m).length ≤ 16384
    · simp only [hl, if_true] at p1 p2
      exact ⟨_, _, p1, p2⟩
    · simp only [hl, if_false] at p1 p2
      exact ⟨_, _, p1, p2⟩
  · exact ⟨_, _, msgPut_bad g ha hu ok, rMsgPut_bad g ha' hu' ok⟩
theorem messages_pu (g : Pg P tab) {m : Ms} {a u : AV} (ha : IsL 112 ROp a m.ops) (hu : IsL 40 RFeat u m.fs) {s : List Nat} (hby : By s) (hsl : s.length < 4611686018427387904) : Pu P 6 [.agg (msC m a u), .str s] (fun v => v = .bool true) := by
  have oa := isL_1 ha
  have ou := isL_1 hu
  have tc : AV.tolds [.agg (msC m a u)] = true := by simp [AV.tolds, AV.told, tolds_ms ha hu]
  have sm := gM_sm hby
  have iso := cOpsL_is sm.1
  have isf := cFeats_is sm.2
  refine g.pu (vf := v6) rfl rfl ?_
  simp only [v6, msC, RW, oa, ou, RX, VOp.fresh, bxC, bsC, un, most, callsOf, seval, Int.reducePow, ↓reduceIte, Nat.reduceEqDiff, reduceCtorEq]
  refine copyOps_cl g ha fun vo to h1 lo io co oo x1 => ?_
  have H1 : Has h1 [(1, msC m a u), (0, msC m a u)] := (((Has.nil.mk (Nat.le_refl _)).mk (Nat.le_refl 1)).put (by simp)).ext x1
  obtain ⟨e1, v1, g1⟩ := H1.get (b := 1) (.head _)
  obtain ⟨e0, v0, g0⟩ := H1.get (b := 0) (.tail _ (.head _))
  have lo1 : Lv h1 (2 ≤ ·) vo to := lo
  simp only [msC, g1, g0, RW, oa, ou, oo, co, RX, VOp.fresh, bxC, bsC, un, most, callsOf, seval, Int.reducePow, ↓reduceIte, Nat.reduceEqDiff, reduceCtorEq]
  refine copyFeats_cl g hu fun vf tf h2 lf if_ cf of x2 => ?_
  have n1 : 2 ≤ h1.next := H1.lt (.head _)
  have H2 : Has h2 [(1, msC m vo u), (0, msC m a u)] := (H1.put (by simp)).ext x2
  obtain ⟨e1, v1, g1⟩ := H2.get (b := 1) (.head _)
  obtain ⟨e0, v0, g0⟩ := H2.get (b := 0) (.tail _ (.head _))
  have lo2 : Lv h2 (2 ≤ ·) vo to := (lo1.put (by decide) _).frame x2.1 fun b _ hb => x2.2 b hb
  have lf2 : Lv h2 (2 ≤ ·) vf tf := lf.weak fun b hb _ => Nat.le_trans n1 hb
  clear lo1 lo lf
  simp only [msC, g1, g0, RW, oa, ou, oo, co, of, cf, RX, VOp.fresh, bxC, bsC, un, most, callsOf, seval, Int.reducePow, ↓reduceIte, Nat.reduceEqDiff, reduceCtorEq]
  obtain ⟨pb, pe, pp, pq⟩ := mput_both g io if_ ha hu
  refine pp.cl (.cons (.agg (ms_lvs (lo2.put (b := 1) (by decide) _) (lf2.put (by decide) _)).fzs) .nil) ?_
  rintro v rfl
  simp only [msC, g1, g0, RX, VOp.fresh, bxC, bsC, un, most, callsOf, seval, Int.reducePow, ↓reduceIte, Nat.reduceEqDiff, reduceCtorEq]
  refine pq.go tc ?_
  rintro v rfl
  simp only [RX, VOp.fresh, bxC, bsC, un, most, callsOf, seval, Int.reducePow, ↓reduceIte, Nat.reduceEqDiff, reduceCtorEq]
  refine gMsg_cl g hby hsl fun v1 v2 h3 l1 l2 x3 => ?_
  have n2 : 2 ≤ h2.next := H2.lt (.head _)
  have H3 : Has h3 [(1, msC m vo vf), (0, msC m a u)] := (H2.put (by simp)).ext x3
  have lo3 : Lv h3 (2 ≤ ·) vo to := (lo2.put (by decide) _).frame x3.1 fun b _ hb => x3.2 b hb
  have lf3 : Lv h3 (2 ≤ ·) vf tf := (lf2.put (by decide) _).frame x3.1 fun b _ hb => x3.2 b hb
  have o1 := l1.one_row
  have o2 := l2.one_row
  simp only [msC, RW, o1, o2, RX, VOp.fresh, bxC, bsC, un, most, callsOf, seval, Int.reducePow, ↓reduceIte, Nat.reduceEqDiff, reduceCtorEq]
  refine rMsg_cl g hby hsl fun w1 w2 h4 k1 k2 x4 => ?_
  have n3 : 2 ≤ h3.next := H3.lt (.head _)
  have nn3 : ∀ b, b < h3.next + 1 → b < h4.next := fun b hb => by have := x4.1; rw [new_next] at this; omega
  have H4 : Has h4 [(h3.next, msC (gM s) v1 v2), (1, msC m vo vf), (0, msC m a u)] := (H3.new).ext x4
  have lo4 : Lv h4 (2 ≤ ·) vo to := (lo3.frame Ext.new.1 fun b _ hb => Ext.new.2 b hb).frame x4.1 fun b _ hb => x4.2 b hb
  have lf4 : Lv h4 (2 ≤ ·) vf tf := (lf3.frame Ext.new.1 fun b _ hb => Ext.new.2 b hb).frame x4.1 fun b _ hb => x4.2 b hb
  have l14 : Lv h4 (· < h3.next) v1 (cOpsL (gM s).ops) := ((l1.weak (B' := (· < h3.next)) fun b _ hl => hl).frame Ext.new.1 fun b _ hb => Ext.new.2 b hb).frame x4.1 fun b _ hb => x4.2 b hb
  have l24 : Lv h4 (· < h3.next) v2 (cFeats (gM s).fs) := ((l2.weak (B' := (· < h3.next)) fun b _ hl => hl).frame Ext.new.1 fun b _ hb => Ext.new.2 b hb).frame x4.1 fun b _ hb => x4.2 b hb
  have q1 := k1.one_row
  have q2 := k2.one_row
  obtain ⟨e1, v1', g1⟩ := H4.get (b := 1) (.tail _ (.head _))
  obtain ⟨e0, v0, g0⟩ := H4.get (b := 0) (.tail _ (.tail _ (.head _)))
  obtain ⟨e3, v3, g3⟩ := H4.get (b := h3.next) (.head _)
  have z0 : ¬ 0 = h4.next := by have := nn3 0 (by omega); omega
  have z1 : ¬ 1 = h4.next := by have := nn3 1 (by omega); omega
  have z3 : ¬ h3.next = h4.next := by have := nn3 h3.next (by omega); omega
  simp only [msC, RW, q1, q2, RX, VOp.fresh, bxC, bsC, un, most, callsOf, seval, Int.reducePow, ↓reduceIte, Nat.reduceEqDiff, reduceCtorEq]
  refine (num_pu g pe).go rfl ?_
  rintro v rfl
  simp only [msC, g3, z3, RX, VOp.fresh, bxC, bsC, un, most, callsOf, seval, Int.reducePow, ↓reduceIte, Nat.reduceEqDiff, reduceCtorEq]
  have E4 := Ext.new (h := h4) (o := .cells zMs 63 0) (o' := .cells (msC (gM s) w1 w2) 63 1)
  have fr : ∀ {B : Nat → Prop} {x y : AV}, Lv h4 B x y → Lv ((h4.mk' h4.next (.cells zMs 63 0)).put h4.next (.cells (msC (gM s) w1 w2) 63 1)) B x y := fun l => l.frame E4.1 fun b _ hb => E4.2 b hb
  refine (sMsg_pu g iso isf iso isf).cl (.cons (.agg (ms_lvs (fr l14) (fr l24)).fzs) (.cons (.agg (ms_lvs (fr k1) (fr k2)).fzs) .nil)) ?_
  rintro v rfl
  simp only [RX, VOp.fresh, bxC, bsC, un, most, callsOf, seval, Int.reducePow, ↓reduceIte, Nat.reduceEqDiff, reduceCtorEq]
  refine (num_pu g _).go rfl ?_
  rintro v rfl
  simp only [msC, g0, g1, z0, z1, RX, VOp.fresh, bxC, bsC, un, most, callsOf, seval, Int.reducePow, ↓reduceIte, Nat.reduceEqDiff, reduceCtorEq]
  refine (sMsg_pu g io if_ ha hu).cl (.cons (.agg (ms_lvs (fr lo4) (fr lf4)).fzs) (Fzs.refl tc)) ?_
  rintro v rfl
  simp only [msC, g3, z3, HN, RX, VOp.fresh, bxC, bsC, un, most, callsOf, seval, Int.reducePow, ↓reduceIte, Nat.reduceEqDiff, reduceCtorEq]
  have E5 := Ext.mk (h := (h4.mk' h4.next (.cells zMs 63 0)).put h4.next (.cells (msC (gM s) w1 w2) 63 1)) (.cells (msC (gM s) v1 v2) 63 0)
  rw [new_next] at E5
  have H5 : Has (((h4.mk' h4.next (.cells zMs 63 0)).put h4.next (.cells (msC (gM s) w1 w2) 63 1)).mk' (h4.next + 1) (.cells (msC (gM s) v1 v2) 63 0)) [(h4.next + 1, msC (gM s) v1 v2), (h4.next, msC (gM s) w1 w2)] := (((H4.sub (M := []) (by simp)).new)).mk (by rw [new_next]; exact Nat.le_refl _)
  have fr5 : ∀ {B : Nat → Prop} {x y : AV}, Lv h4 B x y → Lv (((h4.mk' h4.next (.cells zMs 63 0)).put h4.next (.cells (msC (gM s) w1 w2) 63 1)).mk' (h4.next + 1) (.cells (msC (gM s) v1 v2) 63 0)) B x y := fun l => (fr l).frame E5.1 fun b _ hb => E5.2 b hb
  have k15 := fr5 (k1.weak (B' := fun b => h3.next < b ∧ b < h4.next) fun b hb hl => ⟨by rw [new_next] at hb; omega, hl⟩)
  have k25 := fr5 (k2.weak (B' := fun b => h3.next < b ∧ b < h4.next) fun b hb hl => ⟨by rw [new_next] at hb; omega, hl⟩)
  have l15 := fr5 l14
  have l25 := fr5 l24
  clear fr fr5 E5 E4 H4 l14 l24 lo4 lf4 g0 g1 g3 x4 x3 x2 x1
  refine spMsgs_cl g (B := (· < h3.next)) (m := gM s) (u := v1) (v := v2) (nb := h4.next + 1) (H5.get (.head _)).choose_spec.choose_spec (H5.lt (.head _)) (LOps.of l15 sm.1) (LFeats.of l25 sm.2) fun _ h5 s5 => ?_
  have n34 : h3.next < h4.next := nn3 _ (Nat.lt_succ_self _)
  have H6 : Has h5 [(h4.next, msC (gM s) w1 w2)] := (H5.sub (by simp)).sim (fun p hp => by rw [List.mem_singleton.1 hp]; exact fun (c : h4.next < h3.next ∨ h4.next = h4.next + 1) => by omega) s5
  have k16 := k15.frame s5.1 fun b (hb : h3.next < b ∧ b < h4.next) hl => (s5.2 b hl).1 (fun (c : b < h3.next ∨ b = h4.next + 1) => by omega)
  have k26 := k25.frame s5.1 fun b (hb : h3.next < b ∧ b < h4.next) hl => (s5.2 b hl).1 (fun (c : b < h3.next ∨ b = h4.next + 1) => by omega)
  clear k15 k25 l15 l25 H5 s5
  simp only [RX, VOp.fresh, bxC, bsC, un, most, callsOf, seval, Int.reducePow, ↓reduceIte, Nat.reduceEqDiff, reduceCtorEq]
  refine gMsg_cl g hby hsl fun u1 u2 h6 m1 m2 x6 => ?_
  have H7 := H6.ext x6
  obtain ⟨e4, v4, g4⟩ := H7.get (.head _)
  have z4 : ¬ h4.next = h6.next := by have := H7.lt (.head _); omega
  have o3 := m1.one_row
  have o4 := m2.one_row
  simp only [msC, RW, o3, o4, g4, z4, RX, VOp.fresh, bxC, bsC, un, most, callsOf, seval, Int.reducePow, ↓reduceIte, Nat.reduceEqDiff, reduceCtorEq]
  have E6 := Ext.new (h := h6) (o := .cells zMs 63 0) (o' := .cells (msC (gM s) u1 u2) 63 1)
  have fr6 : ∀ {B : Nat → Prop} {x y : AV}, Lv h6 B x y → Lv ((h6.mk' h6.next (.cells zMs 63 0)).put h6.next (.cells (msC (gM s) u1 u2) 63 1)) B x y := fun l => l.frame E6.1 fun b _ hb => E6.2 b hb
  refine (sMsg_pu g iso isf iso isf).cl (.cons (.agg (ms_lvs (fr6 m1) (fr6 m2)).fzs) (.cons (.agg (ms_lvs (fr6 (k16.frame x6.1 fun b _ hb => x6.2 b hb)) (fr6 (k26.frame x6.1 fun b _ hb => x6.2 b hb))).fzs) .nil)) ?_
  rintro v rfl
  simp only [RX, VOp.fresh, bxC, bsC, un, most, callsOf, seval, Int.reducePow, ↓reduceIte, Nat.reduceEqDiff, reduceCtorEq]
  refine (awake16_pu g).go rfl ?_
  rintro v rfl
  simp only [RX, VOp.fresh, bxC, bsC, un, most, callsOf, seval, Int.reducePow, ↓reduceIte, Nat.reduceEqDiff, reduceCtorEq]
/-- what the laws are handed -/
abbrev shMs : List Sh := [.int .i64, .int .i64, .int .i64, .int .i64, .int .i64, .int .i64, .bool, .int .i64, .int .i64, .bool, .int .i64, .int .i64, .int .i64, .int .i64, .sl 112 shOp, .sl 40 shFeat]
theorem wMs {c : List AV} (h : Ws shMs c) : ∃ m a u, c = msC m a u ∧ IsL 112 ROp a m.ops ∧ IsL 40 RFeat u m.fs := by
  cases h with | cons h1 t => cases t with | cons h2 t => cases t with | cons h3 t => cases t with | cons h4 t => cases t with | cons h5 t => cases t with | cons h6 t => cases t with | cons h7 t => cases t with | cons h8 t => cases t with | cons h9 t => cases t with | cons h10 t => cases t with | cons h11 t => cases t with | cons h12 t => cases t with | cons h13 t => cases t with | cons h14 t => cases t with | cons h15 t => cases t with | cons h16 t =>
    cases t; cases h1 with | int _ n1 w1 => cases h2 with | int _ n2 w2 => cases h3 with | int _ n3 w3 => cases h4 with | int _ n4 w4 => cases h5 with | int _ n5 w5 => cases h6 with | int _ n6 w6 => cases h7 with | bool b7 => cases h8 with | int _ n8 w8 => cases h9 with | int _ n9 w9 => cases h10 with | bool b10 => cases h11 with | int _ n11 w11 => cases h12 with | int _ n12 w12 => cases h13 with | int _ n13 w13 => cases h14 with | int _ n14 w14 =>
      obtain ⟨l15, e15⟩ := h15.isL wOp
      obtain ⟨l16, e16⟩ := h16.isL wFeat
      exact ⟨⟨n1, n2, n3, n4, n5, n6, b7, n8, n9, b10, ⟨n11, n12, n13, n14⟩, l15, l16⟩, _, _, rfl, e15, e16⟩
end
end Go.Proofs.Ytinonmcnofjeeaa.VM
