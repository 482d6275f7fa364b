/- The document's reader: points, rings, features. -/
import Derived.Test.YtinonmcnofjeeaaL11Rr
namespace Go.Proofs.Ytinonmcnofjeeaa.VM
set_option linter.unusedSimpArgs false
set_option linter.unusedVariables false
set_option linter.defProp false
set_option maxHeartbeats 1000000
attribute [local irreducible] Af Nx EvO Ev Un Gd Cd EvR EvQ EvC Nc Gc Lp EvM NxM AfM GdM EvMR EvMQ EvMD EvMC Nm Gm
theorem RR.none {rb : Nat} {S : List Nat} {h : Heap} (r : RR rb S none h) : ∃ e ver x, h.get rb = some (.cells [.str S, .int .i64 x, .bool true] e ver) := by
  obtain ⟨a, b, c, e, ver, x, y, d, z, w⟩ := r
  cases y with
  | true => exact ⟨e, ver, _, d⟩
  | false => simp at w
theorem RR.some {rb : Nat} {S t : List Nat} {h : Heap} (r : RR rb S (some t) h) : ∃ e ver x, h.get rb = some (.cells [.str S, .int .i64 x, .bool false] e ver) := by
  obtain ⟨a, b, c, e, ver, x, y, d, z, w⟩ := r
  cases y with
  | true => simp at w
  | false => exact ⟨e, ver, _, d⟩
section
variable {P : Program}
theorem rr_pts (g : Pg P tab) {rb : Nat} {S : List Nat} {h1 : Heap} (hrb : rb < h1.next) (n : Nat) : ∀ (done : List Pt) (st : Option (List Nat)) (s : T AV) (h : Heap) (k : List Fr) (Q : Ex → T AV → Heap → Prop), done.length + n ≤ 1000 →
    LR h (h1.next ≤ ·) (sg s 7) 2 ((done.map cPt).flatten) done.length → RR rb S st h → ExtX rb h1 h → sg s 0 = .ptr rb 0 → sg s 6 = .int .i64 (done.length + n : Nat) → sg s 8 = .int .i64 done.length →
    (∀ s' h', LR h' (h1.next ≤ ·) (sg s' 7) 2 (((done ++ (rpO rdPtM n st).1).map cPt).flatten) (done ++ (rpO rdPtM n st).1).length → RR rb S (rpO rdPtM n st).2 h' → ExtX rb h1 h' → (∀ j, j = 0 ∨ j = 2 ∨ j = 3 ∨ j = 4 ∨ j = 5 → sg s' j = sg s j) → Un P k Q (.exit 2) s' h') → Lp P b80_0 s h (Un P k Q) := by
  induction n with
  | zero =>
    intro done st s h k Q hl r rp ex h0 h6 h8 hQ
    refine g.lpe b80_0.eq_1 ?_
    have c1 : ¬ ((done.length : Int) < (done.length : Int)) := by omega
    rw [Nat.add_zero] at h6
    simp only [h6, h8, c1, R0, R1, R2, R3, R4, R5, R6, R7, R8, R9, VOp.fresh, bxC, bsC, R10, un, most, callsOf, List.contains_nil, List.contains_cons, beq_iff_eq, List.getElem?_cons_zero, List.getElem?_cons_succ, seval, Option.map_none, Int.reducePow, ↓reduceIte, Nat.reduceEqDiff, reduceCtorEq, and_self]
    refine hQ _ _ ?_ rp ex ?_
    · simp only [sg_set, Nat.reduceEqDiff, ↓reduceIte]
      simpa [rpO] using r
    · rintro j (rfl | rfl | rfl | rfl | rfl) <;> simp only [sg_set, Nat.reduceEqDiff, ↓reduceIte]
  | succ n ih =>
    intro done st s h k Q hl r rp ex h0 h6 h8 hQ
    refine g.lpe b80_0.eq_1 ?_
    have c1 : (done.length : Int) < ((done.length + (n + 1) : Nat) : Int) := by omega
    have w1 : IntKind.i64.wrap ((done.length : Int) + 1) = ((done.length + 1 : Nat) : Int) := by rw [w64 (by omega) (by omega)]; push_cast; rfl
    cases st with
    | none =>
      obtain ⟨e, ver, x, gb⟩ := rp.none
      simp only [h0, h6, h8, c1, gb, R0, R1, R2, R3, R4, R5, R6, R7, R8, R9, VOp.fresh, bxC, bsC, R10, un, most, callsOf, List.contains_nil, List.contains_cons, beq_iff_eq, List.getElem?_cons_zero, List.getElem?_cons_succ, seval, Option.map_none, Int.reducePow, ↓reduceIte, Nat.reduceEqDiff, reduceCtorEq, and_self]
      refine hQ _ _ ?_ rp ex ?_
      · simp only [sg_set, Nat.reduceEqDiff, ↓reduceIte]
        simpa [rpO] using r
      · rintro j (rfl | rfl | rfl | rfl | rfl) <;> simp only [sg_set, Nat.reduceEqDiff, ↓reduceIte]
    | some t =>
      obtain ⟨e, ver, x, gb⟩ := rp.some
      simp only [h0, h6, h8, c1, gb, R0, R1, R2, R3, R4, R5, R6, R7, R8, R9, VOp.fresh, bxC, bsC, R10, un, most, callsOf, List.contains_nil, List.contains_cons, beq_iff_eq, List.getElem?_cons_zero, List.getElem?_cons_succ, seval, Option.map_none, Int.reducePow, ↓reduceIte, Nat.reduceEqDiff, reduceCtorEq, and_self]
      refine rrnum_cl g (N := 4) (by decide) rp fun h2 rp2 x2 => ?_
      simp only [h0, R0, R1, R2, R3, R4, R5, R6, R7, R8, R9, VOp.fresh, bxC, bsC, R10, un, most, callsOf, List.contains_nil, List.contains_cons, beq_iff_eq, List.getElem?_cons_zero, List.getElem?_cons_succ, seval, Option.map_none, Int.reducePow, ↓reduceIte, Nat.reduceEqDiff, reduceCtorEq, and_self]
      refine rrnum_cl g (N := 4) (by decide) rp2 fun h3 rp3 x3 => ?_
      have hnb : ¬ h1.next ≤ rb := by omega
      have r3 := (r.nx x2 hnb).nx x3 hnb
      have ex3 := (ex.trans x2.x).trans x3.x
      have em := Ext.mk (h := h3) (.cells [.int .i64 (rdM 4 (some t)).1, .int .i64 (rdM 4 (rdM 4 (some t)).2).1] 48 0)
      have hn3 : (h3.mk' h3.next (.cells [.int .i64 (rdM 4 (some t)).1, .int .i64 (rdM 4 (rdM 4 (some t)).2).1] 48 0)).next = h3.next + 1 := by rw [mk_next]; omega
      obtain ⟨h4, e4, r4, n4, k4⟩ := (r3.frame em.1 fun b _ hb => em.2 b hb).push (nb := h3.next) (eb := 48) (vb := 0) (c := [.int .i64 (rdM 4 (some t)).1, .int .i64 (rdM 4 (rdM 4 (some t)).2).1]) (by rw [Heap.get_mk, if_pos rfl]) rfl rfl (Lvs.tolds rfl rfl) (by rw [hn3]; have := ex3.1; omega) (bytes := 16) (by unfold most2; omega) 48
      rw [hn3] at e4 r4 n4 k4
      have hv := r3.inB
      have kk : ∀ b, b < h3.next → b ∉ blkOf (sg s 7) → h4.get b = h3.get b := fun b hb hn => (k4 b hn (by omega)).trans (em.2 b hb)
      have hrb3 : rb < h3.next := rp3.1
      simp only [h0, h8, e4, w1, R0, R1, R2, R3, R4, R5, R6, R7, R8, R9, VOp.fresh, bxC, bsC, R10, un, most, callsOf, List.contains_nil, List.contains_cons, beq_iff_eq, List.getElem?_cons_zero, List.getElem?_cons_succ, seval, Option.map_none, Int.reducePow, ↓reduceIte, Nat.reduceEqDiff, reduceCtorEq, and_self]
      refine ih (done ++ [⟨(rdM 4 (some t)).1, (rdM 4 (rdM 4 (some t)).2).1⟩]) (rdM 4 (rdM 4 (some t)).2).2 _ h4 k Q (by rw [List.length_append, List.length_singleton]; omega) ?_ ?_ ?_ ?_ ?_ ?_ ?_
      · simp only [sg_set, Nat.reduceEqDiff, ↓reduceIte]
        simpa only [List.map_append, List.flatten_append, List.map_cons, List.map_nil, List.flatten_cons, List.flatten_nil, List.append_nil, List.length_append, List.length_singleton, cPt] using r4
      · exact rp3.frame (by omega) (kk rb hrb3 fun hc => hnb (hv rb hc))
      · exact ⟨by have := ex3.1; omega, fun b hb hx => (kk b (by have := ex3.1; omega) fun hc => by have := hv b hc; omega).trans (ex3.2 b hb hx)⟩
      · simp only [h0, sg_set, Nat.reduceEqDiff, ↓reduceIte]
      · simp only [h6, sg_set, Nat.reduceEqDiff, ↓reduceIte]
        rw [List.length_append, List.length_singleton]
        congr 2; omega
      · simp only [sg_set, Nat.reduceEqDiff, ↓reduceIte]
        rw [List.length_append, List.length_singleton]
      · intro s' h' q1 q2 q3 q4
        refine hQ s' h' ?_ q2 q3 fun j hj => (q4 j hj).trans ?_
        · simpa only [rpO, rdPtM, List.append_assoc, List.cons_append, List.nil_append] using q1
        · rcases hj with rfl | rfl | rfl | rfl | rfl <;> simp only [sg_set, Nat.reduceEqDiff, ↓reduceIte]
theorem rr_rings (g : Pg P tab) {rb fb N0 : Nat} {S : List Nat} {G : Nat → Option Blk} {p0 p1 : AV} (hrb : rb < N0) (hfb : fb < N0) (hne : fb ≠ rb) (n : Nat) : ∀ (done : List (List Pt)) (st : Option (List Nat)) (s : T AV) (h : Heap) (rv : AV) (k : List Fr) (Q : Ex → T AV → Heap → Prop), done.length + n ≤ 1000 →
    N0 ≤ h.next → (∃ e ver, h.get fb = some (.cells [p0, p1, rv] e ver)) → LR h (N0 ≤ ·) rv 1 (done.map cRing) done.length → RR rb S st h → (∀ b, b < N0 → b ≠ rb → b ≠ fb → h.get b = G b) → sg s 0 = .ptr rb 0 → sg s 3 = .ptr fb 0 → sg s 4 = .int .i64 (done.length + n : Nat) → sg s 5 = .int .i64 done.length →
    (∀ s' h' rv', (∃ e ver, h'.get fb = some (.cells [p0, p1, rv'] e ver)) → LR h' (N0 ≤ ·) rv' 1 ((done ++ (rpO rdRingM n st).1).map cRing) (done ++ (rpO rdRingM n st).1).length → RR rb S (rpO rdRingM n st).2 h' → (∀ b, b < N0 → b ≠ rb → b ≠ fb → h'.get b = G b) → N0 ≤ h'.next → (∀ j, j = 2 ∨ j = 3 → sg s' j = sg s j) → Un P k Q (.exit 0) s' h') → Lp P b80_1 s h (Un P k Q) := by
  induction n with
  | zero =>
    intro done st s h rv k Q hl hn0 hf r rp ex h0 h3 h4 h5 hQ
    refine g.lpe b80_1.eq_1 ?_
    have c1 : ¬ ((done.length : Int) < (done.length : Int)) := by omega
    rw [Nat.add_zero] at h4
    simp only [h4, h5, c1, R0, R1, R2, R3, R4, R5, R6, R7, R8, R9, VOp.fresh, bxC, bsC, R10, un, most, callsOf, List.contains_nil, List.contains_cons, beq_iff_eq, List.getElem?_cons_zero, List.getElem?_cons_succ, seval, Option.map_none, Int.reducePow, ↓reduceIte, Nat.reduceEqDiff, reduceCtorEq, and_self]
    refine hQ _ _ rv hf ?_ rp ex hn0 ?_
    · simpa [rpO] using r
    · rintro j (rfl | rfl) <;> simp only [sg_set, Nat.reduceEqDiff, ↓reduceIte]
  | succ n ih =>
    intro done st s h rv k Q hl hn0 hf r rp ex h0 h3 h4 h5 hQ
    refine g.lpe b80_1.eq_1 ?_
    have c1 : (done.length : Int) < ((done.length + (n + 1) : Nat) : Int) := by omega
    have w1 : IntKind.i64.wrap ((done.length : Int) + 1) = ((done.length + 1 : Nat) : Int) := by rw [w64 (by omega) (by omega)]; push_cast; rfl
    have hnb : ¬ N0 ≤ rb := by omega
    cases st with
    | none =>
      obtain ⟨e, ver, x, gb⟩ := rp.none
      simp only [h0, h4, h5, c1, gb, R0, R1, R2, R3, R4, R5, R6, R7, R8, R9, VOp.fresh, bxC, bsC, R10, un, most, callsOf, List.contains_nil, List.contains_cons, beq_iff_eq, List.getElem?_cons_zero, List.getElem?_cons_succ, seval, Option.map_none, Int.reducePow, ↓reduceIte, Nat.reduceEqDiff, reduceCtorEq, and_self]
      refine hQ _ _ rv hf ?_ rp ex hn0 ?_
      · simpa [rpO] using r
      · rintro j (rfl | rfl) <;> simp only [sg_set, Nat.reduceEqDiff, ↓reduceIte]
    | some t =>
      obtain ⟨e, ver, x, gb⟩ := rp.some
      simp only [h0, h4, h5, c1, gb, R0, R1, R2, R3, R4, R5, R6, R7, R8, R9, VOp.fresh, bxC, bsC, R10, un, most, callsOf, List.contains_nil, List.contains_cons, beq_iff_eq, List.getElem?_cons_zero, List.getElem?_cons_succ, seval, Option.map_none, Int.reducePow, ↓reduceIte, Nat.reduceEqDiff, reduceCtorEq, and_self]
      refine rrnum_cl g (N := 1) (by decide) rp fun h2 rp2 x2 => ?_
      have hby := rp.by
      have hk := rdM1_le hby
      have hk0 := (rdM_le (n := 1) (by decide) hby).1
      obtain ⟨m, hm⟩ : ∃ m : Nat, (rdM 1 (some t)).1 = (m : Int) := ⟨(rdM 1 (some t)).1.toNat, by omega⟩
      have e2 := x2.next
      simp only [h0, h3, h4, h5, hm, R0, R1, R2, R3, R4, R5, R6, R7, R8, R9, VOp.fresh, bxC, bsC, R10, un, most, callsOf, List.contains_nil, List.contains_cons, beq_iff_eq, List.getElem?_cons_zero, List.getElem?_cons_succ, seval, Option.map_none, Int.reducePow, ↓reduceIte, Nat.reduceEqDiff, reduceCtorEq, and_self]
      refine rr_pts g (h1 := h2) (by omega) m [] _ _ h2 _ _ (by simp; omega) ?_ rp2 ExtX.refl ?_ ?_ ?_ ?_
      · simp only [sg_set, Nat.reduceEqDiff, ↓reduceIte]
        exact .nil _ _ _
      · simp only [h0, sg_set, Nat.reduceEqDiff, ↓reduceIte]
      · simp only [sg_set, Nat.reduceEqDiff, ↓reduceIte]
        simp
      · simp only [sg_set, Nat.reduceEqDiff, ↓reduceIte]
        rfl
      intro s' h4' r4 rp4 x4 ks
      have a0 := ks 0 (by simp)
      have a2 := ks 2 (by simp)
      have a3 := ks 3 (by simp)
      have a4 := ks 4 (by simp)
      have a5 := ks 5 (by simp)
      simp only [sg_set, Nat.reduceEqDiff, ↓reduceIte, h0, h3, h4, h5] at a0 a2 a3 a4 a5
      clear ks
      obtain ⟨ef, vf, hf⟩ := hf
      have hf4 : h4'.get fb = some (.cells [p0, p1, rv] ef vf) := (x4.2 fb (by omega) hne).trans ((x2.keep fb hne).trans hf)
      have r4' : LR h4' (N0 ≤ ·) rv 1 (done.map cRing) done.length := (r.nx x2 hnb).frame x4.1 fun b hb hlt => x4.2 b hlt fun e => hnb (e ▸ hb)
      rw [List.nil_append] at r4
      generalize hv4 : sg s' 7 = v4 at r4
      have em := Ext.mk (h := h4') (.cells [v4] 49 0)
      have hn4 : (h4'.mk' h4'.next (.cells [v4] 49 0)).next = h4'.next + 1 := by rw [mk_next]; omega
      have hlt2 := (r.nx x2 hnb).lt
      have lv4 : Lvs (h4'.mk' h4'.next (.cells [v4] 49 0)) (fun b => N0 ≤ b ∧ b ∉ blkOf rv) [v4] [cRing (rpO rdPtM m (rdM 1 (some t)).2).1] := by
        refine .cons ?_ .nil
        have l := r4.lv
        exact (l.frame em.1 fun b _ hb => em.2 b hb).weak fun b hb _ => ⟨by omega, fun hc => by have := hlt2 b hc; omega⟩
      obtain ⟨h5', e5, r5, n5, k5⟩ := (r4'.frame em.1 fun b _ hb => em.2 b hb).push (nb := h4'.next) (eb := 49) (vb := 0) (c := [v4]) (by rw [Heap.get_mk, if_pos rfl]) rfl (by simp [r4.one]) lv4 (by rw [hn4]; have := x4.1; omega) (bytes := 24) (by unfold most2; omega) 49
      rw [hn4] at e5 r5 n5 k5
      have kk : ∀ b, b < h4'.next → b ∉ blkOf rv → h5'.get b = h4'.get b := fun b hb hn => (k5 b hn (by omega)).trans (em.2 b hb)
      have hv := r4'.inB
      have hf5 : h5'.get fb = some (.cells [p0, p1, rv] ef vf) := (kk fb (by have := x4.1; omega) fun hc => by have := hv fb hc; omega).trans hf4
      have hfn : ¬ fb = h4'.next := by have := x4.1; omega
      have hvc := r4.cells
      simp only [a0, a3, a4, a5, hv4, hf4, hf5, hfn, e5, w1, RW, hvc, R0, R1, R2, R3, R4, R5, R6, R7, R8, R9, VOp.fresh, bxC, bsC, R10, un, most, callsOf, List.contains_nil, List.contains_cons, beq_iff_eq, List.getElem?_cons_zero, List.getElem?_cons_succ, seval, Option.map_none, Int.reducePow, ↓reduceIte, Nat.reduceEqDiff, reduceCtorEq, and_self]
      have er : rdRingM (some t) = (rpO rdPtM m (rdM 1 (some t)).2) := by rw [rdRingM, hm, Int.toNat_natCast]
      rw [← er] at lv4 r5 rp4
      refine ih (done ++ [(rdRingM (some t)).1]) (rdRingM (some t)).2 _ _ (.sl (h4'.next + 1) 0 (done.length + 1) (done.length + 1) 1) k Q (by rw [List.length_append, List.length_singleton]; omega) ?_ ?_ ?_ ?_ ?_ ?_ ?_ ?_ ?_ ?_
      · rw [put_next]; have := x4.1; omega
      · exact ⟨ef, vf + 1, by rw [Heap.get_put, if_pos rfl]⟩
      · have r6 := (r5.weak (B' := fun b => N0 ≤ b ∧ b ≠ fb) fun b hb _ => ⟨hb, by omega⟩).frame (h' := h5'.put fb (.cells [p0, p1, .sl (h4'.next + 1) 0 (done.length + 1) (done.length + 1) 1] ef (vf + 1))) (by rw [put_next]; exact Nat.le_refl _) fun b hb _ => by rw [Heap.get_put, if_neg hb.2]
        have r7 := r6.weak (B' := (N0 ≤ ·)) fun b hb _ => hb.1
        simpa only [List.map_append, List.map_cons, List.map_nil, List.length_append, List.length_singleton] using r7
      · exact (rp4.frame (by omega) (kk rb rp4.1 fun hc => by have := hv rb hc; omega)).frame (by rw [put_next]; exact Nat.le_refl _) (by rw [Heap.get_put, if_neg (fun e => hne e.symm)])
      · intro b hb hx hf'
        rw [Heap.get_put, if_neg hf', kk b (by have := x4.1; omega) (fun hc => by have := hv b hc; omega), x4.2 b (by omega) hx, x2.keep b hx, ex b hb hx hf']
      · simp only [a0, sg_set, Nat.reduceEqDiff, ↓reduceIte]
      · simp only [a3, sg_set, Nat.reduceEqDiff, ↓reduceIte]
      · simp only [a4, sg_set, Nat.reduceEqDiff, ↓reduceIte]
        rw [List.length_append, List.length_singleton]
        congr 2; omega
      · simp only [sg_set, Nat.reduceEqDiff, ↓reduceIte]
        rw [List.length_append, List.length_singleton]
      · intro s'' h' rv' q0 q1 q2 q3 q4 q5
        refine hQ s'' h' rv' q0 ?_ q2 q3 q4 fun j hj => (q5 j hj).trans ?_
        · simpa only [rpO, List.append_assoc, List.cons_append, List.nil_append] using q1
        · rcases hj with rfl | rfl
          · simp only [a2, sg_set, Nat.reduceEqDiff, ↓reduceIte]
          · simp only [a3, h3, sg_set, Nat.reduceEqDiff, ↓reduceIte]
end
end Go.Proofs.Ytinonmcnofjeeaa.VM
