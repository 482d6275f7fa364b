/- The program's reader: points, rings, features, maps, operations. -/
import Derived.Test.YtinonmcnofjeeaaL11Can
namespace Go.Proofs.Ytinonmcnofjeeaa.VM
set_option linter.unusedSimpArgs false
set_option linter.unusedVariables false
set_option linter.defProp false
set_option maxHeartbeats 1000000
attribute [local irreducible] Af Nx EvO Ev Un Gd Cd EvR EvQ EvC Nc Gc Lp EvM NxM AfM GdM EvMR EvMQ EvMD EvMC Nm Gm
/-- a reader with these bytes left -/
def RP (rb : Nat) (t : List Nat) (h : Heap) : Prop := rb < h.next ∧ By t ∧ t.length < 4611686018427387904 ∧ ∃ e ver, h.get rb = some (.cells [.str t] e ver)
theorem RP.frame {rb : Nat} {t : List Nat} {h h' : Heap} (r : RP rb t h) (hn : h.next ≤ h'.next) (k : h'.get rb = h.get rb) : RP rb t h' := by
  obtain ⟨a, b, c, e, ver, d⟩ := r
  exact ⟨by omega, b, c, e, ver, k.trans d⟩
/-- where a call may write: this block, and new ones -/
structure Nx1 (rb : Nat) (h h' : Heap) : Prop where
  next : h'.next = h.next
  keep : ∀ b, b ≠ rb → h'.get b = h.get b
theorem Nx1.x {rb : Nat} {h h' : Heap} (n : Nx1 rb h h') : ExtX rb h h' := ⟨by rw [n.next]; exact Nat.le_refl _, fun b _ hx => n.keep b hx⟩
theorem LR.nx {rb : Nat} {h h' : Heap} {B : Nat → Prop} {v : AV} {sz n : Nat} {t : List AV} (r : LR h B v sz t n) (x : Nx1 rb h h') (hB : ¬ B rb) : LR h' B v sz t n :=
  r.frame (by rw [x.next]; exact Nat.le_refl _) fun b hb _ => x.keep b fun e => hB (e ▸ hb)
section
variable {P : Program}
theorem rnum_cl (g : Pg P tab) {rb N : Nat} (hN : N ≤ 4) {t : List Nat} {h : Heap} (r : RP rb t h) {Q : AV → Heap → Prop} (q : ∀ h', RP rb (rdN N t).2 h' → Nx1 rb h h' → Q (.int .i64 (rdN N t).1) h') : Cl P 57 [.ptr rb 0, .int .i64 N] h Q := by
  obtain ⟨a, b, c, e, ver, d⟩ := r
  refine (rnum g hN b c d).cl (q _ ⟨a, rdN_by b, Nat.lt_of_le_of_lt (rdN_len _ _) c, e, ver + 1, by rw [Heap.get_put, if_pos rfl]⟩ ⟨rfl, fun b hb => by rw [Heap.get_put, if_neg hb]⟩)
theorem rd_pts (g : Pg P tab) {rb : Nat} {h1 : Heap} (hrb : rb < h1.next) (n : Nat) : ∀ (done : List Pt) (t : List Nat) (s : T AV) (h : Heap) (k : List Fr) (Q : Ex → T AV → Heap → Prop), done.length + n ≤ 1000 →
    LR h (h1.next ≤ ·) (sg s 4) 2 ((done.map cPt).flatten) done.length → RP rb t h → ExtX rb h1 h → sg s 0 = .ptr rb 0 → sg s 16 = .int .i64 (done.length + n : Nat) → sg s 17 = .int .i64 done.length →
    (∀ s' h', LR h' (h1.next ≤ ·) (sg s' 4) 2 (((done ++ (rep rdPt n t).1).map cPt).flatten) (done.length + n) → RP rb (rep rdPt n t).2 h' → ExtX rb h1 h' → (∀ j, j = 0 ∨ j = 2 ∨ j = 3 ∨ j = 12 ∨ j = 13 → sg s' j = sg s j) → Un P k Q (.exit 2) s' h') → Lp P b95_0 s h (Un P k Q) := by
  induction n with
  | zero =>
    intro done t s h k Q hl r rp ex h0 h16 h17 hQ
    refine g.lpe b95_0.eq_1 ?_
    have c1 : ¬ ((done.length : Int) < (done.length : Int)) := by omega
    rw [Nat.add_zero] at h16
    simp only [h16, h17, c1, R0, R1, R2, R3, R4, R5, R6, R7, R8, R9, VOp.fresh, bxC, bsC, R10, un, most, callsOf, List.contains_nil, List.contains_cons, beq_iff_eq, List.getElem?_cons_zero, List.getElem?_cons_succ, seval, Option.map_none, Int.reducePow, ↓reduceIte, Nat.reduceEqDiff, reduceCtorEq, and_self]
    refine hQ _ _ ?_ rp ex ?_
    · simp only [sg_set, Nat.reduceEqDiff, ↓reduceIte]
      simpa [rep] using r
    · rintro j (rfl | rfl | rfl | rfl | rfl) <;> simp only [sg_set, Nat.reduceEqDiff, ↓reduceIte]
  | succ n ih =>
    intro done t s h k Q hl r rp ex h0 h16 h17 hQ
    refine g.lpe b95_0.eq_1 ?_
    have c1 : (done.length : Int) < ((done.length + (n + 1) : Nat) : Int) := by omega
    have w1 : IntKind.i64.wrap ((done.length : Int) + 1) = ((done.length + 1 : Nat) : Int) := by rw [w64 (by omega) (by omega)]; push_cast; rfl
    simp only [h0, h16, h17, c1, R0, R1, R2, R3, R4, R5, R6, R7, R8, R9, VOp.fresh, bxC, bsC, R10, un, most, callsOf, List.contains_nil, List.contains_cons, beq_iff_eq, List.getElem?_cons_zero, List.getElem?_cons_succ, seval, Option.map_none, Int.reducePow, ↓reduceIte, Nat.reduceEqDiff, reduceCtorEq, and_self]
    refine rnum_cl g (N := 4) (by decide) rp fun h2 rp2 x2 => ?_
    simp only [h0, R0, R1, R2, R3, R4, R5, R6, R7, R8, R9, VOp.fresh, bxC, bsC, R10, un, most, callsOf, List.contains_nil, List.contains_cons, beq_iff_eq, List.getElem?_cons_zero, List.getElem?_cons_succ, seval, Option.map_none, Int.reducePow, ↓reduceIte, Nat.reduceEqDiff, reduceCtorEq, and_self]
    refine rnum_cl g (N := 4) (by decide) rp2 fun h3 rp3 x3 => ?_
    have hnb : ¬ h1.next ≤ rb := by omega
    have r3 := (r.nx x2 hnb).nx x3 hnb
    have ex3 := (ex.trans x2.x).trans x3.x
    have em := Ext.mk (h := h3) (.cells [.int .i64 (rdN 4 t).1, .int .i64 (rdN 4 (rdN 4 t).2).1] 48 0)
    have hn3 : (h3.mk' h3.next (.cells [.int .i64 (rdN 4 t).1, .int .i64 (rdN 4 (rdN 4 t).2).1] 48 0)).next = h3.next + 1 := by rw [mk_next]; omega
    obtain ⟨h4, e4, r4, n4, k4⟩ := (r3.frame em.1 fun b _ hb => em.2 b hb).push (nb := h3.next) (eb := 48) (vb := 0) (c := [.int .i64 (rdN 4 t).1, .int .i64 (rdN 4 (rdN 4 t).2).1]) (by rw [Heap.get_mk, if_pos rfl]) rfl rfl (Lvs.tolds rfl rfl) (by rw [hn3]; have := ex3.1; omega) (bytes := 16) (by unfold most2; omega) 48
    rw [hn3] at e4 r4 n4 k4
    have hv := r3.inB
    have kk : ∀ b, b < h3.next → b ∉ blkOf (sg s 4) → h4.get b = h3.get b := fun b hb hn => (k4 b hn (by omega)).trans (em.2 b hb)
    have hrb3 : rb < h3.next := rp3.1
    simp only [h0, h17, e4, w1, R0, R1, R2, R3, R4, R5, R6, R7, R8, R9, VOp.fresh, bxC, bsC, R10, un, most, callsOf, List.contains_nil, List.contains_cons, beq_iff_eq, List.getElem?_cons_zero, List.getElem?_cons_succ, seval, Option.map_none, Int.reducePow, ↓reduceIte, Nat.reduceEqDiff, reduceCtorEq, and_self]
    refine ih (done ++ [⟨(rdN 4 t).1, (rdN 4 (rdN 4 t).2).1⟩]) (rdN 4 (rdN 4 t).2).2 _ h4 k Q (by rw [List.length_append, List.length_singleton]; omega) ?_ ?_ ?_ ?_ ?_ ?_ ?_
    · simp only [sg_set, Nat.reduceEqDiff, ↓reduceIte]
      simpa only [List.map_append, List.flatten_append, List.map_cons, List.map_nil, List.flatten_cons, List.flatten_nil, List.append_nil, List.length_append, List.length_singleton, cPt] using r4
    · exact rp3.frame (by omega) (kk rb hrb3 fun hc => hnb (hv rb hc))
    · exact ⟨by have := ex3.1; omega, fun b hb hx => (kk b (by have := ex3.1; omega) fun hc => by have := hv b hc; omega).trans (ex3.2 b hb hx)⟩
    · simp only [h0, sg_set, Nat.reduceEqDiff, ↓reduceIte]
    · simp only [h16, sg_set, Nat.reduceEqDiff, ↓reduceIte]
      rw [List.length_append, List.length_singleton]
      congr 2; omega
    · simp only [sg_set, Nat.reduceEqDiff, ↓reduceIte]
      rw [List.length_append, List.length_singleton]
    · intro s' h' q1 q2 q3 q4
      refine hQ s' h' ?_ q2 q3 fun j hj => (q4 j hj).trans ?_
      · simpa only [rep, rdPt, List.append_assoc, List.cons_append, List.nil_append, List.length_append, List.length_singleton, Nat.add_assoc, Nat.add_comm 1 n] using q1
      · rcases hj with rfl | rfl | rfl | rfl | rfl <;> simp only [sg_set, Nat.reduceEqDiff, ↓reduceIte]
theorem ExtX.le {x : Nat} {a b : Heap} (p : ExtX x a b) : a.next ≤ b.next := p.1
theorem rd_rings (g : Pg P tab) {rb fb N0 : Nat} {G : Nat → Option Blk} {p0 p1 : AV} (hrb : rb < N0) (hfb : fb < N0) (hne : fb ≠ rb) (n : Nat) : ∀ (done : List (List Pt)) (t : List Nat) (s : T AV) (h : Heap) (rv : AV) (k : List Fr) (Q : Ex → T AV → Heap → Prop), done.length + n ≤ 1000 →
    N0 ≤ h.next → (∃ e ver, h.get fb = some (.cells [p0, p1, rv] e ver)) → LR h (N0 ≤ ·) rv 1 (done.map cRing) done.length → RP rb t h → (∀ b, b < N0 → b ≠ rb → b ≠ fb → h.get b = G b) → sg s 0 = .ptr rb 0 → sg s 3 = .ptr fb 0 → sg s 12 = .int .i64 (done.length + n : Nat) → sg s 13 = .int .i64 done.length →
    (∀ s' h' rv', (∃ e ver, h'.get fb = some (.cells [p0, p1, rv'] e ver)) → LR h' (N0 ≤ ·) rv' 1 ((done ++ (rep rdRing n t).1).map cRing) (done.length + n) → RP rb (rep rdRing n t).2 h' → (∀ b, b < N0 → b ≠ rb → b ≠ fb → h'.get b = G b) → N0 ≤ h'.next → (∀ j, j = 2 ∨ j = 3 → sg s' j = sg s j) → Un P k Q (.exit 0) s' h') → Lp P b95_1 s h (Un P k Q) := by
  induction n with
  | zero =>
    intro done t s h rv k Q hl hn0 hf r rp ex h0 h3 h12 h13 hQ
    refine g.lpe b95_1.eq_1 ?_
    have c1 : ¬ ((done.length : Int) < (done.length : Int)) := by omega
    rw [Nat.add_zero] at h12
    simp only [h12, h13, c1, R0, R1, R2, R3, R4, R5, R6, R7, R8, R9, VOp.fresh, bxC, bsC, R10, un, most, callsOf, List.contains_nil, List.contains_cons, beq_iff_eq, List.getElem?_cons_zero, List.getElem?_cons_succ, seval, Option.map_none, Int.reducePow, ↓reduceIte, Nat.reduceEqDiff, reduceCtorEq, and_self]
    refine hQ _ _ rv hf ?_ rp ex hn0 ?_
    · simpa [rep] using r
    · rintro j (rfl | rfl) <;> simp only [sg_set, Nat.reduceEqDiff, ↓reduceIte]
  | succ n ih =>
    intro done t s h rv k Q hl hn0 hf r rp ex h0 h3 h12 h13 hQ
    refine g.lpe b95_1.eq_1 ?_
    have c1 : (done.length : Int) < ((done.length + (n + 1) : Nat) : Int) := by omega
    have w1 : IntKind.i64.wrap ((done.length : Int) + 1) = ((done.length + 1 : Nat) : Int) := by rw [w64 (by omega) (by omega)]; push_cast; rfl
    have hnb : ¬ N0 ≤ rb := by omega
    simp only [h0, h12, h13, c1, R0, R1, R2, R3, R4, R5, R6, R7, R8, R9, VOp.fresh, bxC, bsC, R10, un, most, callsOf, List.contains_nil, List.contains_cons, beq_iff_eq, List.getElem?_cons_zero, List.getElem?_cons_succ, seval, Option.map_none, Int.reducePow, ↓reduceIte, Nat.reduceEqDiff, reduceCtorEq, and_self]
    refine rnum_cl g (N := 1) (by decide) rp fun h2 rp2 x2 => ?_
    have hby := rp.2.1
    have hk := rdN1_le hby
    have hk0 := (rdN_le (n := 1) (by decide) hby).1
    obtain ⟨m, hm⟩ : ∃ m : Nat, (rdN 1 t).1 = (m : Int) := ⟨(rdN 1 t).1.toNat, by omega⟩
    have e2 := x2.next
    simp only [h0, h3, h12, h13, hm, R0, R1, R2, R3, R4, R5, R6, R7, R8, R9, VOp.fresh, bxC, bsC, R10, un, most, callsOf, List.contains_nil, List.contains_cons, beq_iff_eq, List.getElem?_cons_zero, List.getElem?_cons_succ, seval, Option.map_none, Int.reducePow, ↓reduceIte, Nat.reduceEqDiff, reduceCtorEq, and_self]
    refine rd_pts g (h1 := h2) (by omega) m [] _ _ h2 _ _ (by simp; omega) ?_ rp2 ExtX.refl ?_ ?_ ?_ ?_
    · simp only [sg_set, Nat.reduceEqDiff, ↓reduceIte]
      exact .nil _ _ _
    · simp only [h0, sg_set, Nat.reduceEqDiff, ↓reduceIte]
    · simp only [sg_set, Nat.reduceEqDiff, ↓reduceIte]
      simp
    · simp only [sg_set, Nat.reduceEqDiff, ↓reduceIte]
      rfl
    intro s' h4 r4 rp4 x4 ks
    have a0 := ks 0 (by simp)
    have a2 := ks 2 (by simp)
    have a3 := ks 3 (by simp)
    have a12 := ks 12 (by simp)
    have a13 := ks 13 (by simp)
    simp only [sg_set, Nat.reduceEqDiff, ↓reduceIte, h0, h3, h12, h13] at a0 a2 a3 a12 a13
    clear ks
    obtain ⟨ef, vf, hf⟩ := hf
    have hf4 : h4.get fb = some (.cells [p0, p1, rv] ef vf) := (x4.2 fb (by omega) hne).trans ((x2.keep fb hne).trans hf)
    have r4' : LR h4 (N0 ≤ ·) rv 1 (done.map cRing) done.length := (r.nx x2 hnb).frame x4.1 fun b hb hlt => x4.2 b hlt fun e => hnb (e ▸ hb)
    have q4 : 4 ≤ 4 := Nat.le_refl _
    rw [List.nil_append] at r4
    generalize hv4 : sg s' 4 = v4 at r4
    have em := Ext.mk (h := h4) (.cells [v4] 49 0)
    have hn4 : (h4.mk' h4.next (.cells [v4] 49 0)).next = h4.next + 1 := by rw [mk_next]; omega
    have hlt4 := r4'.lt
    have hlt2 := (r.nx x2 hnb).lt
    have lv4 : Lvs (h4.mk' h4.next (.cells [v4] 49 0)) (fun b => N0 ≤ b ∧ b ∉ blkOf rv) [v4] [cRing (rep rdPt m (rdN 1 t).2).1] := by
      refine .cons ?_ .nil
      have l := r4.lv
      rw [show ([] : List Pt).length + m = (rep rdPt m (rdN 1 t).2).1.length by rw [rep_len]; simp] at l
      exact (l.frame em.1 fun b _ hb => em.2 b hb).weak fun b hb _ => ⟨by omega, fun hc => by have := hlt2 b hc; omega⟩
    obtain ⟨h5, e5, r5, n5, k5⟩ := (r4'.frame em.1 fun b _ hb => em.2 b hb).push (nb := h4.next) (eb := 49) (vb := 0) (c := [v4]) (by rw [Heap.get_mk, if_pos rfl]) rfl (by simp [r4.one]) lv4 (by rw [hn4]; have := x4.1; omega) (bytes := 24) (by unfold most2; omega) 49
    rw [hn4] at e5 r5 n5 k5
    have kk : ∀ b, b < h4.next → b ∉ blkOf rv → h5.get b = h4.get b := fun b hb hn => (k5 b hn (by omega)).trans (em.2 b hb)
    have hv := r4'.inB
    have hf5 : h5.get fb = some (.cells [p0, p1, rv] ef vf) := (kk fb (by have := x4.1; omega) fun hc => by have := hv fb hc; omega).trans hf4
    have hfn : ¬ fb = h4.next := by have := x4.1; omega
    have hvc := r4.cells
    simp only [a0, a3, a12, a13, hv4, hf4, hf5, hfn, e5, w1, RW, hvc, R0, R1, R2, R3, R4, R5, R6, R7, R8, R9, VOp.fresh, bxC, bsC, R10, un, most, callsOf, List.contains_nil, List.contains_cons, beq_iff_eq, List.getElem?_cons_zero, List.getElem?_cons_succ, seval, Option.map_none, Int.reducePow, ↓reduceIte, Nat.reduceEqDiff, reduceCtorEq, and_self]
    have er : rdRing t = (rep rdPt m (rdN 1 t).2) := by rw [rdRing, hm, Int.toNat_natCast]
    rw [← er] at lv4 r5 rp4
    refine ih (done ++ [(rdRing t).1]) (rdRing t).2 _ _ (.sl (h4.next + 1) 0 (done.length + 1) (done.length + 1) 1) k Q (by rw [List.length_append, List.length_singleton]; omega) ?_ ?_ ?_ ?_ ?_ ?_ ?_ ?_ ?_ ?_
    · rw [put_next]; have := x4.1; omega
    · exact ⟨ef, vf + 1, by rw [Heap.get_put, if_pos rfl]⟩
    · have r6 := (r5.weak (B' := fun b => N0 ≤ b ∧ b ≠ fb) fun b hb _ => ⟨hb, by omega⟩).frame (h' := h5.put fb (.cells [p0, p1, .sl (h4.next + 1) 0 (done.length + 1) (done.length + 1) 1] ef (vf + 1))) (by rw [put_next]; exact Nat.le_refl _) fun b hb _ => by rw [Heap.get_put, if_neg hb.2]
      have r7 := r6.weak (B' := (N0 ≤ ·)) fun b hb _ => hb.1
      simpa only [List.map_append, List.map_cons, List.map_nil, List.length_append, List.length_singleton] using r7
    · exact (rp4.frame (by omega) (kk rb rp4.1 fun hc => by have := hv rb hc; omega)).frame (by rw [put_next]; exact Nat.le_refl _) (by rw [Heap.get_put, if_neg (fun e => hne e.symm)])
    · intro b hb hx hf'
      rw [Heap.get_put, if_neg hf', kk b (by have := x4.1; omega) (fun hc => by have := hv b hc; omega), x4.2 b (by omega) hx, x2.keep b hx, ex b hb hx hf']
    · simp only [a0, sg_set, Nat.reduceEqDiff, ↓reduceIte]
    · simp only [a3, sg_set, Nat.reduceEqDiff, ↓reduceIte]
    · simp only [a12, sg_set, Nat.reduceEqDiff, ↓reduceIte]
      rw [List.length_append, List.length_singleton]
      congr 2; omega
    · simp only [sg_set, Nat.reduceEqDiff, ↓reduceIte]
      rw [List.length_append, List.length_singleton]
    · intro s'' h' rv' q0 q1 q2 q3 q4 q5
      refine hQ s'' h' rv' q0 ?_ q2 q3 q4 fun j hj => (q5 j hj).trans ?_
      · simpa only [rep, List.append_assoc, List.cons_append, List.nil_append, List.length_append, List.length_singleton, Nat.add_assoc, Nat.add_comm 1 n] using q1
      · rcases hj with rfl | rfl
        · simp only [a2, sg_set, Nat.reduceEqDiff, ↓reduceIte]
        · simp only [a3, h3, sg_set, Nat.reduceEqDiff, ↓reduceIte]
theorem rd_feat (g : Pg P tab) {rb : Nat} {t : List Nat} {h : Heap} (rp : RP rb t h) {Q : AV → Heap → Prop} (q : ∀ rv h', LR h' (h.next ≤ ·) rv 1 ((rdFeat t).1.rings.map cRing) (rdFeat t).1.rings.length → RP rb (rdFeat t).2 h' → ExtX rb h h' → Q (.agg [.int .i64 (rdFeat t).1.id, .int .i64 (rdFeat t).1.shape, rv]) h') : Cl P 95 [.ptr rb 0] h Q := by
  refine g.cl (vf := v95) rfl rfl ?_
  have hrb := rp.1
  have x1 := Ext.mk (h := h) (.cells [.int .i64 0, .int .i64 0, .nils] 52 0)
  have n1 : (h.mk' h.next (.cells [.int .i64 0, .int .i64 0, .nils] 52 0)).next = h.next + 1 := by rw [mk_next]; omega
  have g1 : (h.mk' h.next (.cells [.int .i64 0, .int .i64 0, .nils] 52 0)).get h.next = some (.cells [.int .i64 0, .int .i64 0, .nils] 52 0) := by rw [Heap.get_mk, if_pos rfl]
  have rp1 := rp.frame x1.1 (x1.2 rb hrb)
  simp only [v95, R0, R1, R2, R3, R4, R5, R6, R7, R8, R9, VOp.fresh, bxC, bsC, R10, un, most, callsOf, List.contains_nil, List.contains_cons, beq_iff_eq, List.getElem?_cons_zero, List.getElem?_cons_succ, seval, Option.map_none, Int.reducePow, ↓reduceIte, Nat.reduceEqDiff, reduceCtorEq, and_self]
  generalize h.mk' h.next (.cells [.int .i64 0, .int .i64 0, .nils] 52 0) = h1 at *
  refine rnum_cl g (N := 2) (by decide) rp1 fun h2 rp2 x2 => ?_
  simp only [R0, R1, R2, R3, R4, R5, R6, R7, R8, R9, VOp.fresh, bxC, bsC, R10, un, most, callsOf, List.contains_nil, List.contains_cons, beq_iff_eq, List.getElem?_cons_zero, List.getElem?_cons_succ, seval, Option.map_none, Int.reducePow, ↓reduceIte, Nat.reduceEqDiff, reduceCtorEq, and_self]
  refine rnum_cl g (N := 1) (by decide) rp2 fun h3 rp3 x3 => ?_
  simp only [RW, R0, R1, R2, R3, R4, R5, R6, R7, R8, R9, VOp.fresh, bxC, bsC, R10, un, most, callsOf, List.contains_nil, List.contains_cons, beq_iff_eq, List.getElem?_cons_zero, List.getElem?_cons_succ, seval, Option.map_none, Int.reducePow, ↓reduceIte, Nat.reduceEqDiff, reduceCtorEq, and_self]
  have e2 := x2.next
  have e3 := x3.next
  have g3 : h3.get h.next = some (.cells [.int .i64 0, .int .i64 0, .nils] 52 0) := (x3.keep _ (by omega)).trans ((x2.keep _ (by omega)).trans g1)
  have n4 : ((h3.mk' h3.next (.cells [.int .i64 0, .int .i64 0, .nils] 52 0)).put h3.next (.cells [.int .i64 (rdN 2 t).1, .int .i64 (rdN 1 (rdN 2 t).2).1, .nils] 52 1)).next = h3.next + 1 := by rw [put_next, mk_next]; omega
  have x4 : Ext h3 ((h3.mk' h3.next (.cells [.int .i64 0, .int .i64 0, .nils] 52 0)).put h3.next (.cells [.int .i64 (rdN 2 t).1, .int .i64 (rdN 1 (rdN 2 t).2).1, .nils] 52 1)) := ⟨by omega, fun b hb => by rw [Heap.get_put, if_neg (by omega), Heap.get_mk, if_neg (by omega)]⟩
  have g4 : ((h3.mk' h3.next (.cells [.int .i64 0, .int .i64 0, .nils] 52 0)).put h3.next (.cells [.int .i64 (rdN 2 t).1, .int .i64 (rdN 1 (rdN 2 t).2).1, .nils] 52 1)).get h3.next = some (.cells [.int .i64 (rdN 2 t).1, .int .i64 (rdN 1 (rdN 2 t).2).1, .nils] 52 1) := by rw [Heap.get_put, if_pos rfl]
  have rp4 := rp3.frame x4.1 (x4.2 rb rp3.1)
  generalize (h3.mk' h3.next (.cells [.int .i64 0, .int .i64 0, .nils] 52 0)).put h3.next (.cells [.int .i64 (rdN 2 t).1, .int .i64 (rdN 1 (rdN 2 t).2).1, .nils] 52 1) = h4 at *
  refine rnum_cl g (N := 1) (by decide) rp4 fun h5 rp5 x5 => ?_
  have e5 := x5.next
  have hby := rp3.2.1
  have hk := rdN1_le hby
  have hk0 := (rdN_le (n := 1) (by decide) hby).1
  obtain ⟨m, hm⟩ : ∃ m : Nat, (rdN 1 (rdN 1 (rdN 2 t).2).2).1 = (m : Int) := ⟨(rdN 1 (rdN 1 (rdN 2 t).2).2).1.toNat, by omega⟩
  have xa : ExtX rb h h5 := ((((x1.x).trans x2.x).trans x3.x).trans x4.x).trans x5.x
  have g5 : h5.get h3.next = some (.cells [.int .i64 (rdN 2 t).1, .int .i64 (rdN 1 (rdN 2 t).2).1, .nils] 52 1) := (x5.keep _ (by omega)).trans g4
  have g5b : h5.get h.next = some (.cells [.int .i64 0, .int .i64 0, .nils] 52 0) := (x5.keep _ (by omega)).trans ((x4.2 _ (by omega)).trans g3)
  simp only [hm, R0, R1, R2, R3, R4, R5, R6, R7, R8, R9, VOp.fresh, bxC, bsC, R10, un, most, callsOf, List.contains_nil, List.contains_cons, beq_iff_eq, List.getElem?_cons_zero, List.getElem?_cons_succ, seval, Option.map_none, Int.reducePow, ↓reduceIte, Nat.reduceEqDiff, reduceCtorEq, and_self]
  refine rd_rings g (N0 := h5.next) (G := h5.get) (fb := h3.next) (p0 := .int .i64 (rdN 2 t).1) (p1 := .int .i64 (rdN 1 (rdN 2 t).2).1) (by have := rp5.1; omega) (by omega) (by omega) m [] _ _ h5 .nils _ _ (by simp; omega) (Nat.le_refl _) ⟨_, _, g5⟩ (.nil _ _ _) rp5 (fun _ _ _ _ => rfl) ?_ ?_ ?_ ?_ ?_
  · simp only [sg_set, Nat.reduceEqDiff, ↓reduceIte]
  · simp only [sg_set, Nat.reduceEqDiff, ↓reduceIte]
  · simp only [sg_set, Nat.reduceEqDiff, ↓reduceIte]
    simp
  · simp only [sg_set, Nat.reduceEqDiff, ↓reduceIte]
    rfl
  intro s' h6 rv ⟨ef, vf, g6⟩ r6 rp6 x6 n6 ks
  have a2 := ks 2 (by simp)
  have a3 := ks 3 (by simp)
  simp only [sg_set, Nat.reduceEqDiff, ↓reduceIte] at a2 a3
  have er : (rdFeat t) = (⟨(rdN 2 t).1, (rdN 1 (rdN 2 t).2).1, (rep rdRing m (rdN 1 (rdN 1 (rdN 2 t).2).2).2).1⟩, (rep rdRing m (rdN 1 (rdN 1 (rdN 2 t).2).2).2).2) := by
    rw [rdFeat]
    simp only [hm, Int.toNat_natCast]
  have hfn : ¬ h3.next = h.next := by omega
  have g6b : h6.get h.next = some (.cells [.int .i64 0, .int .i64 0, .nils] 52 0) := (x6 _ (by omega) (by omega) (by omega)).trans g5b
  simp only [a2, a3, g6, g6b, RW, r6.one, R0, R1, R2, R3, R4, R5, R6, R7, R8, R9, VOp.fresh, bxC, bsC, R10, un, most, callsOf, List.contains_nil, List.contains_cons, beq_iff_eq, List.getElem?_cons_zero, List.getElem?_cons_succ, seval, Option.map_none, Int.reducePow, ↓reduceIte, Nat.reduceEqDiff, reduceCtorEq, and_self]
  rw [List.nil_append] at r6
  rw [show ([] : List (List Pt)).length + m = (rep rdRing m (rdN 1 (rdN 1 (rdN 2 t).2).2).2).1.length by rw [rep_len]; simp] at r6
  have hq := q rv (h6.put h.next (.cells [.int .i64 (rdN 2 t).1, .int .i64 (rdN 1 (rdN 2 t).2).1, rv] 52 1))
  rw [er] at hq
  refine hq ?_ ?_ ?_
  · exact ((r6.weak (B' := fun b => h.next ≤ b ∧ b ≠ h.next) fun b hb _ => ⟨by omega, by omega⟩).frame (by rw [put_next]; exact Nat.le_refl _) fun b hb _ => by rw [Heap.get_put, if_neg hb.2]).weak fun b hb _ => hb.1
  · exact rp6.frame (by rw [put_next]; exact Nat.le_refl _) (by rw [Heap.get_put, if_neg (by omega)])
  · refine ⟨by rw [put_next]; omega, fun b hb hx => ?_⟩
    rw [Heap.get_put, if_neg (by omega), x6 b (by have := xa.1; omega) hx (by omega)]
    exact xa.2 b hb hx
end
end Go.Proofs.Ytinonmcnofjeeaa.VM
