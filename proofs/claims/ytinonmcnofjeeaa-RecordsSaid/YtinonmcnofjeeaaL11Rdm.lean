/- The program's reader: maps, names, truths. -/
import Derived.Test.YtinonmcnofjeeaaL11Rdp
namespace Go.Proofs.Ytinonmcnofjeeaa.VM
set_option linter.unusedSimpArgs false
set_option linter.unusedVariables false
set_option linter.defProp false
set_option maxHeartbeats 1000000
attribute [local irreducible] Af Nx EvO Ev Un Gd Cd EvR EvQ EvC Nc Gc Lp EvM NxM AfM GdM EvMR EvMQ EvMD EvMC Nm Gm
section
variable {P : Program}
theorem rd_ints0 (g : Pg P tab) {rb fb N0 : Nat} {G : Nat → Option Blk} {p0 p1 : AV} (hrb : rb < N0) (hfb : fb < N0) (hne : fb ≠ rb) (n : Nat) : ∀ (done : List Int) (t : List Nat) (s : T AV) (h : Heap) (rv : AV) (k : List Fr) (Q : Ex → T AV → Heap → Prop), done.length + n ≤ 1000 →
    N0 ≤ h.next → (∃ e ver, h.get fb = some (.cells [p0, rv, p1] e ver)) → LR h (N0 ≤ ·) rv 1 (done.map (AV.int .i64)) done.length → RP rb t h → (∀ b, b < N0 → b ≠ rb → b ≠ fb → h.get b = G b) → sg s 0 = .ptr rb 0 → sg s 3 = .ptr fb 0 → sg s 10 = .int .i64 (done.length + n : Nat) → sg s 11 = .int .i64 done.length →
    (∀ s' h' rv', (∃ e ver, h'.get fb = some (.cells [p0, rv', p1] e ver)) → LR h' (N0 ≤ ·) rv' 1 ((done ++ (rep (rdN 4) n t).1).map (AV.int .i64)) (done.length + n) → RP rb (rep (rdN 4) n t).2 h' → (∀ b, b < N0 → b ≠ rb → b ≠ fb → h'.get b = G b) → N0 ≤ h'.next → (∀ j, j = 0 ∨ j = 2 ∨ j = 3 ∨ j = 4 → sg s' j = sg s j) → Un P k Q (.exit 0) s' h') → Lp P b58_0 s h (Un P k Q) := by
  induction n with
  | zero =>
    intro done t s h rv k Q hl hn0 hf r rp ex h0 h3 h12 h13 hQ
    refine g.lpe b58_0.eq_1 ?_
    have c1 : ¬ ((done.length : Int) < (done.length : Int)) := by omega
    rw [Nat.add_zero] at h12
    simp only [h12, h13, c1, R0, R1, R2, R3, R4, R5, R6, R7, R8, R9, VOp.fresh, bxC, bsC, R10, un, most, callsOf, List.contains_nil, List.contains_cons, beq_iff_eq, List.getElem?_cons_zero, List.getElem?_cons_succ, seval, Option.map_none, Int.reducePow, ↓reduceIte, Nat.reduceEqDiff, reduceCtorEq, and_self]
    refine hQ _ _ rv hf ?_ rp ex hn0 ?_
    · simpa [rep] using r
    · rintro j (rfl | rfl | rfl | rfl) <;> simp only [sg_set, Nat.reduceEqDiff, ↓reduceIte]
  | succ n ih =>
    intro done t s h rv k Q hl hn0 hf r rp ex h0 h3 h12 h13 hQ
    refine g.lpe b58_0.eq_1 ?_
    have c1 : (done.length : Int) < ((done.length + (n + 1) : Nat) : Int) := by omega
    have w1 : IntKind.i64.wrap ((done.length : Int) + 1) = ((done.length + 1 : Nat) : Int) := by rw [w64 (by omega) (by omega)]; push_cast; rfl
    have hnb : ¬ N0 ≤ rb := by omega
    obtain ⟨ef, vf, hf⟩ := hf
    have rp0 := rp
    obtain ⟨_, hby, hlt, e, ver, hg⟩ := rp0
    simp only [h0, h3, h12, h13, c1, R0, R1, R2, R3, R4, R5, R6, R7, R8, R9, VOp.fresh, bxC, bsC, R10, un, most, callsOf, List.contains_nil, List.contains_cons, beq_iff_eq, List.getElem?_cons_zero, List.getElem?_cons_succ, seval, Option.map_none, Int.reducePow, ↓reduceIte, Nat.reduceEqDiff, reduceCtorEq, and_self]
    refine EvD.lk (fun _ _ h => (.int .i64 (rdN 4 t).1, h.put rb (.cells [.str (rdN 4 t).2] e (ver + 1)))) ?_
    have hok : OK P 57 [.ptr rb 0, .int .i64 4] h (.int .i64 (rdN 4 t).1) (h.put rb (.cells [.str (rdN 4 t).2] e (ver + 1))) := rnum g (N := 4) (by decide) hby hlt hg
    have x2 : Nx1 rb h (h.put rb (.cells [.str (rdN 4 t).2] e (ver + 1))) := ⟨rfl, fun b hb => by rw [Heap.get_put, if_neg hb]⟩
    have rp2 : RP rb (rdN 4 t).2 (h.put rb (.cells [.str (rdN 4 t).2] e (ver + 1))) := ⟨rp.1, rdN_by hby, Nat.lt_of_le_of_lt (rdN_len _ _) hlt, e, ver + 1, by rw [Heap.get_put, if_pos rfl]⟩
    generalize hh2 : h.put rb (.cells [.str (rdN 4 t).2] e (ver + 1)) = h2 at hok x2 rp2
    have e2 := x2.next
    have r2 := r.nx x2 hnb
    have hf2 := (x2.keep fb hne).trans hf
    have em := Ext.mk (h := h2) (.cells [.int .i64 (rdN 4 t).1] 3 0)
    have hn4 : (h2.mk' h2.next (.cells [.int .i64 (rdN 4 t).1] 3 0)).next = h2.next + 1 := by rw [mk_next]; omega
    obtain ⟨h5, e5, r5, n5, k5⟩ := (r2.frame em.1 fun b _ hb => em.2 b hb).push (nb := h2.next) (eb := 3) (vb := 0) (c := [.int .i64 (rdN 4 t).1]) (by rw [Heap.get_mk, if_pos rfl]) rfl rfl (Lvs.tolds rfl rfl) (by rw [hn4]; omega) (bytes := 8) (by unfold most2; omega) 3
    rw [hn4] at e5 r5 n5 k5
    have hv := r2.inB
    have kk : ∀ b, b < h2.next → b ∉ blkOf rv → h5.get b = h2.get b := fun b hb hn => (k5 b hn (by omega)).trans (em.2 b hb)
    have hf5 := (kk fb (by omega) fun hc => by have := hv fb hc; omega).trans hf2
    have hfn : ¬ fb = h2.next := by omega
    have hfr : ¬ fb = rb := hne
    simp only [h0, h3, hf, hf2, hf5, hfn, hok, hh2, e5, w1, RW, r2.one, R0, R1, R2, R3, R4, R5, R6, R7, R8, R9, VOp.fresh, bxC, bsC, R10, un, most, callsOf, List.contains_nil, List.contains_cons, beq_iff_eq, List.getElem?_cons_zero, List.getElem?_cons_succ, seval, Option.map_none, Int.reducePow, ↓reduceIte, Nat.reduceEqDiff, reduceCtorEq, and_self]
    refine ⟨⟨⟨?_, ?_, trivial⟩, trivial⟩, ?_⟩
    · show Lk _ _ _ _
      simp only [Lk, wanted, hf2, R0, R1, R2, R3, R4, R5, R6, R7, R8, R9, VOp.fresh, bxC, bsC, R10, un, most, callsOf, List.contains_nil, List.contains_cons, beq_iff_eq, List.getElem?_cons_zero, List.getElem?_cons_succ, seval, Option.map_none, Int.reducePow, ↓reduceIte, Nat.reduceEqDiff, reduceCtorEq, and_self]
    · show Lk _ _ _ _
      simp only [Lk, wanted, hf2, hfn, R0, R1, R2, R3, R4, R5, R6, R7, R8, R9, VOp.fresh, bxC, bsC, R10, un, most, callsOf, List.contains_nil, List.contains_cons, beq_iff_eq, List.getElem?_cons_zero, List.getElem?_cons_succ, seval, Option.map_none, Int.reducePow, ↓reduceIte, Nat.reduceEqDiff, reduceCtorEq, and_self]
    simp only [h13, w1, R0, R1, R2, R3, R4, R5, R6, R7, R8, R9, VOp.fresh, bxC, bsC, R10, un, most, callsOf, List.contains_nil, List.contains_cons, beq_iff_eq, List.getElem?_cons_zero, List.getElem?_cons_succ, seval, Option.map_none, Int.reducePow, ↓reduceIte, Nat.reduceEqDiff, reduceCtorEq, and_self]
    refine ih (done ++ [(rdN 4 t).1]) (rdN 4 t).2 _ _ (.sl (h2.next + 1) 0 (done.length + 1) (done.length + 1) 1) k Q (by rw [List.length_append, List.length_singleton]; omega) ?_ ?_ ?_ ?_ ?_ ?_ ?_ ?_ ?_ ?_
    · rw [put_next]; omega
    · exact ⟨ef, vf + 1, by rw [Heap.get_put, if_pos rfl]⟩
    · have r6 := (r5.weak (B' := fun b => N0 ≤ b ∧ b ≠ fb) fun b hb _ => ⟨hb, by omega⟩).frame (h' := h5.put fb (.cells [p0, .sl (h2.next + 1) 0 (done.length + 1) (done.length + 1) 1, p1] ef (vf + 1))) (by rw [put_next]; exact Nat.le_refl _) fun b hb _ => by rw [Heap.get_put, if_neg hb.2]
      have r7 := r6.weak (B' := (N0 ≤ ·)) fun b hb _ => hb.1
      simpa only [List.map_append, List.map_cons, List.map_nil, List.length_append, List.length_singleton] using r7
    · exact (rp2.frame (by omega) (kk rb rp2.1 fun hc => by have := hv rb hc; omega)).frame (by rw [put_next]; exact Nat.le_refl _) (by rw [Heap.get_put, if_neg (fun e => hne e.symm)])
    · intro b hb hx hf'
      rw [Heap.get_put, if_neg hf', kk b (by omega) (fun hc => by have := hv b hc; omega), x2.keep b hx, ex b hb hx hf']
    · simp only [h0, sg_set, Nat.reduceEqDiff, ↓reduceIte]
    · simp only [h3, sg_set, Nat.reduceEqDiff, ↓reduceIte]
    · simp only [h12, sg_set, Nat.reduceEqDiff, ↓reduceIte]
      rw [List.length_append, List.length_singleton]
      congr 2; omega
    · simp only [sg_set, Nat.reduceEqDiff, ↓reduceIte]
      rw [List.length_append, List.length_singleton]
    · intro s'' h' rv' q0 q1 q2 q3 q4 q5
      refine hQ s'' h' rv' q0 ?_ q2 q3 q4 fun j hj => (q5 j hj).trans ?_
      · simpa only [rep, List.append_assoc, List.cons_append, List.nil_append, List.length_append, List.length_singleton, Nat.add_assoc, Nat.add_comm 1 n] using q1
      · rcases hj with rfl | rfl | rfl | rfl <;> simp only [sg_set, Nat.reduceEqDiff, ↓reduceIte]
theorem rd_ints1 (g : Pg P tab) {rb fb N0 : Nat} {G : Nat → Option Blk} {p0 p1 : AV} (hrb : rb < N0) (hfb : fb < N0) (hne : fb ≠ rb) (n : Nat) : ∀ (done : List Int) (t : List Nat) (s : T AV) (h : Heap) (rv : AV) (k : List Fr) (Q : Ex → T AV → Heap → Prop), done.length + n ≤ 1000 →
    N0 ≤ h.next → (∃ e ver, h.get fb = some (.cells [p0, p1, rv] e ver)) → LR h (N0 ≤ ·) rv 1 (done.map (AV.int .i64)) done.length → RP rb t h → (∀ b, b < N0 → b ≠ rb → b ≠ fb → h.get b = G b) → sg s 0 = .ptr rb 0 → sg s 3 = .ptr fb 0 → sg s 21 = .int .i64 (done.length + n : Nat) → sg s 22 = .int .i64 done.length →
    (∀ s' h' rv', (∃ e ver, h'.get fb = some (.cells [p0, p1, rv'] e ver)) → LR h' (N0 ≤ ·) rv' 1 ((done ++ (rep (rdN 1) n t).1).map (AV.int .i64)) (done.length + n) → RP rb (rep (rdN 1) n t).2 h' → (∀ b, b < N0 → b ≠ rb → b ≠ fb → h'.get b = G b) → N0 ≤ h'.next → (∀ j, j = 0 ∨ j = 2 ∨ j = 3 ∨ j = 4 → sg s' j = sg s j) → Un P k Q (.exit 2) s' h') → Lp P b58_1 s h (Un P k Q) := by
  induction n with
  | zero =>
    intro done t s h rv k Q hl hn0 hf r rp ex h0 h3 h12 h13 hQ
    refine g.lpe b58_1.eq_1 ?_
    have c1 : ¬ ((done.length : Int) < (done.length : Int)) := by omega
    rw [Nat.add_zero] at h12
    simp only [h12, h13, c1, R0, R1, R2, R3, R4, R5, R6, R7, R8, R9, VOp.fresh, bxC, bsC, R10, un, most, callsOf, List.contains_nil, List.contains_cons, beq_iff_eq, List.getElem?_cons_zero, List.getElem?_cons_succ, seval, Option.map_none, Int.reducePow, ↓reduceIte, Nat.reduceEqDiff, reduceCtorEq, and_self]
    refine hQ _ _ rv hf ?_ rp ex hn0 ?_
    · simpa [rep] using r
    · rintro j (rfl | rfl | rfl | rfl) <;> simp only [sg_set, Nat.reduceEqDiff, ↓reduceIte]
  | succ n ih =>
    intro done t s h rv k Q hl hn0 hf r rp ex h0 h3 h12 h13 hQ
    refine g.lpe b58_1.eq_1 ?_
    have c1 : (done.length : Int) < ((done.length + (n + 1) : Nat) : Int) := by omega
    have w1 : IntKind.i64.wrap ((done.length : Int) + 1) = ((done.length + 1 : Nat) : Int) := by rw [w64 (by omega) (by omega)]; push_cast; rfl
    have hnb : ¬ N0 ≤ rb := by omega
    obtain ⟨ef, vf, hf⟩ := hf
    have rp0 := rp
    obtain ⟨_, hby, hlt, e, ver, hg⟩ := rp0
    simp only [h0, h3, h12, h13, c1, R0, R1, R2, R3, R4, R5, R6, R7, R8, R9, VOp.fresh, bxC, bsC, R10, un, most, callsOf, List.contains_nil, List.contains_cons, beq_iff_eq, List.getElem?_cons_zero, List.getElem?_cons_succ, seval, Option.map_none, Int.reducePow, ↓reduceIte, Nat.reduceEqDiff, reduceCtorEq, and_self]
    refine EvD.lk (fun _ _ h => (.int .i64 (rdN 1 t).1, h.put rb (.cells [.str (rdN 1 t).2] e (ver + 1)))) ?_
    have hok : OK P 57 [.ptr rb 0, .int .i64 1] h (.int .i64 (rdN 1 t).1) (h.put rb (.cells [.str (rdN 1 t).2] e (ver + 1))) := rnum g (N := 1) (by decide) hby hlt hg
    have x2 : Nx1 rb h (h.put rb (.cells [.str (rdN 1 t).2] e (ver + 1))) := ⟨rfl, fun b hb => by rw [Heap.get_put, if_neg hb]⟩
    have rp2 : RP rb (rdN 1 t).2 (h.put rb (.cells [.str (rdN 1 t).2] e (ver + 1))) := ⟨rp.1, rdN_by hby, Nat.lt_of_le_of_lt (rdN_len _ _) hlt, e, ver + 1, by rw [Heap.get_put, if_pos rfl]⟩
    generalize hh2 : h.put rb (.cells [.str (rdN 1 t).2] e (ver + 1)) = h2 at hok x2 rp2
    have e2 := x2.next
    have r2 := r.nx x2 hnb
    have hf2 := (x2.keep fb hne).trans hf
    have em := Ext.mk (h := h2) (.cells [.int .i64 (rdN 1 t).1] 3 0)
    have hn4 : (h2.mk' h2.next (.cells [.int .i64 (rdN 1 t).1] 3 0)).next = h2.next + 1 := by rw [mk_next]; omega
    obtain ⟨h5, e5, r5, n5, k5⟩ := (r2.frame em.1 fun b _ hb => em.2 b hb).push (nb := h2.next) (eb := 3) (vb := 0) (c := [.int .i64 (rdN 1 t).1]) (by rw [Heap.get_mk, if_pos rfl]) rfl rfl (Lvs.tolds rfl rfl) (by rw [hn4]; omega) (bytes := 8) (by unfold most2; omega) 3
    rw [hn4] at e5 r5 n5 k5
    have hv := r2.inB
    have kk : ∀ b, b < h2.next → b ∉ blkOf rv → h5.get b = h2.get b := fun b hb hn => (k5 b hn (by omega)).trans (em.2 b hb)
    have hf5 := (kk fb (by omega) fun hc => by have := hv fb hc; omega).trans hf2
    have hfn : ¬ fb = h2.next := by omega
    have hfr : ¬ fb = rb := hne
    simp only [h0, h3, hf, hf2, hf5, hfn, hok, hh2, e5, w1, RW, r2.one, R0, R1, R2, R3, R4, R5, R6, R7, R8, R9, VOp.fresh, bxC, bsC, R10, un, most, callsOf, List.contains_nil, List.contains_cons, beq_iff_eq, List.getElem?_cons_zero, List.getElem?_cons_succ, seval, Option.map_none, Int.reducePow, ↓reduceIte, Nat.reduceEqDiff, reduceCtorEq, and_self]
    refine ⟨⟨⟨?_, ?_, trivial⟩, trivial⟩, ?_⟩
    · show Lk _ _ _ _
      simp only [Lk, wanted, hf2, R0, R1, R2, R3, R4, R5, R6, R7, R8, R9, VOp.fresh, bxC, bsC, R10, un, most, callsOf, List.contains_nil, List.contains_cons, beq_iff_eq, List.getElem?_cons_zero, List.getElem?_cons_succ, seval, Option.map_none, Int.reducePow, ↓reduceIte, Nat.reduceEqDiff, reduceCtorEq, and_self]
    · show Lk _ _ _ _
      simp only [Lk, wanted, hf2, hfn, R0, R1, R2, R3, R4, R5, R6, R7, R8, R9, VOp.fresh, bxC, bsC, R10, un, most, callsOf, List.contains_nil, List.contains_cons, beq_iff_eq, List.getElem?_cons_zero, List.getElem?_cons_succ, seval, Option.map_none, Int.reducePow, ↓reduceIte, Nat.reduceEqDiff, reduceCtorEq, and_self]
    simp only [h13, w1, R0, R1, R2, R3, R4, R5, R6, R7, R8, R9, VOp.fresh, bxC, bsC, R10, un, most, callsOf, List.contains_nil, List.contains_cons, beq_iff_eq, List.getElem?_cons_zero, List.getElem?_cons_succ, seval, Option.map_none, Int.reducePow, ↓reduceIte, Nat.reduceEqDiff, reduceCtorEq, and_self]
    refine ih (done ++ [(rdN 1 t).1]) (rdN 1 t).2 _ _ (.sl (h2.next + 1) 0 (done.length + 1) (done.length + 1) 1) k Q (by rw [List.length_append, List.length_singleton]; omega) ?_ ?_ ?_ ?_ ?_ ?_ ?_ ?_ ?_ ?_
    · rw [put_next]; omega
    · exact ⟨ef, vf + 1, by rw [Heap.get_put, if_pos rfl]⟩
    · have r6 := (r5.weak (B' := fun b => N0 ≤ b ∧ b ≠ fb) fun b hb _ => ⟨hb, by omega⟩).frame (h' := h5.put fb (.cells [p0, p1, .sl (h2.next + 1) 0 (done.length + 1) (done.length + 1) 1] ef (vf + 1))) (by rw [put_next]; exact Nat.le_refl _) fun b hb _ => by rw [Heap.get_put, if_neg hb.2]
      have r7 := r6.weak (B' := (N0 ≤ ·)) fun b hb _ => hb.1
      simpa only [List.map_append, List.map_cons, List.map_nil, List.length_append, List.length_singleton] using r7
    · exact (rp2.frame (by omega) (kk rb rp2.1 fun hc => by have := hv rb hc; omega)).frame (by rw [put_next]; exact Nat.le_refl _) (by rw [Heap.get_put, if_neg (fun e => hne e.symm)])
    · intro b hb hx hf'
      rw [Heap.get_put, if_neg hf', kk b (by omega) (fun hc => by have := hv b hc; omega), x2.keep b hx, ex b hb hx hf']
    · simp only [h0, sg_set, Nat.reduceEqDiff, ↓reduceIte]
    · simp only [h3, sg_set, Nat.reduceEqDiff, ↓reduceIte]
    · simp only [h12, sg_set, Nat.reduceEqDiff, ↓reduceIte]
      rw [List.length_append, List.length_singleton]
      congr 2; omega
    · simp only [sg_set, Nat.reduceEqDiff, ↓reduceIte]
      rw [List.length_append, List.length_singleton]
    · intro s'' h' rv' q0 q1 q2 q3 q4 q5
      refine hQ s'' h' rv' q0 ?_ q2 q3 q4 fun j hj => (q5 j hj).trans ?_
      · simpa only [rep, List.append_assoc, List.cons_append, List.nil_append, List.length_append, List.length_singleton, Nat.add_assoc, Nat.add_comm 1 n] using q1
      · rcases hj with rfl | rfl | rfl | rfl <;> simp only [sg_set, Nat.reduceEqDiff, ↓reduceIte]

theorem rd_map (g : Pg P tab) {rb : Nat} {t : List Nat} {h : Heap} (rp : RP rb t h) {Q : AV → Heap → Prop} (q : ∀ sv ov h', LR h' (h.next ≤ ·) sv 1 ((rdMp t).1.starts.map (AV.int .i64)) (rdMp t).1.starts.length → LR h' (h.next ≤ ·) ov 1 ((rdMp t).1.owners.map (AV.int .i64)) (rdMp t).1.owners.length → RP rb (rdMp t).2 h' → ExtX rb h h' → Q (.agg [.int .i64 (rdMp t).1.epoch, sv, ov]) h') : Cl P 58 [.ptr rb 0] h Q := by
  refine g.cl (vf := v58) rfl rfl ?_
  have hrb := rp.1
  have x1 := Ext.mk (h := h) (.cells [.int .i64 0, .nils, .nils] 26 0)
  have n1 : (h.mk' h.next (.cells [.int .i64 0, .nils, .nils] 26 0)).next = h.next + 1 := by rw [mk_next]; omega
  have g1 : (h.mk' h.next (.cells [.int .i64 0, .nils, .nils] 26 0)).get h.next = some (.cells [.int .i64 0, .nils, .nils] 26 0) := by rw [Heap.get_mk, if_pos rfl]
  have rp1 := rp.frame x1.1 (x1.2 rb hrb)
  simp only [v58, R0, R1, R2, R3, R4, R5, R6, R7, R8, R9, VOp.fresh, bxC, bsC, R10, un, most, callsOf, List.contains_nil, List.contains_cons, beq_iff_eq, List.getElem?_cons_zero, List.getElem?_cons_succ, seval, Option.map_none, Int.reducePow, ↓reduceIte, Nat.reduceEqDiff, reduceCtorEq, and_self]
  generalize h.mk' h.next (.cells [.int .i64 0, .nils, .nils] 26 0) = h1 at *
  refine rnum_cl g (N := 2) (by decide) rp1 fun h3 rp3 x3 => ?_
  have e3 := x3.next
  simp only [RW, R0, R1, R2, R3, R4, R5, R6, R7, R8, R9, VOp.fresh, bxC, bsC, R10, un, most, callsOf, List.contains_nil, List.contains_cons, beq_iff_eq, List.getElem?_cons_zero, List.getElem?_cons_succ, seval, Option.map_none, Int.reducePow, ↓reduceIte, Nat.reduceEqDiff, reduceCtorEq, and_self]
  have g3 : h3.get h.next = some (.cells [.int .i64 0, .nils, .nils] 26 0) := (x3.keep _ (by omega)).trans g1
  have n4 : ((h3.mk' h3.next (.cells [.int .i64 0, .nils, .nils] 26 0)).put h3.next (.cells [.int .i64 (rdN 2 t).1, .nils, .nils] 26 1)).next = h3.next + 1 := by rw [put_next, mk_next]; omega
  have x4 : Ext h3 ((h3.mk' h3.next (.cells [.int .i64 0, .nils, .nils] 26 0)).put h3.next (.cells [.int .i64 (rdN 2 t).1, .nils, .nils] 26 1)) := ⟨by omega, fun b hb => by rw [Heap.get_put, if_neg (by omega), Heap.get_mk, if_neg (by omega)]⟩
  have g4 : ((h3.mk' h3.next (.cells [.int .i64 0, .nils, .nils] 26 0)).put h3.next (.cells [.int .i64 (rdN 2 t).1, .nils, .nils] 26 1)).get h3.next = some (.cells [.int .i64 (rdN 2 t).1, .nils, .nils] 26 1) := by rw [Heap.get_put, if_pos rfl]
  have rp4 := rp3.frame x4.1 (x4.2 rb rp3.1)
  generalize (h3.mk' h3.next (.cells [.int .i64 0, .nils, .nils] 26 0)).put h3.next (.cells [.int .i64 (rdN 2 t).1, .nils, .nils] 26 1) = h4 at *
  refine rnum_cl g (N := 1) (by decide) rp4 fun h5 rp5 x5 => ?_
  have e5 := x5.next
  have hby := rp3.2.1
  have hk := rdN1_le hby
  have hk0 := (rdN_le (n := 1) (by decide) hby).1
  obtain ⟨m, hm⟩ : ∃ m : Nat, (rdN 1 (rdN 2 t).2).1 = (m : Int) := ⟨(rdN 1 (rdN 2 t).2).1.toNat, by omega⟩
  have xa : ExtX rb h h5 := (((x1.x).trans x3.x).trans x4.x).trans x5.x
  have g5 : h5.get h3.next = some (.cells [.int .i64 (rdN 2 t).1, .nils, .nils] 26 1) := (x5.keep _ (by omega)).trans g4
  have g5b : h5.get h.next = some (.cells [.int .i64 0, .nils, .nils] 26 0) := (x5.keep _ (by omega)).trans ((x4.2 _ (by omega)).trans g3)
  simp only [hm, R0, R1, R2, R3, R4, R5, R6, R7, R8, R9, VOp.fresh, bxC, bsC, R10, un, most, callsOf, List.contains_nil, List.contains_cons, beq_iff_eq, List.getElem?_cons_zero, List.getElem?_cons_succ, seval, Option.map_none, Int.reducePow, ↓reduceIte, Nat.reduceEqDiff, reduceCtorEq, and_self]
  refine rd_ints0 g (N0 := h5.next) (G := h5.get) (fb := h3.next) (p0 := .int .i64 (rdN 2 t).1) (p1 := .nils) (by have := rp5.1; omega) (by omega) (by omega) m [] _ _ h5 .nils _ _ (by simp; omega) (Nat.le_refl _) ⟨_, _, g5⟩ (.nil _ _ _) rp5 (fun _ _ _ _ => rfl) ?_ ?_ ?_ ?_ ?_
  · simp only [sg_set, Nat.reduceEqDiff, ↓reduceIte]
  · simp only [sg_set, Nat.reduceEqDiff, ↓reduceIte]
  · simp only [sg_set, Nat.reduceEqDiff, ↓reduceIte]
    simp
  · simp only [sg_set, Nat.reduceEqDiff, ↓reduceIte]
    rfl
  intro s' h6 sv ⟨ef, vf, g6⟩ r6 rp6 x6 n6 ks
  have a0 := ks 0 (by simp)
  have a2 := ks 2 (by simp)
  have a3 := ks 3 (by simp)
  have a4 := ks 4 (by simp)
  simp only [sg_set, Nat.reduceEqDiff, ↓reduceIte] at a0 a2 a3 a4
  clear ks
  simp only [a0, a2, a3, a4, R0, R1, R2, R3, R4, R5, R6, R7, R8, R9, VOp.fresh, bxC, bsC, R10, un, most, callsOf, List.contains_nil, List.contains_cons, beq_iff_eq, List.getElem?_cons_zero, List.getElem?_cons_succ, seval, Option.map_none, Int.reducePow, ↓reduceIte, Nat.reduceEqDiff, reduceCtorEq, and_self]
  refine rd_ints1 g (N0 := h6.next) (G := h6.get) (fb := h3.next) (p0 := .int .i64 (rdN 2 t).1) (p1 := sv) (by have := rp6.1; omega) (by omega) (by omega) m [] _ _ h6 .nils _ _ (by simp; omega) (Nat.le_refl _) ⟨_, _, g6⟩ (.nil _ _ _) rp6 (fun _ _ _ _ => rfl) ?_ ?_ ?_ ?_ ?_
  · simp only [a0, sg_set, Nat.reduceEqDiff, ↓reduceIte]
  · simp only [a3, sg_set, Nat.reduceEqDiff, ↓reduceIte]
  · simp only [sg_set, Nat.reduceEqDiff, ↓reduceIte]
    simp
  · simp only [sg_set, Nat.reduceEqDiff, ↓reduceIte]
    rfl
  intro s'' h7 ov ⟨ef', vf', g7⟩ r7 rp7 x7 n7 ks
  have b2 := ks 2 (by simp)
  have b3 := ks 3 (by simp)
  simp only [sg_set, Nat.reduceEqDiff, ↓reduceIte, a2, a3] at b2 b3
  clear ks
  have er : (rdMp t) = (⟨(rdN 2 t).1, (rep (rdN 4) m (rdN 1 (rdN 2 t).2).2).1, (rep (rdN 1) m (rep (rdN 4) m (rdN 1 (rdN 2 t).2).2).2).1⟩, (rep (rdN 1) m (rep (rdN 4) m (rdN 1 (rdN 2 t).2).2).2).2) := by
    rw [rdMp]
    simp only [hm, Int.toNat_natCast]
  have g7b : h7.get h.next = some (.cells [.int .i64 0, .nils, .nils] 26 0) := (x7 _ (by omega) (by omega) (by omega)).trans ((x6 _ (by omega) (by omega) (by omega)).trans g5b)
  have hvs := r6.inB
  have r6' : LR h7 (h5.next ≤ ·) sv 1 (([] ++ (rep (rdN 4) m (rdN 1 (rdN 2 t).2).2).1).map (AV.int .i64)) (([] : List Int).length + m) := r6.frame n7 fun b hb hlt => x7 b hlt (by have := rp5.1; omega) (by omega)
  simp only [b2, b3, g7, g7b, RW, r6.one, r7.one, R0, R1, R2, R3, R4, R5, R6, R7, R8, R9, VOp.fresh, bxC, bsC, R10, un, most, callsOf, List.contains_nil, List.contains_cons, beq_iff_eq, List.getElem?_cons_zero, List.getElem?_cons_succ, seval, Option.map_none, Int.reducePow, ↓reduceIte, Nat.reduceEqDiff, reduceCtorEq, and_self]
  rw [List.nil_append] at r6' r7
  rw [show ([] : List Int).length + m = (rep (rdN 4) m (rdN 1 (rdN 2 t).2).2).1.length by rw [rep_len]; simp] at r6'
  rw [show ([] : List Int).length + m = (rep (rdN 1) m (rep (rdN 4) m (rdN 1 (rdN 2 t).2).2).2).1.length by rw [rep_len]; simp] at r7
  have hq := q sv ov (h7.put h.next (.cells [.int .i64 (rdN 2 t).1, sv, ov] 26 1))
  rw [er] at hq
  have fin : ∀ {v : AV} {N : Nat} {tl : List AV} {n : Nat}, h.next < N → LR h7 (N ≤ ·) v 1 tl n → LR (h7.put h.next (.cells [.int .i64 (rdN 2 t).1, sv, ov] 26 1)) (h.next ≤ ·) v 1 tl n := fun hN r => ((r.weak (B' := fun b => h.next ≤ b ∧ b ≠ h.next) fun b hb _ => ⟨by omega, by omega⟩).frame (by rw [put_next]; exact Nat.le_refl _) fun b hb _ => by rw [Heap.get_put, if_neg hb.2]).weak fun b hb _ => hb.1
  refine hq (fin (by omega) r6') (fin (by omega) r7) ?_ ?_
  · exact rp7.frame (by rw [put_next]; exact Nat.le_refl _) (by rw [Heap.get_put, if_neg (by omega)])
  · refine ⟨by rw [put_next]; omega, fun b hb hx => ?_⟩
    rw [Heap.get_put, if_neg (by omega), x7 b (by have := xa.1; omega) hx (by omega), x6 b (by have := xa.1; omega) hx (by omega)]
    exact xa.2 b hb hx
theorem rd_name (g : Pg P tab) {rb : Nat} {t : List Nat} {h : Heap} (rp : RP rb t h) {Q : AV → Heap → Prop} (q : ∀ h', RP rb (rdN 2 (rdN 1 t).2).2 h' → ExtX rb h h' → Q (.agg [.int .i64 (rdN 1 t).1, .int .i64 (rdN 2 (rdN 1 t).2).1]) h') : Cl P 59 [.ptr rb 0] h Q := by
  refine g.cl (vf := v59) rfl rfl ?_
  have hrb := rp.1
  have x1 := Ext.mk (h := h) (.cells [.int .i64 0, .int .i64 0] 23 0)
  have n1 : (h.mk' h.next (.cells [.int .i64 0, .int .i64 0] 23 0)).next = h.next + 1 := by rw [mk_next]; omega
  have g1 : (h.mk' h.next (.cells [.int .i64 0, .int .i64 0] 23 0)).get h.next = some (.cells [.int .i64 0, .int .i64 0] 23 0) := by rw [Heap.get_mk, if_pos rfl]
  have rp1 := rp.frame x1.1 (x1.2 rb hrb)
  simp only [v59, R0, R1, R2, R3, R4, R5, R6, R7, R8, R9, VOp.fresh, bxC, bsC, R10, un, most, callsOf, List.contains_nil, List.contains_cons, beq_iff_eq, List.getElem?_cons_zero, List.getElem?_cons_succ, seval, Option.map_none, Int.reducePow, ↓reduceIte, Nat.reduceEqDiff, reduceCtorEq, and_self]
  generalize h.mk' h.next (.cells [.int .i64 0, .int .i64 0] 23 0) = h1 at *
  refine rnum_cl g (N := 1) (by decide) rp1 fun h2 rp2 x2 => ?_
  simp only [R0, R1, R2, R3, R4, R5, R6, R7, R8, R9, VOp.fresh, bxC, bsC, R10, un, most, callsOf, List.contains_nil, List.contains_cons, beq_iff_eq, List.getElem?_cons_zero, List.getElem?_cons_succ, seval, Option.map_none, Int.reducePow, ↓reduceIte, Nat.reduceEqDiff, reduceCtorEq, and_self]
  refine rnum_cl g (N := 2) (by decide) rp2 fun h3 rp3 x3 => ?_
  have e2 := x2.next
  have e3 := x3.next
  have g3 : h3.get h.next = some (.cells [.int .i64 0, .int .i64 0] 23 0) := (x3.keep _ (by omega)).trans ((x2.keep _ (by omega)).trans g1)
  simp only [g3, RW, R0, R1, R2, R3, R4, R5, R6, R7, R8, R9, VOp.fresh, bxC, bsC, R10, un, most, callsOf, List.contains_nil, List.contains_cons, beq_iff_eq, List.getElem?_cons_zero, List.getElem?_cons_succ, seval, Option.map_none, Int.reducePow, ↓reduceIte, Nat.reduceEqDiff, reduceCtorEq, and_self]
  refine q _ (rp3.frame (by rw [put_next]; exact Nat.le_refl _) (by rw [Heap.get_put, if_neg (by omega)])) ⟨by rw [put_next]; omega, fun b hb hx => ?_⟩
  rw [Heap.get_put, if_neg (by omega)]
  exact (((x1.x).trans x2.x).trans x3.x).2 b hb hx
theorem rd_bool (g : Pg P tab) {rb : Nat} {t : List Nat} {h : Heap} (rp : RP rb t h) {Q : AV → Heap → Prop} (q : ∀ h', RP rb (rdN 1 t).2 h' → ExtX rb h h' → Q (.bool (decide ((rdN 1 t).1 = 1))) h') : Cl P 61 [.ptr rb 0] h Q := by
  refine g.cl (vf := v61) rfl rfl ?_
  simp only [v61, R0, R1, R2, R3, R4, R5, R6, R7, R8, R9, VOp.fresh, bxC, bsC, R10, un, most, callsOf, List.contains_nil, List.contains_cons, beq_iff_eq, List.getElem?_cons_zero, List.getElem?_cons_succ, seval, Option.map_none, Int.reducePow, ↓reduceIte, Nat.reduceEqDiff, reduceCtorEq, and_self]
  refine rnum_cl g (N := 1) (by decide) rp fun h2 rp2 x2 => ?_
  simp only [R0, R1, R2, R3, R4, R5, R6, R7, R8, R9, VOp.fresh, bxC, bsC, R10, un, most, callsOf, List.contains_nil, List.contains_cons, beq_iff_eq, List.getElem?_cons_zero, List.getElem?_cons_succ, seval, Option.map_none, Int.reducePow, ↓reduceIte, Nat.reduceEqDiff, reduceCtorEq, and_self]
  exact q _ rp2 x2.x
end
end Go.Proofs.Ytinonmcnofjeeaa.VM
