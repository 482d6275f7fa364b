/- The document's reader: features, maps, names, truths. -/
import Derived.Test.YtinonmcnofjeeaaL11Rs
namespace Go.Proofs.Ytinonmcnofjeeaa.VM
set_option linter.unusedSimpArgs false
set_option linter.unusedVariables false
set_option linter.defProp false
set_option maxHeartbeats 1000000
attribute [local irreducible] Af Nx EvO Ev Un Gd Cd EvR EvQ EvC Nc Gc Lp EvM NxM AfM GdM EvMR EvMQ EvMD EvMC Nm Gm
def rdMpM (st : Option (List Nat)) : Mp × Option (List Nat) :=
  let a := rdM 2 st; let b := rdM 1 a.2; let c := rpO (rdM 4) b.1.toNat b.2; let d := rpO (rdM 1) b.1.toNat c.2
  (⟨a.1, c.1, d.1⟩, d.2)
theorem rdMpM_by {st : Option (List Nat)} (h : ByO st) : ByO (rdMpM st).2 := rpO_by (fun _ h => rdM_by h) _ _ (rpO_by (fun _ h => rdM_by h) _ _ (rdM_by (rdM_by h)))
theorem rdMpM_sm {st : Option (List Nat)} (h : ByO st) : mpSm (rdMpM st).1 := by
  have := rdM1_le (rdM_by (n := 2) h)
  refine ⟨i64_rdM (by decide) h, ⟨?_, rpO_all (fun _ h => rdM_by h) (fun s h => i64_rdM (by decide) h) _ _ (rdM_by (rdM_by h))⟩, ⟨?_, rpO_all (fun _ h => rdM_by h) (fun s h => i64_rdM (by decide) h) _ _ (rpO_by (fun _ h => rdM_by h) _ _ (rdM_by (rdM_by h)))⟩⟩
  · have := rpO_len (rdM 4) (rdM 1 (rdM 2 st).2).1.toNat (rdM 1 (rdM 2 st).2).2
    show (rpO (rdM 4) _ _).1.length ≤ _
    omega
  · have := rpO_len (rdM 1) (rdM 1 (rdM 2 st).2).1.toNat (rpO (rdM 4) (rdM 1 (rdM 2 st).2).1.toNat (rdM 1 (rdM 2 st).2).2).2
    show (rpO (rdM 1) _ _).1.length ≤ _
    omega
theorem rdMpM_put {m : Mp} {nodes : Int} (h : mpOk nodes m) (t : List Nat) : rdMpM (some (mpB m ++ t)) = (m, some t) := by
  obtain ⟨h1, h2⟩ := mpOk_pts h
  obtain ⟨a1, a2, a3, a4, a5, a6, a7, a8, _⟩ := h
  rw [rdMpM, mpB]
  simp only [List.append_assoc]
  rw [rdM_put (by omega) (by omega)]
  simp only
  rw [rdM_put (by omega) (by omega)]
  simp only [Int.toNat_natCast]
  rw [rpO_put m.starts _ fun x hx t => rdM_put (h1 x hx).1 (by have := (h1 x hx).2; omega) t]
  simp only
  rw [← a7, rpO_put m.owners t fun x hx t => rdM_put (h2 x hx).1 (by have := (h2 x hx).2; omega) t]
section
variable {P : Program}
theorem rr_feat (g : Pg P tab) {rb : Nat} {S : List Nat} {t : Option (List Nat)} {h : Heap} (rp : RR rb S t h) {Q : AV → Heap → Prop} (q : ∀ rv h', LR h' (h.next ≤ ·) rv 1 ((rdFeatM t).1.rings.map cRing) (rdFeatM t).1.rings.length → RR rb S (rdFeatM t).2 h' → ExtX rb h h' → Q (.agg [.int .i64 (rdFeatM t).1.id, .int .i64 (rdFeatM t).1.shape, rv]) h') : Cl P 80 [.ptr rb 0] h Q := by
  refine g.cl (vf := v80) rfl rfl ?_
  have hrb := rp.1
  have n1 : (h.mk' h.next (.cells [.int .i64 0, .int .i64 0, .nils] 52 0)).next = h.next + 1 := by rw [mk_next]; omega
  have x1 := Ext.mk (h := h) (.cells [.int .i64 0, .int .i64 0, .nils] 52 0)
  have x1b := Ext.mk (h := h.mk' h.next (.cells [.int .i64 0, .int .i64 0, .nils] 52 0)) (.cells [.int .i64 0, .int .i64 0, .nils] 52 0)
  rw [n1] at x1b
  have x1' := x1.trans x1b
  have g1 : ((h.mk' h.next (.cells [.int .i64 0, .int .i64 0, .nils] 52 0)).mk' (h.next + 1) (.cells [.int .i64 0, .int .i64 0, .nils] 52 0)).get h.next = some (.cells [.int .i64 0, .int .i64 0, .nils] 52 0) := by rw [Heap.get_mk, if_neg (by omega), Heap.get_mk, if_pos rfl]
  have g1b : ((h.mk' h.next (.cells [.int .i64 0, .int .i64 0, .nils] 52 0)).mk' (h.next + 1) (.cells [.int .i64 0, .int .i64 0, .nils] 52 0)).get (h.next + 1) = some (.cells [.int .i64 0, .int .i64 0, .nils] 52 0) := by rw [Heap.get_mk, if_pos rfl]
  have n1b : ((h.mk' h.next (.cells [.int .i64 0, .int .i64 0, .nils] 52 0)).mk' (h.next + 1) (.cells [.int .i64 0, .int .i64 0, .nils] 52 0)).next = h.next + 2 := by rw [mk_next, n1]; omega
  have rp1 := rp.frame x1'.1 (x1'.2 rb hrb)
  simp only [v80, R0, R1, R2, R3, R4, R5, R6, R7, R8, R9, VOp.fresh, bxC, bsC, R10, un, most, callsOf, List.contains_nil, List.contains_cons, beq_iff_eq, List.getElem?_cons_zero, List.getElem?_cons_succ, seval, Option.map_none, Int.reducePow, ↓reduceIte, Nat.reduceEqDiff, reduceCtorEq, and_self]
  generalize (h.mk' h.next (.cells [.int .i64 0, .int .i64 0, .nils] 52 0)).mk' (h.next + 1) (.cells [.int .i64 0, .int .i64 0, .nils] 52 0) = h1 at *
  refine rrnum_cl g (N := 2) (by decide) rp1 fun h2 rp2 x2 => ?_
  have e2 := x2.next
  have g2 := (x2.keep (h.next + 1) (by omega)).trans g1b
  have g2' := (x2.keep h.next (by omega)).trans g1
  have rp2' : RR rb S (rdM 2 t).2 (h2.put (h.next + 1) (.cells [.int .i64 (rdM 2 t).1, .int .i64 0, .nils] 52 1)) := rp2.frame (Nat.le_refl _) (by rw [Heap.get_put, if_neg (by omega)])
  simp only [g2, RW, R0, R1, R2, R3, R4, R5, R6, R7, R8, R9, VOp.fresh, bxC, bsC, R10, un, most, callsOf, List.contains_nil, List.contains_cons, beq_iff_eq, List.getElem?_cons_zero, List.getElem?_cons_succ, seval, Option.map_none, Int.reducePow, ↓reduceIte, Nat.reduceEqDiff, reduceCtorEq, and_self]
  refine rrnum_cl g (N := 1) (by decide) rp2' fun h3 rp3 x3 => ?_
  have e3 : h3.next = h2.next := x3.next
  have g3 := (x3.keep (h.next + 1) (by omega)).trans (by rw [Heap.get_put, if_pos rfl])
  have g3' := ((x3.keep h.next (by omega)).trans (by rw [Heap.get_put, if_neg (by omega)])).trans g2'
  have rp3' : RR rb S (rdM 1 (rdM 2 t).2).2 (h3.put (h.next + 1) (.cells [.int .i64 (rdM 2 t).1, .int .i64 (rdM 1 (rdM 2 t).2).1, .nils] 52 2)) := rp3.frame (Nat.le_refl _) (by rw [Heap.get_put, if_neg (by omega)])
  simp only [g3, RW, R0, R1, R2, R3, R4, R5, R6, R7, R8, R9, VOp.fresh, bxC, bsC, R10, un, most, callsOf, List.contains_nil, List.contains_cons, beq_iff_eq, List.getElem?_cons_zero, List.getElem?_cons_succ, seval, Option.map_none, Int.reducePow, ↓reduceIte, Nat.reduceEqDiff, reduceCtorEq, and_self]
  refine rrnum_cl g (N := 1) (by decide) rp3' fun h5 rp5 x5 => ?_
  have e5 : h5.next = h3.next := x5.next
  have hby := rp3.by
  have hk := rdM1_le hby
  have hk0 := (rdM_le (n := 1) (by decide) hby).1
  obtain ⟨m, hm⟩ : ∃ m : Nat, (rdM 1 (rdM 1 (rdM 2 t).2).2).1 = (m : Int) := ⟨(rdM 1 (rdM 1 (rdM 2 t).2).2).1.toNat, by omega⟩
  have g5 := (x5.keep (h.next + 1) (by omega)).trans (by rw [Heap.get_put, if_pos rfl])
  have g5b := ((x5.keep h.next (by omega)).trans (by rw [Heap.get_put, if_neg (by omega)])).trans g3'
  have xa : ExtX rb h h5 := ⟨by omega, fun b hb hx => by rw [x5.keep b hx, Heap.get_put, if_neg (by omega), x3.keep b hx, Heap.get_put, if_neg (by omega), x2.keep b hx]; exact x1'.2 b hb⟩
  simp only [hm, R0, R1, R2, R3, R4, R5, R6, R7, R8, R9, VOp.fresh, bxC, bsC, R10, un, most, callsOf, List.contains_nil, List.contains_cons, beq_iff_eq, List.getElem?_cons_zero, List.getElem?_cons_succ, seval, Option.map_none, Int.reducePow, ↓reduceIte, Nat.reduceEqDiff, reduceCtorEq, and_self]
  refine rr_rings g (N0 := h5.next) (G := h5.get) (fb := h.next + 1) (p0 := .int .i64 (rdM 2 t).1) (p1 := .int .i64 (rdM 1 (rdM 2 t).2).1) (by have := rp5.1; omega) (by omega) (by omega) m [] _ _ h5 .nils _ _ (by simp; omega) (Nat.le_refl _) ⟨_, _, g5⟩ (.nil _ _ _) rp5 (fun _ _ _ _ => rfl) ?_ ?_ ?_ ?_ ?_
  · simp only [sg_set, Nat.reduceEqDiff, ↓reduceIte]
  · simp only [sg_set, Nat.reduceEqDiff, ↓reduceIte]
  · simp only [sg_set, Nat.reduceEqDiff, ↓reduceIte]
    simp
  · simp only [sg_set, Nat.reduceEqDiff, ↓reduceIte]
    rfl
  intro s' h6 rv ⟨ef, vf, g6⟩ r6 rp6 x6 n6 ks
  have a2 := ks 2 (by simp)
  have a3 := ks 3 (by simp)
  simp only [sg_set, Nat.reduceEqDiff, ↓reduceIte] at a2 a3
  have er : (rdFeatM t) = (⟨(rdM 2 t).1, (rdM 1 (rdM 2 t).2).1, (rpO rdRingM m (rdM 1 (rdM 1 (rdM 2 t).2).2).2).1⟩, (rpO rdRingM m (rdM 1 (rdM 1 (rdM 2 t).2).2).2).2) := by
    rw [rdFeatM]
    simp only [hm, Int.toNat_natCast]
  have g6b := (x6 h.next (by omega) (by omega) (by omega)).trans g5b
  simp only [a2, a3, g6, g6b, RW, r6.one, R0, R1, R2, R3, R4, R5, R6, R7, R8, R9, VOp.fresh, bxC, bsC, R10, un, most, callsOf, List.contains_nil, List.contains_cons, beq_iff_eq, List.getElem?_cons_zero, List.getElem?_cons_succ, seval, Option.map_none, Int.reducePow, ↓reduceIte, Nat.reduceEqDiff, reduceCtorEq, and_self]
  rw [List.nil_append] at r6
  have hq := q rv (h6.put h.next (.cells [.int .i64 (rdM 2 t).1, .int .i64 (rdM 1 (rdM 2 t).2).1, rv] 52 1))
  rw [er] at hq
  refine hq ?_ ?_ ?_
  · exact ((r6.weak (B' := fun b => h.next ≤ b ∧ b ≠ h.next) fun b hb _ => ⟨by omega, by omega⟩).frame (by rw [put_next]; exact Nat.le_refl _) fun b hb _ => by rw [Heap.get_put, if_neg hb.2]).weak fun b hb _ => hb.1
  · exact rp6.frame (by rw [put_next]; exact Nat.le_refl _) (by rw [Heap.get_put, if_neg (by omega)])
  · refine ⟨by rw [put_next]; omega, fun b hb hx => ?_⟩
    rw [Heap.get_put, if_neg (by omega), x6 b (by have := xa.1; omega) hx (by omega)]
    exact xa.2 b hb hx
theorem rr_ints0 (g : Pg P tab) {rb fb N0 : Nat} {S : List Nat} {G : Nat → Option Blk} {p0 p1 : AV} (hrb : rb < N0) (hfb : fb < N0) (hne : fb ≠ rb) (n : Nat) : ∀ (done : List Int) (st : Option (List Nat)) (s : T AV) (h : Heap) (rv : AV) (k : List Fr) (Q : Ex → T AV → Heap → Prop), done.length + n ≤ 1000 →
    N0 ≤ h.next → (∃ e ver, h.get fb = some (.cells [p0, rv, p1] e ver)) → LR h (N0 ≤ ·) rv 1 (done.map (AV.int .i64)) done.length → RR rb S st h → (∀ b, b < N0 → b ≠ rb → b ≠ fb → h.get b = G b) → sg s 0 = .ptr rb 0 → sg s 3 = .ptr fb 0 → sg s 4 = .int .i64 (done.length + n : Nat) → sg s 5 = .int .i64 done.length →
    (∀ s' h' rv', (∃ e ver, h'.get fb = some (.cells [p0, rv', p1] e ver)) → LR h' (N0 ≤ ·) rv' 1 ((done ++ (rpO (rdM 4) n st).1).map (AV.int .i64)) (done ++ (rpO (rdM 4) n st).1).length → RR rb S (rpO (rdM 4) n st).2 h' → (∀ b, b < N0 → b ≠ rb → b ≠ fb → h'.get b = G b) → N0 ≤ h'.next → (∀ j, j = 0 ∨ j = 2 ∨ j = 3 ∨ j = 4 → sg s' j = sg s j) → Un P k Q (.exit 0) s' h') → Lp P b63_0 s h (Un P k Q) := by
  induction n with
  | zero =>
    intro done st s h rv k Q hl hn0 hf r rp ex h0 h3 h4 h13 hQ
    refine g.lpe b63_0.eq_1 ?_
    have c1 : ¬ ((done.length : Int) < (done.length : Int)) := by omega
    rw [Nat.add_zero] at h4
    simp only [h4, h13, c1, R0, R1, R2, R3, R4, R5, R6, R7, R8, R9, VOp.fresh, bxC, bsC, R10, un, most, callsOf, List.contains_nil, List.contains_cons, beq_iff_eq, List.getElem?_cons_zero, List.getElem?_cons_succ, seval, Option.map_none, Int.reducePow, ↓reduceIte, Nat.reduceEqDiff, reduceCtorEq, and_self]
    refine hQ _ _ rv hf ?_ rp ex hn0 ?_
    · simpa [rpO] using r
    · rintro j (rfl | rfl | rfl | rfl) <;> simp only [sg_set, Nat.reduceEqDiff, ↓reduceIte]
  | succ n ih =>
    intro done st s h rv k Q hl hn0 hf r rp ex h0 h3 h4 h13 hQ
    refine g.lpe b63_0.eq_1 ?_
    have c1 : (done.length : Int) < ((done.length + (n + 1) : Nat) : Int) := by omega
    have w1 : IntKind.i64.wrap ((done.length : Int) + 1) = ((done.length + 1 : Nat) : Int) := by rw [w64 (by omega) (by omega)]; push_cast; rfl
    have hnb : ¬ N0 ≤ rb := by omega
    cases st with
    | none =>
      obtain ⟨e, ver, x, gb⟩ := rp.none
      simp only [h0, h4, h13, c1, gb, R0, R1, R2, R3, R4, R5, R6, R7, R8, R9, VOp.fresh, bxC, bsC, R10, un, most, callsOf, List.contains_nil, List.contains_cons, beq_iff_eq, List.getElem?_cons_zero, List.getElem?_cons_succ, seval, Option.map_none, Int.reducePow, ↓reduceIte, Nat.reduceEqDiff, reduceCtorEq, and_self]
      refine hQ _ _ rv hf ?_ rp ex hn0 ?_
      · simpa [rpO] using r
      · rintro j (rfl | rfl | rfl | rfl) <;> simp only [sg_set, Nat.reduceEqDiff, ↓reduceIte]
    | some t =>
      obtain ⟨e0, ver0, x0, gb⟩ := rp.some
      obtain ⟨ef, vf, hf⟩ := hf
      obtain ⟨e, ver, a, bad, hok, ha, hs⟩ := rrnum g (N := 4) (by decide) rp
      replace hok : OK P 62 [.ptr rb 0, .int .i64 4] h (.int .i64 (rdM 4 (some t)).1) (h.put rb (.cells [.str S, .int .i64 (a : Nat), .bool bad] e ver)) := hok
      simp only [h0, h3, h4, h13, c1, gb, R0, R1, R2, R3, R4, R5, R6, R7, R8, R9, VOp.fresh, bxC, bsC, R10, un, most, callsOf, List.contains_nil, List.contains_cons, beq_iff_eq, List.getElem?_cons_zero, List.getElem?_cons_succ, seval, Option.map_none, Int.reducePow, ↓reduceIte, Nat.reduceEqDiff, reduceCtorEq, and_self]
      refine EvD.lk (fun _ _ h => (.int .i64 (rdM 4 (some t)).1, h.put rb (.cells [.str S, .int .i64 (a : Nat), .bool bad] e ver))) ?_
      have x2 : Nx1 rb h (h.put rb (.cells [.str S, .int .i64 (a : Nat), .bool bad] e ver)) := ⟨rfl, fun b hb => by rw [Heap.get_put, if_neg hb]⟩
      have rp2 : RR rb S (rdM 4 (some t)).2 (h.put rb (.cells [.str S, .int .i64 (a : Nat), .bool bad] e ver)) := ⟨rp.1, rp.2.1, rp.2.2.1, e, ver, a, bad, by rw [Heap.get_put, if_pos rfl], ha, hs⟩
      generalize hh2 : h.put rb (.cells [.str S, .int .i64 (a : Nat), .bool bad] e ver) = h2 at hok x2 rp2
      have e2 := x2.next
      have r2 := r.nx x2 hnb
      have hf2 := (x2.keep fb hne).trans hf
      have em := Ext.mk (h := h2) (.cells [.int .i64 (rdM 4 (some t)).1] 3 0)
      have hn4 : (h2.mk' h2.next (.cells [.int .i64 (rdM 4 (some t)).1] 3 0)).next = h2.next + 1 := by rw [mk_next]; omega
      obtain ⟨h5, e5, r5, n5, k5⟩ := (r2.frame em.1 fun b _ hb => em.2 b hb).push (nb := h2.next) (eb := 3) (vb := 0) (c := [.int .i64 (rdM 4 (some t)).1]) (by rw [Heap.get_mk, if_pos rfl]) rfl rfl (Lvs.tolds rfl rfl) (by rw [hn4]; omega) (bytes := 8) (by unfold most2; omega) 3
      rw [hn4] at e5 r5 n5 k5
      have hv := r2.inB
      have kk : ∀ b, b < h2.next → b ∉ blkOf rv → h5.get b = h2.get b := fun b hb hn => (k5 b hn (by omega)).trans (em.2 b hb)
      have hf5 := (kk fb (by omega) fun hc => by have := hv fb hc; omega).trans hf2
      have hfn : ¬ fb = h2.next := by omega
      have hfr : ¬ fb = rb := hne
      simp only [h0, h3, hf, hf2, hf5, hfn, hok, hh2, e5, w1, RW, r2.one, R0, R1, R2, R3, R4, R5, R6, R7, R8, R9, VOp.fresh, bxC, bsC, R10, un, most, callsOf, List.contains_nil, List.contains_cons, beq_iff_eq, List.getElem?_cons_zero, List.getElem?_cons_succ, seval, Option.map_none, Int.reducePow, ↓reduceIte, Nat.reduceEqDiff, reduceCtorEq, and_self]
      refine ⟨⟨⟨?_, ?_, trivial⟩, trivial⟩, ?_⟩
      · show Lk _ _ _ _
        simp only [Lk, wanted, hf2, R0, R1, R2, R3, R4, R5, R6, R7, R8, R9, VOp.fresh, bxC, bsC, R10, un, most, callsOf, List.contains_nil, List.contains_cons, beq_iff_eq, List.getElem?_cons_zero, List.getElem?_cons_succ, seval, Option.map_none, Int.reducePow, ↓reduceIte, Nat.reduceEqDiff, reduceCtorEq, and_self]
      · show Lk _ _ _ _
        simp only [Lk, wanted, hf2, hfn, R0, R1, R2, R3, R4, R5, R6, R7, R8, R9, VOp.fresh, bxC, bsC, R10, un, most, callsOf, List.contains_nil, List.contains_cons, beq_iff_eq, List.getElem?_cons_zero, List.getElem?_cons_succ, seval, Option.map_none, Int.reducePow, ↓reduceIte, Nat.reduceEqDiff, reduceCtorEq, and_self]
      simp only [h13, w1, R0, R1, R2, R3, R4, R5, R6, R7, R8, R9, VOp.fresh, bxC, bsC, R10, un, most, callsOf, List.contains_nil, List.contains_cons, beq_iff_eq, List.getElem?_cons_zero, List.getElem?_cons_succ, seval, Option.map_none, Int.reducePow, ↓reduceIte, Nat.reduceEqDiff, reduceCtorEq, and_self]
      refine ih (done ++ [(rdM 4 (some t)).1]) (rdM 4 (some t)).2 _ _ (.sl (h2.next + 1) 0 (done.length + 1) (done.length + 1) 1) k Q (by rw [List.length_append, List.length_singleton]; omega) ?_ ?_ ?_ ?_ ?_ ?_ ?_ ?_ ?_ ?_
      · rw [put_next]; omega
      · exact ⟨ef, vf + 1, by rw [Heap.get_put, if_pos rfl]⟩
      · have r6 := (r5.weak (B' := fun b => N0 ≤ b ∧ b ≠ fb) fun b hb _ => ⟨hb, by omega⟩).frame (h' := h5.put fb (.cells [p0, .sl (h2.next + 1) 0 (done.length + 1) (done.length + 1) 1, p1] ef (vf + 1))) (by rw [put_next]; exact Nat.le_refl _) fun b hb _ => by rw [Heap.get_put, if_neg hb.2]
        have r7 := r6.weak (B' := (N0 ≤ ·)) fun b hb _ => hb.1
        simpa only [List.map_append, List.map_cons, List.map_nil, List.length_append, List.length_singleton] using r7
      · exact (rp2.frame (by omega) (kk rb rp2.1 fun hc => by have := hv rb hc; omega)).frame (by rw [put_next]; exact Nat.le_refl _) (by rw [Heap.get_put, if_neg (fun e => hne e.symm)])
      · intro b hb hx hf'
        rw [Heap.get_put, if_neg hf', kk b (by omega) (fun hc => by have := hv b hc; omega), x2.keep b hx, ex b hb hx hf']
      · simp only [h0, sg_set, Nat.reduceEqDiff, ↓reduceIte]
      · simp only [h3, sg_set, Nat.reduceEqDiff, ↓reduceIte]
      · simp only [h4, sg_set, Nat.reduceEqDiff, ↓reduceIte]
        rw [List.length_append, List.length_singleton]
        congr 2; omega
      · simp only [sg_set, Nat.reduceEqDiff, ↓reduceIte]
        rw [List.length_append, List.length_singleton]
      · intro s'' h' rv' q0 q1 q2 q3 q4 q5
        refine hQ s'' h' rv' q0 ?_ q2 q3 q4 fun j hj => (q5 j hj).trans ?_
        · simpa only [rpO, List.append_assoc, List.cons_append, List.nil_append] using q1
        · rcases hj with rfl | rfl | rfl | rfl <;> simp only [sg_set, Nat.reduceEqDiff, ↓reduceIte]
theorem rr_ints1 (g : Pg P tab) {rb fb N0 : Nat} {S : List Nat} {G : Nat → Option Blk} {p0 p1 : AV} (hrb : rb < N0) (hfb : fb < N0) (hne : fb ≠ rb) (n : Nat) : ∀ (done : List Int) (st : Option (List Nat)) (s : T AV) (h : Heap) (rv : AV) (k : List Fr) (Q : Ex → T AV → Heap → Prop), done.length + n ≤ 1000 →
    N0 ≤ h.next → (∃ e ver, h.get fb = some (.cells [p0, p1, rv] e ver)) → LR h (N0 ≤ ·) rv 1 (done.map (AV.int .i64)) done.length → RR rb S st h → (∀ b, b < N0 → b ≠ rb → b ≠ fb → h.get b = G b) → sg s 0 = .ptr rb 0 → sg s 3 = .ptr fb 0 → sg s 4 = .int .i64 (done.length + n : Nat) → sg s 6 = .int .i64 done.length →
    (∀ s' h' rv', (∃ e ver, h'.get fb = some (.cells [p0, p1, rv'] e ver)) → LR h' (N0 ≤ ·) rv' 1 ((done ++ (rpO (rdM 1) n st).1).map (AV.int .i64)) (done ++ (rpO (rdM 1) n st).1).length → RR rb S (rpO (rdM 1) n st).2 h' → (∀ b, b < N0 → b ≠ rb → b ≠ fb → h'.get b = G b) → N0 ≤ h'.next → (∀ j, j = 0 ∨ j = 2 ∨ j = 3 ∨ j = 4 → sg s' j = sg s j) → Un P k Q (.exit 2) s' h') → Lp P b63_1 s h (Un P k Q) := by
  induction n with
  | zero =>
    intro done st s h rv k Q hl hn0 hf r rp ex h0 h3 h4 h13 hQ
    refine g.lpe b63_1.eq_1 ?_
    have c1 : ¬ ((done.length : Int) < (done.length : Int)) := by omega
    rw [Nat.add_zero] at h4
    simp only [h4, h13, c1, R0, R1, R2, R3, R4, R5, R6, R7, R8, R9, VOp.fresh, bxC, bsC, R10, un, most, callsOf, List.contains_nil, List.contains_cons, beq_iff_eq, List.getElem?_cons_zero, List.getElem?_cons_succ, seval, Option.map_none, Int.reducePow, ↓reduceIte, Nat.reduceEqDiff, reduceCtorEq, and_self]
    refine hQ _ _ rv hf ?_ rp ex hn0 ?_
    · simpa [rpO] using r
    · rintro j (rfl | rfl | rfl | rfl) <;> simp only [sg_set, Nat.reduceEqDiff, ↓reduceIte]
  | succ n ih =>
    intro done st s h rv k Q hl hn0 hf r rp ex h0 h3 h4 h13 hQ
    refine g.lpe b63_1.eq_1 ?_
    have c1 : (done.length : Int) < ((done.length + (n + 1) : Nat) : Int) := by omega
    have w1 : IntKind.i64.wrap ((done.length : Int) + 1) = ((done.length + 1 : Nat) : Int) := by rw [w64 (by omega) (by omega)]; push_cast; rfl
    have hnb : ¬ N0 ≤ rb := by omega
    cases st with
    | none =>
      obtain ⟨e, ver, x, gb⟩ := rp.none
      simp only [h0, h4, h13, c1, gb, R0, R1, R2, R3, R4, R5, R6, R7, R8, R9, VOp.fresh, bxC, bsC, R10, un, most, callsOf, List.contains_nil, List.contains_cons, beq_iff_eq, List.getElem?_cons_zero, List.getElem?_cons_succ, seval, Option.map_none, Int.reducePow, ↓reduceIte, Nat.reduceEqDiff, reduceCtorEq, and_self]
      refine hQ _ _ rv hf ?_ rp ex hn0 ?_
      · simpa [rpO] using r
      · rintro j (rfl | rfl | rfl | rfl) <;> simp only [sg_set, Nat.reduceEqDiff, ↓reduceIte]
    | some t =>
      obtain ⟨e0, ver0, x0, gb⟩ := rp.some
      obtain ⟨ef, vf, hf⟩ := hf
      obtain ⟨e, ver, a, bad, hok, ha, hs⟩ := rrnum g (N := 1) (by decide) rp
      replace hok : OK P 62 [.ptr rb 0, .int .i64 1] h (.int .i64 (rdM 1 (some t)).1) (h.put rb (.cells [.str S, .int .i64 (a : Nat), .bool bad] e ver)) := hok
      simp only [h0, h3, h4, h13, c1, gb, R0, R1, R2, R3, R4, R5, R6, R7, R8, R9, VOp.fresh, bxC, bsC, R10, un, most, callsOf, List.contains_nil, List.contains_cons, beq_iff_eq, List.getElem?_cons_zero, List.getElem?_cons_succ, seval, Option.map_none, Int.reducePow, ↓reduceIte, Nat.reduceEqDiff, reduceCtorEq, and_self]
      refine EvD.lk (fun _ _ h => (.int .i64 (rdM 1 (some t)).1, h.put rb (.cells [.str S, .int .i64 (a : Nat), .bool bad] e ver))) ?_
      have x2 : Nx1 rb h (h.put rb (.cells [.str S, .int .i64 (a : Nat), .bool bad] e ver)) := ⟨rfl, fun b hb => by rw [Heap.get_put, if_neg hb]⟩
      have rp2 : RR rb S (rdM 1 (some t)).2 (h.put rb (.cells [.str S, .int .i64 (a : Nat), .bool bad] e ver)) := ⟨rp.1, rp.2.1, rp.2.2.1, e, ver, a, bad, by rw [Heap.get_put, if_pos rfl], ha, hs⟩
      generalize hh2 : h.put rb (.cells [.str S, .int .i64 (a : Nat), .bool bad] e ver) = h2 at hok x2 rp2
      have e2 := x2.next
      have r2 := r.nx x2 hnb
      have hf2 := (x2.keep fb hne).trans hf
      have em := Ext.mk (h := h2) (.cells [.int .i64 (rdM 1 (some t)).1] 3 0)
      have hn4 : (h2.mk' h2.next (.cells [.int .i64 (rdM 1 (some t)).1] 3 0)).next = h2.next + 1 := by rw [mk_next]; omega
      obtain ⟨h5, e5, r5, n5, k5⟩ := (r2.frame em.1 fun b _ hb => em.2 b hb).push (nb := h2.next) (eb := 3) (vb := 0) (c := [.int .i64 (rdM 1 (some t)).1]) (by rw [Heap.get_mk, if_pos rfl]) rfl rfl (Lvs.tolds rfl rfl) (by rw [hn4]; omega) (bytes := 8) (by unfold most2; omega) 3
      rw [hn4] at e5 r5 n5 k5
      have hv := r2.inB
      have kk : ∀ b, b < h2.next → b ∉ blkOf rv → h5.get b = h2.get b := fun b hb hn => (k5 b hn (by omega)).trans (em.2 b hb)
      have hf5 := (kk fb (by omega) fun hc => by have := hv fb hc; omega).trans hf2
      have hfn : ¬ fb = h2.next := by omega
      have hfr : ¬ fb = rb := hne
      simp only [h0, h3, hf, hf2, hf5, hfn, hok, hh2, e5, w1, RW, r2.one, R0, R1, R2, R3, R4, R5, R6, R7, R8, R9, VOp.fresh, bxC, bsC, R10, un, most, callsOf, List.contains_nil, List.contains_cons, beq_iff_eq, List.getElem?_cons_zero, List.getElem?_cons_succ, seval, Option.map_none, Int.reducePow, ↓reduceIte, Nat.reduceEqDiff, reduceCtorEq, and_self]
      refine ⟨⟨⟨?_, ?_, trivial⟩, trivial⟩, ?_⟩
      · show Lk _ _ _ _
        simp only [Lk, wanted, hf2, R0, R1, R2, R3, R4, R5, R6, R7, R8, R9, VOp.fresh, bxC, bsC, R10, un, most, callsOf, List.contains_nil, List.contains_cons, beq_iff_eq, List.getElem?_cons_zero, List.getElem?_cons_succ, seval, Option.map_none, Int.reducePow, ↓reduceIte, Nat.reduceEqDiff, reduceCtorEq, and_self]
      · show Lk _ _ _ _
        simp only [Lk, wanted, hf2, hfn, R0, R1, R2, R3, R4, R5, R6, R7, R8, R9, VOp.fresh, bxC, bsC, R10, un, most, callsOf, List.contains_nil, List.contains_cons, beq_iff_eq, List.getElem?_cons_zero, List.getElem?_cons_succ, seval, Option.map_none, Int.reducePow, ↓reduceIte, Nat.reduceEqDiff, reduceCtorEq, and_self]
      simp only [h13, w1, R0, R1, R2, R3, R4, R5, R6, R7, R8, R9, VOp.fresh, bxC, bsC, R10, un, most, callsOf, List.contains_nil, List.contains_cons, beq_iff_eq, List.getElem?_cons_zero, List.getElem?_cons_succ, seval, Option.map_none, Int.reducePow, ↓reduceIte, Nat.reduceEqDiff, reduceCtorEq, and_self]
      refine ih (done ++ [(rdM 1 (some t)).1]) (rdM 1 (some t)).2 _ _ (.sl (h2.next + 1) 0 (done.length + 1) (done.length + 1) 1) k Q (by rw [List.length_append, List.length_singleton]; omega) ?_ ?_ ?_ ?_ ?_ ?_ ?_ ?_ ?_ ?_
      · rw [put_next]; omega
      · exact ⟨ef, vf + 1, by rw [Heap.get_put, if_pos rfl]⟩
      · have r6 := (r5.weak (B' := fun b => N0 ≤ b ∧ b ≠ fb) fun b hb _ => ⟨hb, by omega⟩).frame (h' := h5.put fb (.cells [p0, p1, .sl (h2.next + 1) 0 (done.length + 1) (done.length + 1) 1] ef (vf + 1))) (by rw [put_next]; exact Nat.le_refl _) fun b hb _ => by rw [Heap.get_put, if_neg hb.2]
        have r7 := r6.weak (B' := (N0 ≤ ·)) fun b hb _ => hb.1
        simpa only [List.map_append, List.map_cons, List.map_nil, List.length_append, List.length_singleton] using r7
      · exact (rp2.frame (by omega) (kk rb rp2.1 fun hc => by have := hv rb hc; omega)).frame (by rw [put_next]; exact Nat.le_refl _) (by rw [Heap.get_put, if_neg (fun e => hne e.symm)])
      · intro b hb hx hf'
        rw [Heap.get_put, if_neg hf', kk b (by omega) (fun hc => by have := hv b hc; omega), x2.keep b hx, ex b hb hx hf']
      · simp only [h0, sg_set, Nat.reduceEqDiff, ↓reduceIte]
      · simp only [h3, sg_set, Nat.reduceEqDiff, ↓reduceIte]
      · simp only [h4, sg_set, Nat.reduceEqDiff, ↓reduceIte]
        rw [List.length_append, List.length_singleton]
        congr 2; omega
      · simp only [sg_set, Nat.reduceEqDiff, ↓reduceIte]
        rw [List.length_append, List.length_singleton]
      · intro s'' h' rv' q0 q1 q2 q3 q4 q5
        refine hQ s'' h' rv' q0 ?_ q2 q3 q4 fun j hj => (q5 j hj).trans ?_
        · simpa only [rpO, List.append_assoc, List.cons_append, List.nil_append] using q1
        · rcases hj with rfl | rfl | rfl | rfl <;> simp only [sg_set, Nat.reduceEqDiff, ↓reduceIte]

theorem rr_map (g : Pg P tab) {rb : Nat} {S : List Nat} {t : Option (List Nat)} {h : Heap} (rp : RR rb S t h) {Q : AV → Heap → Prop} (q : ∀ sv ov h', LR h' (h.next ≤ ·) sv 1 ((rdMpM t).1.starts.map (AV.int .i64)) (rdMpM t).1.starts.length → LR h' (h.next ≤ ·) ov 1 ((rdMpM t).1.owners.map (AV.int .i64)) (rdMpM t).1.owners.length → RR rb S (rdMpM t).2 h' → ExtX rb h h' → Q (.agg [.int .i64 (rdMpM t).1.epoch, sv, ov]) h') : Cl P 63 [.ptr rb 0] h Q := by
  refine g.cl (vf := v63) rfl rfl ?_
  have hrb := rp.1
  have n1 : (h.mk' h.next (.cells [.int .i64 0, .nils, .nils] 26 0)).next = h.next + 1 := by rw [mk_next]; omega
  have x1 := Ext.mk (h := h) (.cells [.int .i64 0, .nils, .nils] 26 0)
  have x1b := Ext.mk (h := h.mk' h.next (.cells [.int .i64 0, .nils, .nils] 26 0)) (.cells [.int .i64 0, .nils, .nils] 26 0)
  rw [n1] at x1b
  have x1' := x1.trans x1b
  have g1 : ((h.mk' h.next (.cells [.int .i64 0, .nils, .nils] 26 0)).mk' (h.next + 1) (.cells [.int .i64 0, .nils, .nils] 26 0)).get h.next = some (.cells [.int .i64 0, .nils, .nils] 26 0) := by rw [Heap.get_mk, if_neg (by omega), Heap.get_mk, if_pos rfl]
  have g1b : ((h.mk' h.next (.cells [.int .i64 0, .nils, .nils] 26 0)).mk' (h.next + 1) (.cells [.int .i64 0, .nils, .nils] 26 0)).get (h.next + 1) = some (.cells [.int .i64 0, .nils, .nils] 26 0) := by rw [Heap.get_mk, if_pos rfl]
  have n1b : ((h.mk' h.next (.cells [.int .i64 0, .nils, .nils] 26 0)).mk' (h.next + 1) (.cells [.int .i64 0, .nils, .nils] 26 0)).next = h.next + 2 := by rw [mk_next, n1]; omega
  have rp1 := rp.frame x1'.1 (x1'.2 rb hrb)
  simp only [v63, R0, R1, R2, R3, R4, R5, R6, R7, R8, R9, VOp.fresh, bxC, bsC, R10, un, most, callsOf, List.contains_nil, List.contains_cons, beq_iff_eq, List.getElem?_cons_zero, List.getElem?_cons_succ, seval, Option.map_none, Int.reducePow, ↓reduceIte, Nat.reduceEqDiff, reduceCtorEq, and_self]
  generalize (h.mk' h.next (.cells [.int .i64 0, .nils, .nils] 26 0)).mk' (h.next + 1) (.cells [.int .i64 0, .nils, .nils] 26 0) = h1 at *
  refine rrnum_cl g (N := 2) (by decide) rp1 fun h2 rp2 x2 => ?_
  have e2 := x2.next
  have g2 := (x2.keep (h.next + 1) (by omega)).trans g1b
  have g2' := (x2.keep h.next (by omega)).trans g1
  have rp2' : RR rb S (rdM 2 t).2 (h2.put (h.next + 1) (.cells [.int .i64 (rdM 2 t).1, .nils, .nils] 26 1)) := rp2.frame (Nat.le_refl _) (by rw [Heap.get_put, if_neg (by omega)])
  simp only [g2, RW, R0, R1, R2, R3, R4, R5, R6, R7, R8, R9, VOp.fresh, bxC, bsC, R10, un, most, callsOf, List.contains_nil, List.contains_cons, beq_iff_eq, List.getElem?_cons_zero, List.getElem?_cons_succ, seval, Option.map_none, Int.reducePow, ↓reduceIte, Nat.reduceEqDiff, reduceCtorEq, and_self]
  refine rrnum_cl g (N := 1) (by decide) rp2' fun h5 rp5 x5 => ?_
  have e5 : h5.next = h2.next := x5.next
  have hby := rp2.by
  have hk := rdM1_le hby
  have hk0 := (rdM_le (n := 1) (by decide) hby).1
  obtain ⟨m, hm⟩ : ∃ m : Nat, (rdM 1 (rdM 2 t).2).1 = (m : Int) := ⟨(rdM 1 (rdM 2 t).2).1.toNat, by omega⟩
  have g5 := (x5.keep (h.next + 1) (by omega)).trans (by rw [Heap.get_put, if_pos rfl])
  have g5b := ((x5.keep h.next (by omega)).trans (by rw [Heap.get_put, if_neg (by omega)])).trans g2'
  have xa : ExtX rb h h5 := ⟨by omega, fun b hb hx => by rw [x5.keep b hx, Heap.get_put, if_neg (by omega), x2.keep b hx]; exact x1'.2 b hb⟩
  simp only [hm, R0, R1, R2, R3, R4, R5, R6, R7, R8, R9, VOp.fresh, bxC, bsC, R10, un, most, callsOf, List.contains_nil, List.contains_cons, beq_iff_eq, List.getElem?_cons_zero, List.getElem?_cons_succ, seval, Option.map_none, Int.reducePow, ↓reduceIte, Nat.reduceEqDiff, reduceCtorEq, and_self]
  refine rr_ints0 g (N0 := h5.next) (G := h5.get) (fb := h.next + 1) (p0 := .int .i64 (rdM 2 t).1) (p1 := .nils) (by have := rp5.1; omega) (by omega) (by omega) m [] _ _ h5 .nils _ _ (by simp; omega) (Nat.le_refl _) ⟨_, _, g5⟩ (.nil _ _ _) rp5 (fun _ _ _ _ => rfl) ?_ ?_ ?_ ?_ ?_
  · simp only [sg_set, Nat.reduceEqDiff, ↓reduceIte]
  · simp only [sg_set, Nat.reduceEqDiff, ↓reduceIte]
  · simp only [sg_set, Nat.reduceEqDiff, ↓reduceIte]
    simp
  · simp only [sg_set, Nat.reduceEqDiff, ↓reduceIte]
    rfl
  intro s' h6 sv ⟨ef, vf, g6⟩ r6 rp6 x6 n6 ks
  have a0 := ks 0 (by simp)
  have a2 := ks 2 (by simp)
  have a3 := ks 3 (by simp)
  have a4 := ks 4 (by simp)
  simp only [sg_set, Nat.reduceEqDiff, ↓reduceIte] at a0 a2 a3 a4
  clear ks
  simp only [a0, a2, a3, a4, R0, R1, R2, R3, R4, R5, R6, R7, R8, R9, VOp.fresh, bxC, bsC, R10, un, most, callsOf, List.contains_nil, List.contains_cons, beq_iff_eq, List.getElem?_cons_zero, List.getElem?_cons_succ, seval, Option.map_none, Int.reducePow, ↓reduceIte, Nat.reduceEqDiff, reduceCtorEq, and_self]
  refine rr_ints1 g (N0 := h6.next) (G := h6.get) (fb := h.next + 1) (p0 := .int .i64 (rdM 2 t).1) (p1 := sv) (by have := rp6.1; omega) (by omega) (by omega) m [] _ _ h6 .nils _ _ (by simp; omega) (Nat.le_refl _) ⟨_, _, g6⟩ (.nil _ _ _) rp6 (fun _ _ _ _ => rfl) ?_ ?_ ?_ ?_ ?_
  · simp only [a0, sg_set, Nat.reduceEqDiff, ↓reduceIte]
  · simp only [a3, sg_set, Nat.reduceEqDiff, ↓reduceIte]
  · simp only [a4, sg_set, Nat.reduceEqDiff, ↓reduceIte]
    simp
  · simp only [sg_set, Nat.reduceEqDiff, ↓reduceIte]
    rfl
  intro s'' h7 ov ⟨ef', vf', g7⟩ r7 rp7 x7 n7 ks
  have b2 := ks 2 (by simp)
  have b3 := ks 3 (by simp)
  simp only [sg_set, Nat.reduceEqDiff, ↓reduceIte, a2, a3] at b2 b3
  clear ks
  have er : (rdMpM t) = (⟨(rdM 2 t).1, (rpO (rdM 4) m (rdM 1 (rdM 2 t).2).2).1, (rpO (rdM 1) m (rpO (rdM 4) m (rdM 1 (rdM 2 t).2).2).2).1⟩, (rpO (rdM 1) m (rpO (rdM 4) m (rdM 1 (rdM 2 t).2).2).2).2) := by
    rw [rdMpM]
    simp only [hm, Int.toNat_natCast]
  have g7b := (x7 h.next (by omega) (by omega) (by omega)).trans ((x6 h.next (by omega) (by omega) (by omega)).trans g5b)
  have r6' := LR.frame (h' := h7) r6 n7 fun b hb hlt => x7 b hlt (by have := rp5.1; omega) (by omega)
  simp only [b2, b3, g7, g7b, RW, r6.one, r7.one, R0, R1, R2, R3, R4, R5, R6, R7, R8, R9, VOp.fresh, bxC, bsC, R10, un, most, callsOf, List.contains_nil, List.contains_cons, beq_iff_eq, List.getElem?_cons_zero, List.getElem?_cons_succ, seval, Option.map_none, Int.reducePow, ↓reduceIte, Nat.reduceEqDiff, reduceCtorEq, and_self]
  rw [List.nil_append] at r6' r7
  have hq := q sv ov (h7.put h.next (.cells [.int .i64 (rdM 2 t).1, sv, ov] 26 1))
  rw [er] at hq
  have fin : ∀ {v : AV} {N : Nat} {tl : List AV} {n : Nat}, h.next < N → LR h7 (N ≤ ·) v 1 tl n → LR (h7.put h.next (.cells [.int .i64 (rdM 2 t).1, sv, ov] 26 1)) (h.next ≤ ·) v 1 tl n := fun hN r => ((r.weak (B' := fun b => h.next ≤ b ∧ b ≠ h.next) fun b hb _ => ⟨by omega, by omega⟩).frame (by rw [put_next]; exact Nat.le_refl _) fun b hb _ => by rw [Heap.get_put, if_neg hb.2]).weak fun b hb _ => hb.1
  refine hq (fin (by omega) r6') (fin (by omega) r7) ?_ ?_
  · exact rp7.frame (by rw [put_next]; exact Nat.le_refl _) (by rw [Heap.get_put, if_neg (by omega)])
  · refine ⟨by rw [put_next]; omega, fun b hb hx => ?_⟩
    rw [Heap.get_put, if_neg (by omega), x7 b (by have := xa.1; omega) hx (by omega), x6 b (by have := xa.1; omega) hx (by omega)]
    exact xa.2 b hb hx
theorem rr_tx (g : Pg P tab) {rb : Nat} {S : List Nat} {t : Option (List Nat)} {h : Heap} (rp : RR rb S t h) {Q : AV → Heap → Prop} (q : ∀ h', RR rb S (rdM 2 (rdM 1 t).2).2 h' → ExtX rb h h' → Q (.agg [.int .i64 (rdM 1 t).1, .int .i64 (rdM 2 (rdM 1 t).2).1]) h') : Cl P 64 [.ptr rb 0] h Q := by
  refine g.cl (vf := v64) rfl rfl ?_
  have hrb := rp.1
  have x1 := Ext.mk (h := h) (.cells [.int .i64 0, .int .i64 0] 23 0)
  have n1 : (h.mk' h.next (.cells [.int .i64 0, .int .i64 0] 23 0)).next = h.next + 1 := by rw [mk_next]; omega
  have g1 : (h.mk' h.next (.cells [.int .i64 0, .int .i64 0] 23 0)).get h.next = some (.cells [.int .i64 0, .int .i64 0] 23 0) := by rw [Heap.get_mk, if_pos rfl]
  have rp1 := rp.frame x1.1 (x1.2 rb hrb)
  simp only [v64, R0, R1, R2, R3, R4, R5, R6, R7, R8, R9, VOp.fresh, bxC, bsC, R10, un, most, callsOf, List.contains_nil, List.contains_cons, beq_iff_eq, List.getElem?_cons_zero, List.getElem?_cons_succ, seval, Option.map_none, Int.reducePow, ↓reduceIte, Nat.reduceEqDiff, reduceCtorEq, and_self]
  generalize h.mk' h.next (.cells [.int .i64 0, .int .i64 0] 23 0) = h1 at *
  refine rrnum_cl g (N := 1) (by decide) rp1 fun h2 rp2 x2 => ?_
  simp only [R0, R1, R2, R3, R4, R5, R6, R7, R8, R9, VOp.fresh, bxC, bsC, R10, un, most, callsOf, List.contains_nil, List.contains_cons, beq_iff_eq, List.getElem?_cons_zero, List.getElem?_cons_succ, seval, Option.map_none, Int.reducePow, ↓reduceIte, Nat.reduceEqDiff, reduceCtorEq, and_self]
  refine rrnum_cl g (N := 2) (by decide) rp2 fun h3 rp3 x3 => ?_
  have e2 := x2.next
  have e3 := x3.next
  have g3 : h3.get h.next = some (.cells [.int .i64 0, .int .i64 0] 23 0) := (x3.keep _ (by omega)).trans ((x2.keep _ (by omega)).trans g1)
  simp only [g3, RW, R0, R1, R2, R3, R4, R5, R6, R7, R8, R9, VOp.fresh, bxC, bsC, R10, un, most, callsOf, List.contains_nil, List.contains_cons, beq_iff_eq, List.getElem?_cons_zero, List.getElem?_cons_succ, seval, Option.map_none, Int.reducePow, ↓reduceIte, Nat.reduceEqDiff, reduceCtorEq, and_self]
  refine q _ (rp3.frame (by rw [put_next]; exact Nat.le_refl _) (by rw [Heap.get_put, if_neg (by omega)])) ⟨by rw [put_next]; omega, fun b hb hx => ?_⟩
  rw [Heap.get_put, if_neg (by omega)]
  exact (((x1.x).trans x2.x).trans x3.x).2 b hb hx
def rdBitM (st : Option (List Nat)) : Bool × Option (List Nat) := (decide ((rdM 1 st).1 = 1), if 1 < (rdM 1 st).1 then none else (rdM 1 st).2)
theorem rr_bad {rb : Nat} {S : List Nat} {st : Option (List Nat)} {h : Heap} (r : RR rb S st h) : ∃ (e ver : Nat) (a : Nat) (b : Bool), h.get rb = some (.cells [.str S, .int .i64 (a : Nat), .bool b] e ver) ∧ RR rb S none (h.put rb (.cells [.str S, .int .i64 (a : Nat), .bool true] e (ver + 1))) := by
  obtain ⟨x, b, c, e, ver, a, y, d, z, w⟩ := r
  exact ⟨e, ver, a, y, d, x, b, c, e, ver + 1, a, true, by rw [Heap.get_put, if_pos rfl], z, rfl⟩
theorem rr_bool (g : Pg P tab) {rb : Nat} {S : List Nat} {t : Option (List Nat)} {h : Heap} (rp : RR rb S t h) {Q : AV → Heap → Prop} (q : ∀ h', RR rb S (rdBitM t).2 h' → ExtX rb h h' → Q (.bool (rdBitM t).1) h') : Cl P 66 [.ptr rb 0] h Q := by
  refine g.cl (vf := v66) rfl rfl ?_
  simp only [v66, R0, R1, R2, R3, R4, R5, R6, R7, R8, R9, VOp.fresh, bxC, bsC, R10, un, most, callsOf, List.contains_nil, List.contains_cons, beq_iff_eq, List.getElem?_cons_zero, List.getElem?_cons_succ, seval, Option.map_none, Int.reducePow, ↓reduceIte, Nat.reduceEqDiff, reduceCtorEq, and_self]
  refine rrnum_cl g (N := 1) (by decide) rp fun h2 rp2 x2 => ?_
  unfold rdBitM at q
  by_cases h1 : (1 : Int) < (rdM 1 t).1
  · obtain ⟨e, ver, a, b, gb, rp3⟩ := rr_bad rp2
    simp only [h1, gb, RW, R0, R1, R2, R3, R4, R5, R6, R7, R8, R9, VOp.fresh, bxC, bsC, R10, un, most, callsOf, List.contains_nil, List.contains_cons, beq_iff_eq, List.getElem?_cons_zero, List.getElem?_cons_succ, seval, Option.map_none, Int.reducePow, ↓reduceIte, Nat.reduceEqDiff, reduceCtorEq, and_self]
    rw [if_pos h1] at q
    exact q _ rp3 (x2.x.trans (ExtX.put _))
  · simp only [h1, R0, R1, R2, R3, R4, R5, R6, R7, R8, R9, VOp.fresh, bxC, bsC, R10, un, most, callsOf, List.contains_nil, List.contains_cons, beq_iff_eq, List.getElem?_cons_zero, List.getElem?_cons_succ, seval, Option.map_none, Int.reducePow, ↓reduceIte, Nat.reduceEqDiff, reduceCtorEq, and_self]
    rw [if_neg h1] at q
    exact q _ rp2 x2.x
end
end Go.Proofs.Ytinonmcnofjeeaa.VM
