/- The program's reader: operations. -/
import Derived.Test.YtinonmcnofjeeaaL11Rdm
namespace Go.Proofs.Ytinonmcnofjeeaa.VM
set_option linter.unusedSimpArgs false
set_option linter.unusedVariables false
set_option linter.defProp false
set_option maxHeartbeats 1000000
attribute [local irreducible] Af Nx EvO Ev Un Gd Cd EvR EvQ EvC Nc Gc Lp EvM NxM AfM GdM EvMR EvMQ EvMD EvMC Nm Gm
theorem lv_ints {h : Heap} {B : Nat → Prop} {v : AV} {l : List Int} (r : LR h B v 1 (l.map (AV.int .i64)) l.length) : Lv h B v (cInts l) := r.lv
theorem Lvs.cells8 {h : Heap} {B : Nat → Prop} {o : Op} {rv sv ov : AV} (a : Lv h B rv (cRings o.f.rings)) (b : Lv h B sv (cInts o.m.starts)) (c : Lv h B ov (cInts o.m.owners)) :
    Lvs h B [.int .i64 o.kind, .int .i64 o.f.id, .int .i64 o.f.shape, rv, .int .i64 o.id, .int .i64 o.m.epoch, sv, ov] (cOpL o) :=
  .cons .int (.cons .int (.cons .int (.cons a (.cons .int (.cons .int (.cons b (.cons c .nil)))))))
theorem cOpL_eq (o : Op) : cOpL o = [.int .i64 o.kind, .int .i64 o.f.id, .int .i64 o.f.shape, cRings o.f.rings, .int .i64 o.id, .int .i64 o.m.epoch, cInts o.m.starts, cInts o.m.owners] := rfl
section
variable {P : Program}
theorem rd_opsl (g : Pg P tab) {rb : Nat} {H0 : Heap} (hrb : rb < H0.next) (n : Nat) : ∀ (done : List Op) (t : List Nat) (s : T AV) (h : Heap) (k : List Fr) (Q : Ex → T AV → Heap → Prop), done.length + n ≤ 1000 →
    LR h (H0.next ≤ ·) (sg s 5) 8 ((done.map cOpL).flatten) done.length → RP rb t h → ExtX rb H0 h → sg s 0 = .ptr rb 0 → sg s 11 = .int .i64 (done.length + n : Nat) → sg s 12 = .int .i64 done.length →
    (∀ s' h', LR h' (H0.next ≤ ·) (sg s' 5) 8 (((done ++ (rep rdOp n t).1).map cOpL).flatten) (done.length + n) → RP rb (rep rdOp n t).2 h' → ExtX rb H0 h' → sg s' 4 = sg s 4 → Un P k Q (.exit 0) s' h') → Lp P b60_0 s h (Un P k Q) := by
  induction n with
  | zero =>
    intro done t s h k Q hl r rp ex h0 h11 h12 hQ
    refine g.lpe b60_0.eq_1 ?_
    have c1 : ¬ ((done.length : Int) < (done.length : Int)) := by omega
    rw [Nat.add_zero] at h11
    simp only [h11, h12, c1, R0, R1, R2, R3, R4, R5, R6, R7, R8, R9, VOp.fresh, bxC, bsC, R10, un, most, callsOf, List.contains_nil, List.contains_cons, beq_iff_eq, List.getElem?_cons_zero, List.getElem?_cons_succ, seval, Option.map_none, Int.reducePow, ↓reduceIte, Nat.reduceEqDiff, reduceCtorEq, and_self]
    refine hQ _ _ ?_ rp ex ?_
    · simp only [sg_set, Nat.reduceEqDiff, ↓reduceIte]
      simpa [rep] using r
    · simp only [sg_set, Nat.reduceEqDiff, ↓reduceIte]
  | succ n ih =>
    intro done t s h k Q hl r rp ex h0 h11 h12 hQ
    refine g.lpe b60_0.eq_1 ?_
    have c1 : (done.length : Int) < ((done.length + (n + 1) : Nat) : Int) := by omega
    have w1 : IntKind.i64.wrap ((done.length : Int) + 1) = ((done.length + 1 : Nat) : Int) := by rw [w64 (by omega) (by omega)]; push_cast; rfl
    have hnb : ¬ H0.next ≤ rb := by omega
    have fin : ∀ (s' : T AV) (h' : Heap), LR h' (H0.next ≤ ·) (sg s' 5) 8 (((done ++ [(rdOp t).1]).map cOpL).flatten) (done ++ [(rdOp t).1]).length → RP rb (rdOp t).2 h' → ExtX rb H0 h' → sg s' 0 = .ptr rb 0 → sg s' 11 = .int .i64 (done.length + (n + 1) : Nat) → sg s' 12 = .int .i64 (done.length + 1 : Nat) → sg s' 4 = sg s 4 → Lp P b60_0 s' h' (Un P k Q) := by
      intro s' h' q1 q2 q3 q4 q5 q6 q7
      refine ih (done ++ [(rdOp t).1]) (rdOp t).2 s' h' k Q (by rw [List.length_append, List.length_singleton]; omega) q1 q2 q3 q4 ?_ ?_ ?_
      · rw [q5, List.length_append, List.length_singleton]
        congr 2; omega
      · rw [q6, List.length_append, List.length_singleton]
      · intro s'' h'' p1 p2 p3 p4
        refine hQ s'' h'' ?_ p2 p3 (p4.trans q7)
        simpa only [rep, List.append_assoc, List.cons_append, List.nil_append, List.length_append, List.length_singleton, Nat.add_assoc, Nat.add_comm 1 n] using p1
    -- what is put behind
    have put : ∀ (h4 : Heap) (ob e4 v4 : Nat) (rv sv ov : AV), h4.get ob = some (.cells [.int .i64 (rdOp t).1.kind, .int .i64 (rdOp t).1.f.id, .int .i64 (rdOp t).1.f.shape, rv, .int .i64 (rdOp t).1.id, .int .i64 (rdOp t).1.m.epoch, sv, ov] e4 v4) →
        rv.one = true → sv.one = true → ov.one = true → Lv h4 (h.next ≤ ·) rv (cRings (rdOp t).1.f.rings) → Lv h4 (h.next ≤ ·) sv (cInts (rdOp t).1.m.starts) → Lv h4 (h.next ≤ ·) ov (cInts (rdOp t).1.m.owners) → RP rb (rdOp t).2 h4 → ExtX rb h h4 →
        ∃ h5, appendV (h4.mk' h4.next (.cells [.int .i64 (rdOp t).1.kind, .int .i64 (rdOp t).1.f.id, .int .i64 (rdOp t).1.f.shape, rv, .int .i64 (rdOp t).1.id, .int .i64 (rdOp t).1.m.epoch, sv, ov] 54 0)) 8 112 54 (sg s 5) (.sl h4.next 0 1 1 8) = some (.sl (h4.next + 1) 0 (done.length + 1) (done.length + 1) 8, h5) ∧
          LR h5 (H0.next ≤ ·) (.sl (h4.next + 1) 0 (done.length + 1) (done.length + 1) 8) 8 (((done ++ [(rdOp t).1]).map cOpL).flatten) (done ++ [(rdOp t).1]).length ∧ RP rb (rdOp t).2 h5 ∧ ExtX rb H0 h5 := by
      intro h4 ob e4 v4 rv sv ov g4 o1 o2 o3 l1 l2 l3 rp4 x4
      have hle := ex.1
      have em := Ext.mk (h := h4) (.cells [.int .i64 (rdOp t).1.kind, .int .i64 (rdOp t).1.f.id, .int .i64 (rdOp t).1.f.shape, rv, .int .i64 (rdOp t).1.id, .int .i64 (rdOp t).1.m.epoch, sv, ov] 54 0)
      have hn4 : (h4.mk' h4.next (.cells [.int .i64 (rdOp t).1.kind, .int .i64 (rdOp t).1.f.id, .int .i64 (rdOp t).1.f.shape, rv, .int .i64 (rdOp t).1.id, .int .i64 (rdOp t).1.m.epoch, sv, ov] 54 0)).next = h4.next + 1 := by rw [mk_next]; omega
      have hlt := r.lt
      have r4 : LR h4 (H0.next ≤ ·) (sg s 5) 8 ((done.map cOpL).flatten) done.length := r.frame x4.1 fun b hb hlt => x4.2 b hlt fun e => hnb (e ▸ hb)
      have l4 : Lvs (h4.mk' h4.next (.cells [.int .i64 (rdOp t).1.kind, .int .i64 (rdOp t).1.f.id, .int .i64 (rdOp t).1.f.shape, rv, .int .i64 (rdOp t).1.id, .int .i64 (rdOp t).1.m.epoch, sv, ov] 54 0)) (fun b => H0.next ≤ b ∧ b ∉ blkOf (sg s 5)) [.int .i64 (rdOp t).1.kind, .int .i64 (rdOp t).1.f.id, .int .i64 (rdOp t).1.f.shape, rv, .int .i64 (rdOp t).1.id, .int .i64 (rdOp t).1.m.epoch, sv, ov] (cOpL (rdOp t).1) :=
        ((Lvs.cells8 l1 l2 l3).frame em.1 fun b _ hb => em.2 b hb).weak fun b hb _ => ⟨by omega, fun hc => by have := hlt b hc; omega⟩
      obtain ⟨h5, e5, r5, n5, k5⟩ := (r4.frame em.1 fun b _ hb => em.2 b hb).push (nb := h4.next) (eb := 54) (vb := 0) (by rw [Heap.get_mk, if_pos rfl]) rfl (by simp only [List.all_cons, List.all_nil, one_int, o1, o2, o3, Bool.and_self]) l4 (by rw [hn4]; have := x4.1; omega) (bytes := 112) (by unfold most2; omega) 54
      rw [hn4] at e5 r5 n5 k5
      have hv := r4.inB
      have kk : ∀ b, b < h4.next → b ∉ blkOf (sg s 5) → h5.get b = h4.get b := fun b hb hn => (k5 b hn (by omega)).trans (em.2 b hb)
      refine ⟨h5, e5, ?_, rp4.frame (by omega) (kk rb rp4.1 fun hc => by have := hv rb hc; omega), ⟨by have := x4.1; omega, fun b hb hx => ?_⟩⟩
      · simpa only [List.map_append, List.flatten_append, List.map_cons, List.map_nil, List.flatten_cons, List.flatten_nil, List.append_nil, List.length_append, List.length_singleton] using r5
      · rw [kk b (by have := x4.1; omega) (fun hc => by have := hv b hc; omega), x4.2 b (by omega) hx, ex.2 b hb hx]
    simp only [h0, h11, h12, c1, R0, R1, R2, R3, R4, R5, R6, R7, R8, R9, VOp.fresh, bxC, bsC, R10, un, most, callsOf, List.contains_nil, List.contains_cons, beq_iff_eq, List.getElem?_cons_zero, List.getElem?_cons_succ, seval, Option.map_none, Int.reducePow, ↓reduceIte, Nat.reduceEqDiff, reduceCtorEq, and_self]
    refine rnum_cl g (N := 1) (by decide) rp fun h2 rp2 x2 => ?_
    have e2 := x2.next
    have x3 : Ext h2 ((h2.mk' h2.next (.cells [.int .i64 0, .int .i64 0, .int .i64 0, .nils, .int .i64 0, .int .i64 0, .nils, .nils] 54 0)).put h2.next (.cells [.int .i64 (rdN 1 t).1, .int .i64 0, .int .i64 0, .nils, .int .i64 0, .int .i64 0, .nils, .nils] 54 1)) := ⟨by rw [put_next, mk_next]; omega, fun b hb => by rw [Heap.get_put, if_neg (by omega), Heap.get_mk, if_neg (by omega)]⟩
    have g3 : ((h2.mk' h2.next (.cells [.int .i64 0, .int .i64 0, .int .i64 0, .nils, .int .i64 0, .int .i64 0, .nils, .nils] 54 0)).put h2.next (.cells [.int .i64 (rdN 1 t).1, .int .i64 0, .int .i64 0, .nils, .int .i64 0, .int .i64 0, .nils, .nils] 54 1)).get h2.next = some (.cells [.int .i64 (rdN 1 t).1, .int .i64 0, .int .i64 0, .nils, .int .i64 0, .int .i64 0, .nils, .nils] 54 1) := by rw [Heap.get_put, if_pos rfl]
    have n3 : ((h2.mk' h2.next (.cells [.int .i64 0, .int .i64 0, .int .i64 0, .nils, .int .i64 0, .int .i64 0, .nils, .nils] 54 0)).put h2.next (.cells [.int .i64 (rdN 1 t).1, .int .i64 0, .int .i64 0, .nils, .int .i64 0, .int .i64 0, .nils, .nils] 54 1)).next = h2.next + 1 := by rw [put_next, mk_next]; omega
    have rp3 := rp2.frame x3.1 (x3.2 rb rp2.1)
    simp only [RW, R0, R1, R2, R3, R4, R5, R6, R7, R8, R9, VOp.fresh, bxC, bsC, R10, un, most, callsOf, List.contains_nil, List.contains_cons, beq_iff_eq, List.getElem?_cons_zero, List.getElem?_cons_succ, seval, Option.map_none, Int.reducePow, ↓reduceIte, Nat.reduceEqDiff, reduceCtorEq, and_self]
    generalize (h2.mk' h2.next (.cells [.int .i64 0, .int .i64 0, .int .i64 0, .nils, .int .i64 0, .int .i64 0, .nils, .nils] 54 0)).put h2.next (.cells [.int .i64 (rdN 1 t).1, .int .i64 0, .int .i64 0, .nils, .int .i64 0, .int .i64 0, .nils, .nils] 54 1) = h3 at *

    by_cases k0 : (rdN 1 t).1 = 0
    · have eo : rdOp t = (⟨0, (rdFeat (rdN 1 t).2).1, 0, ⟨0, [], []⟩⟩, (rdFeat (rdN 1 t).2).2) := by rw [rdOp]; simp only [k0, if_true, if_false, Int.one_ne_zero, Int.reduceEq]
      rw [k0] at g3
      simp only [k0, h0, R0, R1, R2, R3, R4, R5, R6, R7, R8, R9, VOp.fresh, bxC, bsC, R10, un, most, callsOf, List.contains_nil, List.contains_cons, beq_iff_eq, List.getElem?_cons_zero, List.getElem?_cons_succ, seval, Option.map_none, Int.reducePow, ↓reduceIte, Nat.reduceEqDiff, reduceCtorEq, and_self]
      refine rd_feat g rp3 fun rv h4 r4 rp4 x4 => ?_
      have g4 := (x4.2 h2.next (by omega) (by have := rp2.1; omega)).trans g3
      obtain ⟨h5, e5, r5, rp5, ex5⟩ := put (h4.put h2.next (.cells [.int .i64 0, .int .i64 (rdFeat (rdN 1 t).2).1.id, .int .i64 (rdFeat (rdN 1 t).2).1.shape, rv, .int .i64 0, .int .i64 0, .nils, .nils] 54 2)) h2.next 54 2 rv .nils .nils
        (by rw [Heap.get_put, if_pos rfl, eo]) r4.one rfl rfl (by rw [eo]; exact (r4.lv.weak (B' := fun b => h.next ≤ b ∧ b ≠ h2.next) fun b hb _ => ⟨by omega, by omega⟩).frame (by rw [put_next]; exact Nat.le_refl _) (fun b hb _ => by rw [Heap.get_put, if_neg hb.2]) |>.weak fun b hb _ => hb.1) (by rw [eo]; exact .nils) (by rw [eo]; exact .nils)
        (by rw [eo]; exact rp4.frame (by rw [put_next]; exact Nat.le_refl _) (by rw [Heap.get_put, if_neg (by have := rp2.1; omega)])) (((x2.x.trans x3.x).trans x4).put' (by omega) _)
      rw [eo] at e5
      simp only [put_next] at e5 r5
      simp only [h0, h12, g4, k0, e5, w1, RW, r4.one, r4.cells, R0, R1, R2, R3, R4, R5, R6, R7, R8, R9, VOp.fresh, bxC, bsC, R10, un, most, callsOf, List.contains_nil, List.contains_cons, beq_iff_eq, List.getElem?_cons_zero, List.getElem?_cons_succ, seval, Option.map_none, Int.reducePow, ↓reduceIte, Nat.reduceEqDiff, reduceCtorEq, and_self]
      refine fin _ _ ?_ rp5 ex5 ?_ ?_ ?_ ?_
      · simp only [sg_set, Nat.reduceEqDiff, ↓reduceIte]
        exact r5
      · simp only [h0, sg_set, Nat.reduceEqDiff, ↓reduceIte]
      · simp only [h11, sg_set, Nat.reduceEqDiff, ↓reduceIte]
      · simp only [sg_set, Nat.reduceEqDiff, ↓reduceIte]
      · simp only [sg_set, Nat.reduceEqDiff, ↓reduceIte]
    · by_cases k1 : (rdN 1 t).1 = 1
      · have eo : rdOp t = (⟨1, ⟨0, 0, []⟩, (rdN 2 (rdN 1 t).2).1, ⟨0, [], []⟩⟩, (rdN 2 (rdN 1 t).2).2) := by rw [rdOp]; simp only [k1, if_true, if_false, Int.one_ne_zero, Int.reduceEq]
        rw [k1] at g3
        simp only [k1, h0, R0, R1, R2, R3, R4, R5, R6, R7, R8, R9, VOp.fresh, bxC, bsC, R10, un, most, callsOf, List.contains_nil, List.contains_cons, beq_iff_eq, List.getElem?_cons_zero, List.getElem?_cons_succ, seval, Option.map_none, Int.reducePow, ↓reduceIte, Nat.reduceEqDiff, reduceCtorEq, and_self]
        refine rnum_cl g (N := 2) (by decide) rp3 fun h4 rp4 x4' => ?_
        have x4 := x4'.x
        have g4 := (x4.2 h2.next (by omega) (by have := rp2.1; omega)).trans g3
        obtain ⟨h5, e5, r5, rp5, ex5⟩ := put (h4.put h2.next (.cells [.int .i64 1, .int .i64 0, .int .i64 0, .nils, .int .i64 (rdN 2 (rdN 1 t).2).1, .int .i64 0, .nils, .nils] 54 2)) h2.next 54 2 .nils .nils .nils
          (by rw [Heap.get_put, if_pos rfl, eo]) rfl rfl rfl (by rw [eo]; exact .nils) (by rw [eo]; exact .nils) (by rw [eo]; exact .nils)
          (by rw [eo]; exact rp4.frame (by rw [put_next]; exact Nat.le_refl _) (by rw [Heap.get_put, if_neg (by have := rp2.1; omega)])) (((x2.x.trans x3.x).trans x4).put' (by omega) _)
        rw [eo] at e5
        simp only [put_next] at e5 r5
        simp only [h0, h12, g4, k1, e5, w1, RW, R0, R1, R2, R3, R4, R5, R6, R7, R8, R9, VOp.fresh, bxC, bsC, R10, un, most, callsOf, List.contains_nil, List.contains_cons, beq_iff_eq, List.getElem?_cons_zero, List.getElem?_cons_succ, seval, Option.map_none, Int.reducePow, ↓reduceIte, Nat.reduceEqDiff, reduceCtorEq, and_self]
        refine fin _ _ ?_ rp5 ex5 ?_ ?_ ?_ ?_
        · simp only [sg_set, Nat.reduceEqDiff, ↓reduceIte]
          exact r5
        · simp only [h0, sg_set, Nat.reduceEqDiff, ↓reduceIte]
        · simp only [h11, sg_set, Nat.reduceEqDiff, ↓reduceIte]
        · simp only [sg_set, Nat.reduceEqDiff, ↓reduceIte]
        · simp only [sg_set, Nat.reduceEqDiff, ↓reduceIte]
      · by_cases k2 : (rdN 1 t).1 = 2
        · have eo : rdOp t = (⟨2, ⟨0, 0, []⟩, 0, (rdMp (rdN 1 t).2).1⟩, (rdMp (rdN 1 t).2).2) := by rw [rdOp]; simp only [k2, if_true, if_false, Int.one_ne_zero, Int.reduceEq]
          rw [k2] at g3
          simp only [k2, h0, R0, R1, R2, R3, R4, R5, R6, R7, R8, R9, VOp.fresh, bxC, bsC, R10, un, most, callsOf, List.contains_nil, List.contains_cons, beq_iff_eq, List.getElem?_cons_zero, List.getElem?_cons_succ, seval, Option.map_none, Int.reducePow, ↓reduceIte, Nat.reduceEqDiff, reduceCtorEq, and_self]
          refine rd_map g rp3 fun sv ov h4 r4 q4 rp4 x4 => ?_
          have g4 := (x4.2 h2.next (by omega) (by have := rp2.1; omega)).trans g3
          obtain ⟨h5, e5, r5, rp5, ex5⟩ := put (h4.put h2.next (.cells [.int .i64 2, .int .i64 0, .int .i64 0, .nils, .int .i64 0, .int .i64 (rdMp (rdN 1 t).2).1.epoch, sv, ov] 54 2)) h2.next 54 2 .nils sv ov
            (by rw [Heap.get_put, if_pos rfl, eo]) rfl r4.one q4.one (by rw [eo]; exact .nils) (by rw [eo]; exact ((lv_ints r4).weak (B' := fun b => h.next ≤ b ∧ b ≠ h2.next) fun b hb _ => ⟨by omega, by omega⟩).frame (by rw [put_next]; exact Nat.le_refl _) (fun b hb _ => by rw [Heap.get_put, if_neg hb.2]) |>.weak fun b hb _ => hb.1) (by rw [eo]; exact ((lv_ints q4).weak (B' := fun b => h.next ≤ b ∧ b ≠ h2.next) fun b hb _ => ⟨by omega, by omega⟩).frame (by rw [put_next]; exact Nat.le_refl _) (fun b hb _ => by rw [Heap.get_put, if_neg hb.2]) |>.weak fun b hb _ => hb.1)
            (by rw [eo]; exact rp4.frame (by rw [put_next]; exact Nat.le_refl _) (by rw [Heap.get_put, if_neg (by have := rp2.1; omega)])) (((x2.x.trans x3.x).trans x4).put' (by omega) _)
          rw [eo] at e5
          simp only [put_next] at e5 r5
          simp only [h0, h12, g4, k2, e5, w1, RW, r4.one, r4.cells, q4.one, q4.cells, R0, R1, R2, R3, R4, R5, R6, R7, R8, R9, VOp.fresh, bxC, bsC, R10, un, most, callsOf, List.contains_nil, List.contains_cons, beq_iff_eq, List.getElem?_cons_zero, List.getElem?_cons_succ, seval, Option.map_none, Int.reducePow, ↓reduceIte, Nat.reduceEqDiff, reduceCtorEq, and_self]
          refine fin _ _ ?_ rp5 ex5 ?_ ?_ ?_ ?_
          · simp only [sg_set, Nat.reduceEqDiff, ↓reduceIte]
            exact r5
          · simp only [h0, sg_set, Nat.reduceEqDiff, ↓reduceIte]
          · simp only [h11, sg_set, Nat.reduceEqDiff, ↓reduceIte]
          · simp only [sg_set, Nat.reduceEqDiff, ↓reduceIte]
          · simp only [sg_set, Nat.reduceEqDiff, ↓reduceIte]
        · have eo : rdOp t = (⟨(rdN 1 t).1, ⟨0, 0, []⟩, 0, ⟨0, [], []⟩⟩, (rdN 1 t).2) := by rw [rdOp]; simp only [k0, k1, k2, if_false]
          have g4 := g3
          obtain ⟨h5, e5, r5, rp5, ex5⟩ := put h3 h2.next 54 1 .nils .nils .nils (by rw [g3, eo]) rfl rfl rfl (by rw [eo]; exact .nils) (by rw [eo]; exact .nils) (by rw [eo]; exact .nils) (by rw [eo]; exact rp3) (x2.x.trans x3.x)
          rw [eo, n3] at e5
          rw [n3] at r5
          simp only [h0, h12, g4, k0, k1, k2, e5, w1, RW, R0, R1, R2, R3, R4, R5, R6, R7, R8, R9, VOp.fresh, bxC, bsC, R10, un, most, callsOf, List.contains_nil, List.contains_cons, beq_iff_eq, List.getElem?_cons_zero, List.getElem?_cons_succ, seval, Option.map_none, Int.reducePow, ↓reduceIte, Nat.reduceEqDiff, reduceCtorEq, and_self]
          refine fin _ _ ?_ rp5 ex5 ?_ ?_ ?_ ?_
          · simp only [sg_set, Nat.reduceEqDiff, ↓reduceIte]
            exact r5
          · simp only [h0, sg_set, Nat.reduceEqDiff, ↓reduceIte]
          · simp only [h11, sg_set, Nat.reduceEqDiff, ↓reduceIte]
          · simp only [sg_set, Nat.reduceEqDiff, ↓reduceIte]
          · simp only [sg_set, Nat.reduceEqDiff, ↓reduceIte]
end
end Go.Proofs.Ytinonmcnofjeeaa.VM
