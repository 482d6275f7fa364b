/- The document's reader: operations. -/
import Derived.Test.YtinonmcnofjeeaaL11Rt
namespace Go.Proofs.Ytinonmcnofjeeaa.VM
set_option linter.unusedSimpArgs false
set_option linter.unusedVariables false
set_option linter.defProp false
set_option maxHeartbeats 1000000
attribute [local irreducible] Af Nx EvO Ev Un Gd Cd EvR EvQ EvC Nc Gc Lp EvM NxM AfM GdM EvMR EvMQ EvMD EvMC Nm Gm
def rdOpM (st : Option (List Nat)) : Op × Option (List Nat) :=
  let k := rdM 1 st
  if k.1 = 0 then (⟨k.1, (rdFeatM k.2).1, 0, ⟨0, [], []⟩⟩, (rdFeatM k.2).2)
  else if k.1 = 1 then (⟨k.1, ⟨0, 0, []⟩, (rdM 2 k.2).1, ⟨0, [], []⟩⟩, (rdM 2 k.2).2)
  else if k.1 = 2 then (⟨k.1, ⟨0, 0, []⟩, 0, (rdMpM k.2).1⟩, (rdMpM k.2).2)
  else (⟨k.1, ⟨0, 0, []⟩, 0, ⟨0, [], []⟩⟩, none)
def rdOpsM (st : Option (List Nat)) : List Op × Option (List Nat) := rpO rdOpM (rdM 1 st).1.toNat (rdM 1 st).2
theorem rdOpM_by {s : Option (List Nat)} (h : ByO s) : ByO (rdOpM s).2 := by
  unfold rdOpM
  simp only
  split
  · exact rdFeatM_by (rdM_by h)
  · split
    · exact rdM_by (rdM_by h)
    · split
      · exact rdMpM_by (rdM_by h)
      · exact fun s e => by cases e
theorem rdOpM_sm {s : Option (List Nat)} (h : ByO s) : opSm (rdOpM s).1 := by
  unfold rdOpM
  simp only
  split
  · exact ⟨i64_rdM (by decide) h, rdFeatM_sm (rdM_by h), i64z, mpSm0⟩
  · split
    · exact ⟨i64_rdM (by decide) h, featSm0, i64_rdM (by decide) (rdM_by h), mpSm0⟩
    · split
      · exact ⟨i64_rdM (by decide) h, featSm0, i64z, rdMpM_sm (rdM_by h)⟩
      · exact ⟨i64_rdM (by decide) h, featSm0, i64z, mpSm0⟩
theorem rdOpsM_sm {s : Option (List Nat)} (h : ByO s) : opsSm (rdOpsM s).1 := by
  have := rdM1_le h
  refine ⟨?_, rpO_all (fun _ h => rdOpM_by h) (fun s h => rdOpM_sm h) _ _ (rdM_by h)⟩
  have := rpO_len rdOpM (rdM 1 s).1.toNat (rdM 1 s).2
  show (rpO rdOpM _ _).1.length ≤ _
  omega
theorem rdOpM_put {o : Op} {nodes : Int} (h : opOk nodes o) (t : List Nat) : rdOpM (some (opB o ++ t)) = (o, some t) := by
  have z1 : ∀ {f : Feat}, ftZero f → f = ⟨0, 0, []⟩ := fun {f} ⟨a, b, c⟩ => by cases f; simp only at a b c; rw [a, b, c]
  have z2 : ∀ {f : Mp}, mpZero f → f = ⟨0, [], []⟩ := fun {f} ⟨a, b, c⟩ => by cases f; simp only at a b c; rw [a, b, c]
  obtain ⟨kind, f, id, m⟩ := o
  rcases h with ⟨hk, h1, h2, h3⟩ | ⟨hk, h1, h2, h3, h4⟩ | ⟨hk, h1, h2, h3⟩
  · simp only at hk h1 h2 h3
    subst hk h2
    rw [rdOpM, opB, List.append_assoc, rdM_put (by simp only; omega) (by simp only; omega)]
    simp only [if_true]
    rw [rdFeatM_put h1, z2 h3]
  · simp only at hk h1 h2 h3 h4
    subst hk
    rw [rdOpM, opB, List.append_assoc, rdM_put (by simp only; omega) (by simp only; omega)]
    simp only [if_true, if_false, Int.one_ne_zero]
    rw [rdM_put (by omega) (by omega), z1 h3, z2 h4]
  · simp only at hk h1 h2 h3
    subst hk h2
    have e2 : ¬ (2 : Int) = 0 := by decide
    have e3 : ¬ (2 : Int) = 1 := by decide
    rw [rdOpM, opB, List.append_assoc, rdM_put (by simp only; omega) (by simp only; omega)]
    simp only [if_true, if_neg e2, if_neg e3]
    rw [rdMpM_put h1, z1 h3]
theorem rdOpsM_put {l : List Op} {nodes : Int} (h : opsOk nodes l) (t : List Nat) : rdOpsM (some (opsB l ++ t)) = (l, some t) := by
  obtain ⟨h1, h2, h3⟩ := h
  rw [rdOpsM, opsB, List.append_assoc, rdM_put (by omega) (by omega)]
  simp only [Int.toNat_natCast]
  refine rpO_put l t fun o ho t => ?_
  obtain ⟨i, hi, rfl⟩ := List.mem_iff_getElem.1 ho
  have := (h3 i hi).1
  rw [getD_op hi] at this
  exact rdOpM_put this t
section
variable {P : Program}
theorem rr_opsl (g : Pg P tab) {rb : Nat} {S : List Nat} {H0 : Heap} (hrb : rb < H0.next) (n : Nat) : ∀ (done : List Op) (t : Option (List Nat)) (s : T AV) (h : Heap) (k : List Fr) (Q : Ex → T AV → Heap → Prop), done.length + n ≤ 1000 →
    LR h (H0.next ≤ ·) (sg s 4) 8 ((done.map cOpL).flatten) done.length → RR rb S t h → ExtX rb H0 h → sg s 0 = .ptr rb 0 → sg s 3 = .int .i64 (done.length + n : Nat) → sg s 5 = .int .i64 done.length →
    (∀ s' h', LR h' (H0.next ≤ ·) (sg s' 4) 8 (((done ++ (rpO rdOpM n t).1).map cOpL).flatten) (done ++ (rpO rdOpM n t).1).length → RR rb S (rpO rdOpM n t).2 h' → ExtX rb H0 h' → Un P k Q (.exit 0) s' h') → Lp P b65_0 s h (Un P k Q) := by
  induction n with
  | zero =>
    intro done t s h k Q hl r rp ex h0 h3x h5x hQ
    refine g.lpe b65_0.eq_1 ?_
    have c1 : ¬ ((done.length : Int) < (done.length : Int)) := by omega
    rw [Nat.add_zero] at h3x
    simp only [h3x, h5x, c1, R0, R1, R2, R3, R4, R5, R6, R7, R8, R9, VOp.fresh, bxC, bsC, R10, un, most, callsOf, List.contains_nil, List.contains_cons, beq_iff_eq, List.getElem?_cons_zero, List.getElem?_cons_succ, seval, Option.map_none, Int.reducePow, ↓reduceIte, Nat.reduceEqDiff, reduceCtorEq, and_self]
    refine hQ _ _ ?_ rp ex
    · simp only [sg_set, Nat.reduceEqDiff, ↓reduceIte]
      simpa [rpO] using r
  | succ n ih =>
    intro done t s h k Q hl r rp ex h0 h3x h5x hQ
    refine g.lpe b65_0.eq_1 ?_
    have c1 : (done.length : Int) < ((done.length + (n + 1) : Nat) : Int) := by omega
    have w1 : IntKind.i64.wrap ((done.length : Int) + 1) = ((done.length + 1 : Nat) : Int) := by rw [w64 (by omega) (by omega)]; push_cast; rfl
    have hnb : ¬ H0.next ≤ rb := by omega
    by_cases hn : t = none
    · subst hn
      obtain ⟨e, ver, x, gb⟩ := rp.none
      simp only [h0, h3x, h5x, c1, gb, R0, R1, R2, R3, R4, R5, R6, R7, R8, R9, VOp.fresh, bxC, bsC, R10, un, most, callsOf, List.contains_nil, List.contains_cons, beq_iff_eq, List.getElem?_cons_zero, List.getElem?_cons_succ, seval, Option.map_none, Int.reducePow, ↓reduceIte, Nat.reduceEqDiff, reduceCtorEq, and_self]
      refine hQ _ _ ?_ rp ex
      · simp only [sg_set, Nat.reduceEqDiff, ↓reduceIte]
        simpa [rpO] using r
    obtain ⟨tt, ht⟩ : ∃ tt, some tt = t := by
      cases t with
      | none => exact absurd rfl hn
      | some tt => exact ⟨tt, rfl⟩
    have hrp : rpO rdOpM (n + 1) t = ((rdOpM t).1 :: (rpO rdOpM n (rdOpM t).2).1, (rpO rdOpM n (rdOpM t).2).2) := by rw [← ht]; rfl
    rw [hrp] at hQ
    obtain ⟨eb, verb, xb, gb⟩ := RR.some (by rw [ht]; exact rp : RR rb S (some tt) h)
    have fin : ∀ (s' : T AV) (h' : Heap), LR h' (H0.next ≤ ·) (sg s' 4) 8 (((done ++ [(rdOpM t).1]).map cOpL).flatten) (done ++ [(rdOpM t).1]).length → RR rb S (rdOpM t).2 h' → ExtX rb H0 h' → sg s' 0 = .ptr rb 0 → sg s' 3 = .int .i64 (done.length + (n + 1) : Nat) → sg s' 5 = .int .i64 (done.length + 1 : Nat) → Lp P b65_0 s' h' (Un P k Q) := by
      intro s' h' q1 q2 q3 q4 q5 q6
      refine ih (done ++ [(rdOpM t).1]) (rdOpM t).2 s' h' k Q (by rw [List.length_append, List.length_singleton]; omega) q1 q2 q3 q4 ?_ ?_ ?_
      · rw [q5, List.length_append, List.length_singleton]
        congr 2; omega
      · rw [q6, List.length_append, List.length_singleton]
      · intro s'' h'' p1 p2 p3
        refine hQ s'' h'' ?_ p2 p3
        simpa only [List.append_assoc, List.cons_append, List.nil_append] using p1
    -- what is put behind
    have put : ∀ (h4 : Heap) (ob e4 v4 : Nat) (rv sv ov : AV), h4.get ob = some (.cells [.int .i64 (rdOpM t).1.kind, .int .i64 (rdOpM t).1.f.id, .int .i64 (rdOpM t).1.f.shape, rv, .int .i64 (rdOpM t).1.id, .int .i64 (rdOpM t).1.m.epoch, sv, ov] e4 v4) →
        rv.one = true → sv.one = true → ov.one = true → Lv h4 (h.next ≤ ·) rv (cRings (rdOpM t).1.f.rings) → Lv h4 (h.next ≤ ·) sv (cInts (rdOpM t).1.m.starts) → Lv h4 (h.next ≤ ·) ov (cInts (rdOpM t).1.m.owners) → RR rb S (rdOpM t).2 h4 → ExtX rb h h4 →
        ∃ h5, appendV (h4.mk' h4.next (.cells [.int .i64 (rdOpM t).1.kind, .int .i64 (rdOpM t).1.f.id, .int .i64 (rdOpM t).1.f.shape, rv, .int .i64 (rdOpM t).1.id, .int .i64 (rdOpM t).1.m.epoch, sv, ov] 54 0)) 8 112 54 (sg s 4) (.sl h4.next 0 1 1 8) = some (.sl (h4.next + 1) 0 (done.length + 1) (done.length + 1) 8, h5) ∧
          LR h5 (H0.next ≤ ·) (.sl (h4.next + 1) 0 (done.length + 1) (done.length + 1) 8) 8 (((done ++ [(rdOpM t).1]).map cOpL).flatten) (done ++ [(rdOpM t).1]).length ∧ RR rb S (rdOpM t).2 h5 ∧ ExtX rb H0 h5 := by
      intro h4 ob e4 v4 rv sv ov g4 o1 o2 o3 l1 l2 l3 rp4 x4
      have hle := ex.1
      have em := Ext.mk (h := h4) (.cells [.int .i64 (rdOpM t).1.kind, .int .i64 (rdOpM t).1.f.id, .int .i64 (rdOpM t).1.f.shape, rv, .int .i64 (rdOpM t).1.id, .int .i64 (rdOpM t).1.m.epoch, sv, ov] 54 0)
      have hn4 : (h4.mk' h4.next (.cells [.int .i64 (rdOpM t).1.kind, .int .i64 (rdOpM t).1.f.id, .int .i64 (rdOpM t).1.f.shape, rv, .int .i64 (rdOpM t).1.id, .int .i64 (rdOpM t).1.m.epoch, sv, ov] 54 0)).next = h4.next + 1 := by rw [mk_next]; omega
      have hlt := r.lt
      have r4 : LR h4 (H0.next ≤ ·) (sg s 4) 8 ((done.map cOpL).flatten) done.length := r.frame x4.1 fun b hb hlt => x4.2 b hlt fun e => hnb (e ▸ hb)
      have l4 : Lvs (h4.mk' h4.next (.cells [.int .i64 (rdOpM t).1.kind, .int .i64 (rdOpM t).1.f.id, .int .i64 (rdOpM t).1.f.shape, rv, .int .i64 (rdOpM t).1.id, .int .i64 (rdOpM t).1.m.epoch, sv, ov] 54 0)) (fun b => H0.next ≤ b ∧ b ∉ blkOf (sg s 4)) [.int .i64 (rdOpM t).1.kind, .int .i64 (rdOpM t).1.f.id, .int .i64 (rdOpM t).1.f.shape, rv, .int .i64 (rdOpM t).1.id, .int .i64 (rdOpM t).1.m.epoch, sv, ov] (cOpL (rdOpM t).1) :=
        ((Lvs.cells8 l1 l2 l3).frame em.1 fun b _ hb => em.2 b hb).weak fun b hb _ => ⟨by omega, fun hc => by have := hlt b hc; omega⟩
      obtain ⟨h5, e5, r5, n5, k5⟩ := (r4.frame em.1 fun b _ hb => em.2 b hb).push (nb := h4.next) (eb := 54) (vb := 0) (by rw [Heap.get_mk, if_pos rfl]) rfl (by simp only [List.all_cons, List.all_nil, one_int, o1, o2, o3, Bool.and_self]) l4 (by rw [hn4]; have := x4.1; omega) (bytes := 112) (by unfold most2; omega) 54
      rw [hn4] at e5 r5 n5 k5
      have hv := r4.inB
      have kk : ∀ b, b < h4.next → b ∉ blkOf (sg s 4) → h5.get b = h4.get b := fun b hb hn => (k5 b hn (by omega)).trans (em.2 b hb)
      refine ⟨h5, e5, ?_, rp4.frame (by omega) (kk rb rp4.1 fun hc => by have := hv rb hc; omega), ⟨by have := x4.1; omega, fun b hb hx => ?_⟩⟩
      · simpa only [List.map_append, List.flatten_append, List.map_cons, List.map_nil, List.flatten_cons, List.flatten_nil, List.append_nil, List.length_append, List.length_singleton] using r5
      · rw [kk b (by have := x4.1; omega) (fun hc => by have := hv b hc; omega), x4.2 b (by omega) hx, ex.2 b hb hx]
    simp only [h0, h3x, h5x, c1, gb, R0, R1, R2, R3, R4, R5, R6, R7, R8, R9, VOp.fresh, bxC, bsC, R10, un, most, callsOf, List.contains_nil, List.contains_cons, beq_iff_eq, List.getElem?_cons_zero, List.getElem?_cons_succ, seval, Option.map_none, Int.reducePow, ↓reduceIte, Nat.reduceEqDiff, reduceCtorEq, and_self]
    refine rrnum_cl g (N := 1) (by decide) rp fun h2 rp2 x2 => ?_
    have e2 := x2.next
    have x3 : Ext h2 ((h2.mk' h2.next (.cells [.int .i64 0, .int .i64 0, .int .i64 0, .nils, .int .i64 0, .int .i64 0, .nils, .nils] 54 0)).put h2.next (.cells [.int .i64 (rdM 1 t).1, .int .i64 0, .int .i64 0, .nils, .int .i64 0, .int .i64 0, .nils, .nils] 54 1)) := ⟨by rw [put_next, mk_next]; omega, fun b hb => by rw [Heap.get_put, if_neg (by omega), Heap.get_mk, if_neg (by omega)]⟩
    have g3 : ((h2.mk' h2.next (.cells [.int .i64 0, .int .i64 0, .int .i64 0, .nils, .int .i64 0, .int .i64 0, .nils, .nils] 54 0)).put h2.next (.cells [.int .i64 (rdM 1 t).1, .int .i64 0, .int .i64 0, .nils, .int .i64 0, .int .i64 0, .nils, .nils] 54 1)).get h2.next = some (.cells [.int .i64 (rdM 1 t).1, .int .i64 0, .int .i64 0, .nils, .int .i64 0, .int .i64 0, .nils, .nils] 54 1) := by rw [Heap.get_put, if_pos rfl]
    have n3 : ((h2.mk' h2.next (.cells [.int .i64 0, .int .i64 0, .int .i64 0, .nils, .int .i64 0, .int .i64 0, .nils, .nils] 54 0)).put h2.next (.cells [.int .i64 (rdM 1 t).1, .int .i64 0, .int .i64 0, .nils, .int .i64 0, .int .i64 0, .nils, .nils] 54 1)).next = h2.next + 1 := by rw [put_next, mk_next]; omega
    have rp3 := rp2.frame x3.1 (x3.2 rb rp2.1)
    simp only [RW, R0, R1, R2, R3, R4, R5, R6, R7, R8, R9, VOp.fresh, bxC, bsC, R10, un, most, callsOf, List.contains_nil, List.contains_cons, beq_iff_eq, List.getElem?_cons_zero, List.getElem?_cons_succ, seval, Option.map_none, Int.reducePow, ↓reduceIte, Nat.reduceEqDiff, reduceCtorEq, and_self]
    generalize (h2.mk' h2.next (.cells [.int .i64 0, .int .i64 0, .int .i64 0, .nils, .int .i64 0, .int .i64 0, .nils, .nils] 54 0)).put h2.next (.cells [.int .i64 (rdM 1 t).1, .int .i64 0, .int .i64 0, .nils, .int .i64 0, .int .i64 0, .nils, .nils] 54 1) = h3 at *

    by_cases k0 : (rdM 1 t).1 = 0
    · have eo : rdOpM t = (⟨0, (rdFeatM (rdM 1 t).2).1, 0, ⟨0, [], []⟩⟩, (rdFeatM (rdM 1 t).2).2) := by rw [rdOpM]; simp only [k0, if_true, if_false, Int.one_ne_zero, Int.reduceEq]
      rw [k0] at g3
      simp only [k0, h0, R0, R1, R2, R3, R4, R5, R6, R7, R8, R9, VOp.fresh, bxC, bsC, R10, un, most, callsOf, List.contains_nil, List.contains_cons, beq_iff_eq, List.getElem?_cons_zero, List.getElem?_cons_succ, seval, Option.map_none, Int.reducePow, ↓reduceIte, Nat.reduceEqDiff, reduceCtorEq, and_self]
      refine rr_feat g rp3 fun rv h4 r4 rp4 x4 => ?_
      have g4 := (x4.2 h2.next (by omega) (by have := rp2.1; omega)).trans g3
      obtain ⟨h5, e5, r5, rp5, ex5⟩ := put (h4.put h2.next (.cells [.int .i64 0, .int .i64 (rdFeatM (rdM 1 t).2).1.id, .int .i64 (rdFeatM (rdM 1 t).2).1.shape, rv, .int .i64 0, .int .i64 0, .nils, .nils] 54 2)) h2.next 54 2 rv .nils .nils
        (by rw [Heap.get_put, if_pos rfl, eo]) r4.one rfl rfl (by rw [eo]; exact (r4.lv.weak (B' := fun b => h.next ≤ b ∧ b ≠ h2.next) fun b hb _ => ⟨by omega, by omega⟩).frame (by rw [put_next]; exact Nat.le_refl _) (fun b hb _ => by rw [Heap.get_put, if_neg hb.2]) |>.weak fun b hb _ => hb.1) (by rw [eo]; exact .nils) (by rw [eo]; exact .nils)
        (by rw [eo]; exact rp4.frame (by rw [put_next]; exact Nat.le_refl _) (by rw [Heap.get_put, if_neg (by have := rp2.1; omega)])) (((x2.x.trans x3.x).trans x4).put' (by omega) _)
      rw [eo] at e5
      simp only [put_next] at e5 r5
      simp only [h0, h5x, g4, k0, e5, w1, RW, r4.one, r4.cells, R0, R1, R2, R3, R4, R5, R6, R7, R8, R9, VOp.fresh, bxC, bsC, R10, un, most, callsOf, List.contains_nil, List.contains_cons, beq_iff_eq, List.getElem?_cons_zero, List.getElem?_cons_succ, seval, Option.map_none, Int.reducePow, ↓reduceIte, Nat.reduceEqDiff, reduceCtorEq, and_self]
      refine fin _ _ ?_ rp5 ex5 ?_ ?_ ?_
      · simp only [sg_set, Nat.reduceEqDiff, ↓reduceIte]
        exact r5
      · simp only [h0, sg_set, Nat.reduceEqDiff, ↓reduceIte]
      · simp only [h3x, sg_set, Nat.reduceEqDiff, ↓reduceIte]
      · simp only [sg_set, Nat.reduceEqDiff, ↓reduceIte]
    · by_cases k1 : (rdM 1 t).1 = 1
      · have eo : rdOpM t = (⟨1, ⟨0, 0, []⟩, (rdM 2 (rdM 1 t).2).1, ⟨0, [], []⟩⟩, (rdM 2 (rdM 1 t).2).2) := by rw [rdOpM]; simp only [k1, if_true, if_false, Int.one_ne_zero, Int.reduceEq]
        rw [k1] at g3
        simp only [k1, h0, R0, R1, R2, R3, R4, R5, R6, R7, R8, R9, VOp.fresh, bxC, bsC, R10, un, most, callsOf, List.contains_nil, List.contains_cons, beq_iff_eq, List.getElem?_cons_zero, List.getElem?_cons_succ, seval, Option.map_none, Int.reducePow, ↓reduceIte, Nat.reduceEqDiff, reduceCtorEq, and_self]
        refine rrnum_cl g (N := 2) (by decide) rp3 fun h4 rp4 x4' => ?_
        have x4 := x4'.x
        have g4 := (x4.2 h2.next (by omega) (by have := rp2.1; omega)).trans g3
        obtain ⟨h5, e5, r5, rp5, ex5⟩ := put (h4.put h2.next (.cells [.int .i64 1, .int .i64 0, .int .i64 0, .nils, .int .i64 (rdM 2 (rdM 1 t).2).1, .int .i64 0, .nils, .nils] 54 2)) h2.next 54 2 .nils .nils .nils
          (by rw [Heap.get_put, if_pos rfl, eo]) rfl rfl rfl (by rw [eo]; exact .nils) (by rw [eo]; exact .nils) (by rw [eo]; exact .nils)
          (by rw [eo]; exact rp4.frame (by rw [put_next]; exact Nat.le_refl _) (by rw [Heap.get_put, if_neg (by have := rp2.1; omega)])) (((x2.x.trans x3.x).trans x4).put' (by omega) _)
        rw [eo] at e5
        simp only [put_next] at e5 r5
        simp only [h0, h5x, g4, k1, e5, w1, RW, R0, R1, R2, R3, R4, R5, R6, R7, R8, R9, VOp.fresh, bxC, bsC, R10, un, most, callsOf, List.contains_nil, List.contains_cons, beq_iff_eq, List.getElem?_cons_zero, List.getElem?_cons_succ, seval, Option.map_none, Int.reducePow, ↓reduceIte, Nat.reduceEqDiff, reduceCtorEq, and_self]
        refine fin _ _ ?_ rp5 ex5 ?_ ?_ ?_
        · simp only [sg_set, Nat.reduceEqDiff, ↓reduceIte]
          exact r5
        · simp only [h0, sg_set, Nat.reduceEqDiff, ↓reduceIte]
        · simp only [h3x, sg_set, Nat.reduceEqDiff, ↓reduceIte]
        · simp only [sg_set, Nat.reduceEqDiff, ↓reduceIte]
      · by_cases k2 : (rdM 1 t).1 = 2
        · have eo : rdOpM t = (⟨2, ⟨0, 0, []⟩, 0, (rdMpM (rdM 1 t).2).1⟩, (rdMpM (rdM 1 t).2).2) := by rw [rdOpM]; simp only [k2, if_true, if_false, Int.one_ne_zero, Int.reduceEq]
          rw [k2] at g3
          simp only [k2, h0, R0, R1, R2, R3, R4, R5, R6, R7, R8, R9, VOp.fresh, bxC, bsC, R10, un, most, callsOf, List.contains_nil, List.contains_cons, beq_iff_eq, List.getElem?_cons_zero, List.getElem?_cons_succ, seval, Option.map_none, Int.reducePow, ↓reduceIte, Nat.reduceEqDiff, reduceCtorEq, and_self]
          refine rr_map g rp3 fun sv ov h4 r4 q4 rp4 x4 => ?_
          have g4 := (x4.2 h2.next (by omega) (by have := rp2.1; omega)).trans g3
          obtain ⟨h5, e5, r5, rp5, ex5⟩ := put (h4.put h2.next (.cells [.int .i64 2, .int .i64 0, .int .i64 0, .nils, .int .i64 0, .int .i64 (rdMpM (rdM 1 t).2).1.epoch, sv, ov] 54 2)) h2.next 54 2 .nils sv ov
            (by rw [Heap.get_put, if_pos rfl, eo]) rfl r4.one q4.one (by rw [eo]; exact .nils) (by rw [eo]; exact ((lv_ints r4).weak (B' := fun b => h.next ≤ b ∧ b ≠ h2.next) fun b hb _ => ⟨by omega, by omega⟩).frame (by rw [put_next]; exact Nat.le_refl _) (fun b hb _ => by rw [Heap.get_put, if_neg hb.2]) |>.weak fun b hb _ => hb.1) (by rw [eo]; exact ((lv_ints q4).weak (B' := fun b => h.next ≤ b ∧ b ≠ h2.next) fun b hb _ => ⟨by omega, by omega⟩).frame (by rw [put_next]; exact Nat.le_refl _) (fun b hb _ => by rw [Heap.get_put, if_neg hb.2]) |>.weak fun b hb _ => hb.1)
            (by rw [eo]; exact rp4.frame (by rw [put_next]; exact Nat.le_refl _) (by rw [Heap.get_put, if_neg (by have := rp2.1; omega)])) (((x2.x.trans x3.x).trans x4).put' (by omega) _)
          rw [eo] at e5
          simp only [put_next] at e5 r5
          simp only [h0, h5x, g4, k2, e5, w1, RW, r4.one, r4.cells, q4.one, q4.cells, R0, R1, R2, R3, R4, R5, R6, R7, R8, R9, VOp.fresh, bxC, bsC, R10, un, most, callsOf, List.contains_nil, List.contains_cons, beq_iff_eq, List.getElem?_cons_zero, List.getElem?_cons_succ, seval, Option.map_none, Int.reducePow, ↓reduceIte, Nat.reduceEqDiff, reduceCtorEq, and_self]
          refine fin _ _ ?_ rp5 ex5 ?_ ?_ ?_
          · simp only [sg_set, Nat.reduceEqDiff, ↓reduceIte]
            exact r5
          · simp only [h0, sg_set, Nat.reduceEqDiff, ↓reduceIte]
          · simp only [h3x, sg_set, Nat.reduceEqDiff, ↓reduceIte]
          · simp only [sg_set, Nat.reduceEqDiff, ↓reduceIte]
        · have eo : rdOpM t = (⟨(rdM 1 t).1, ⟨0, 0, []⟩, 0, ⟨0, [], []⟩⟩, none) := by rw [rdOpM]; simp only [k0, k1, k2, if_false]
          obtain ⟨e9, ver9, a9, b9, gb9, rp9⟩ := rr_bad rp3
          have n9 : (h3.put rb (.cells [.str S, .int .i64 (a9 : Nat), .bool true] e9 (ver9 + 1))).next = h3.next := rfl
          have g9 : (h3.put rb (.cells [.str S, .int .i64 (a9 : Nat), .bool true] e9 (ver9 + 1))).get h2.next = _ := (by rw [Heap.get_put, if_neg (by have := rp2.1; omega)] : _ = h3.get h2.next).trans g3
          have x9 : ExtX rb h (h3.put rb (.cells [.str S, .int .i64 (a9 : Nat), .bool true] e9 (ver9 + 1))) := (x2.x.trans x3.x).trans (ExtX.put _)
          simp only [h0, g3, k0, k1, k2, gb9, RW, R0, R1, R2, R3, R4, R5, R6, R7, R8, R9, VOp.fresh, bxC, bsC, R10, un, most, callsOf, List.contains_nil, List.contains_cons, beq_iff_eq, List.getElem?_cons_zero, List.getElem?_cons_succ, seval, Option.map_none, Int.reducePow, ↓reduceIte, Nat.reduceEqDiff, reduceCtorEq, and_self]
          generalize h3.put rb (.cells [.str S, .int .i64 (a9 : Nat), .bool true] e9 (ver9 + 1)) = h9 at *
          obtain ⟨h5, e5, r5, rp5, ex5⟩ := put h9 h2.next 54 1 .nils .nils .nils (by rw [g9, eo]) rfl rfl rfl (by rw [eo]; exact .nils) (by rw [eo]; exact .nils) (by rw [eo]; exact .nils) (by rw [eo]; exact rp9) x9
          rw [eo, n9] at e5
          rw [n9] at r5
          have hbr : ¬ h2.next = rb := by have := rp2.1; omega
          simp only [h0, h5x, hbr, g9, n9, e5, w1, RW, R0, R1, R2, R3, R4, R5, R6, R7, R8, R9, VOp.fresh, bxC, bsC, R10, un, most, callsOf, List.contains_nil, List.contains_cons, beq_iff_eq, List.getElem?_cons_zero, List.getElem?_cons_succ, seval, Option.map_none, Int.reducePow, ↓reduceIte, Nat.reduceEqDiff, reduceCtorEq, and_self]
          refine fin _ _ ?_ rp5 ex5 ?_ ?_ ?_
          · simp only [sg_set, Nat.reduceEqDiff, ↓reduceIte]
            exact r5
          · simp only [h0, sg_set, Nat.reduceEqDiff, ↓reduceIte]
          · simp only [h3x, sg_set, Nat.reduceEqDiff, ↓reduceIte]
          · simp only [sg_set, Nat.reduceEqDiff, ↓reduceIte]
end
end Go.Proofs.Ytinonmcnofjeeaa.VM
