/- Copies of a law's own: new memory, the same data. -/
import Derived.Test.YtinonmcnofjeeaaL11Get
namespace Go.Proofs.Ytinonmcnofjeeaa.VM
set_option linter.unusedSimpArgs false
set_option linter.unusedVariables false
set_option linter.defProp false
set_option maxHeartbeats 1000000
attribute [local irreducible] Af Nx EvO Ev Un Gd Cd EvR EvQ EvC Nc Gc Lp EvM NxM AfM GdM EvMR EvMQ EvMD EvMC Nm Gm
def Plain {α : Type} (R : α → List AV → Prop) (sz : Nat) : Prop := ∀ a c, R a c → c.length = sz ∧ c.all AV.one = true ∧ AV.tolds c = true ∧ AV.bares c = true
theorem Plain.cat {α : Type} {R : α → List AV → Prop} {sz : Nat} (p : Plain R sz) : ∀ {l : List α} {c : List AV}, Cat R l c → c.length = l.length * sz ∧ c.all AV.one = true ∧ AV.tolds c = true ∧ AV.bares c = true
  | _, _, .nil => ⟨by simp, rfl, rfl, rfl⟩
  | _, _, .cons h t => by
    obtain ⟨a1, a2, a3, a4⟩ := p _ _ h
    obtain ⟨b1, b2, b3, b4⟩ := p.cat t
    exact ⟨by rw [List.length_append, a1, b1, List.length_cons, Nat.add_mul]; omega, by rw [List.all_append, a2, b2]; rfl, by rw [Cat.told.tolds_append, a3, b3]; rfl, by rw [bares_app, a4, b4]; rfl⟩
theorem plainInt : Plain RInt 1 := fun a c h => by rw [h.1]; exact ⟨rfl, rfl, rfl, rfl⟩
theorem plainPt : Plain RPt 2 := fun a c h => by rw [h.1]; exact ⟨rfl, rfl, rfl, rfl⟩
/-- what stands is put behind an empty slice of one's own -/
theorem app_copy {α : Type} {R : α → List AV → Prop} {sz bytes : Nat} (p : Plain R sz) {x : AV} {l : List α} (hx : IsL bytes R x l) {h : Heap} {b e0 v0 : Nat} (hg : h.get b = some (.cells [] e0 v0)) (e : TypeId) :
    ∃ v h' t, appendV h sz bytes e (.sl b 0 0 0 sz) x = some (v, h') ∧ h.next ≤ h'.next ∧ (∀ c, c < h.next → c ≠ b → h'.get c = h.get c) ∧ Lv h' (fun c => h.next ≤ c) v t ∧ IsL bytes R t l ∧ v.cells = some [v] ∧ v.one = true := by
  have hbq : Nat.beq sz sz = true := by rw [Nat.beq_eq]
  have z : ∀ x : AV, l = [] → lenV x = some 0 → cellsOf h sz 0 x = some [] → ∃ v h' t, appendV h sz bytes e (.sl b 0 0 0 sz) x = some (v, h') ∧ h.next ≤ h'.next ∧ (∀ c, c < h.next → c ≠ b → h'.get c = h.get c) ∧ Lv h' (fun c => h.next ≤ c) v t ∧ IsL bytes R t l ∧ v.cells = some [v] ∧ v.one = true := by
    intro x hl h1 h2
    subst hl
    refine ⟨.sl b 0 0 0 sz, h.put b (.cells [] e0 (v0 + 1)), .rs [] 0, ?_, Nat.le_refl _, fun c _ hc => by rw [Heap.get_put, if_neg hc], ⟨[], .sl0, rfl, Own.nil, fun b hb => by simp at hb⟩, ⟨by simp, .inr ⟨[], rfl, .nil⟩⟩, rfl, rfl⟩
    simp only [appendV, h1, h2, List.length_nil, Nat.zero_mul, List.all_nil, and_self, if_true, hbq, cond_true, Nat.add_zero, Nat.le_refl, writeAt, hg, lsets]
    rfl
  obtain ⟨hb0, ⟨rfl, hl⟩ | ⟨c, rfl, hc⟩⟩ := hx
  · exact z _ hl rfl rfl
  · obtain ⟨h1, h2, h3, h4⟩ := p.cat hc
    by_cases h0 : l.length = 0
    · have hl : l = [] := List.eq_nil_of_length_eq_zero h0
      have : c = [] := List.eq_nil_of_length_eq_zero (by rw [h1, h0, Nat.zero_mul])
      subst this
      refine z _ hl (by rw [lenV, h0]) ?_
      simp [cellsOf, cut_eq]
    · have hcut : cut c 0 (l.length * sz) = some c := by rw [cut_eq, List.drop_zero, ← h1, List.take_length, if_pos rfl]
      refine ⟨.sl h.next 0 l.length l.length sz, (h.put b .dead).mk' h.next (.cells c e 0), .rs c l.length, ?_, by rw [mk_next, put_next]; omega, fun d hd hne => by rw [Heap.get_mk, if_neg (by omega), Heap.get_put, if_neg hne], ⟨[h.next], ?_, rfl, ?_, fun d hd => by simp at hd; omega⟩, ⟨hb0, .inr ⟨c, rfl, hc⟩⟩, rfl, rfl⟩
      · have hm : l.length * bytes ≤ most2 := by exact Nat.le_trans hb0 (by rw [reach_eq]; decide)
        have h5 : ¬ (l.length ≤ 0) := by omega
        have hc0 : cut ([] : List AV) 0 0 = some [] := rfl
        simp only [appendV, lenV, cellsOf, hcut, hc0, h1, h2, List.nil_append, and_self, if_true, hbq, cond_true, h5, if_false, hm, Nat.le_refl, hg, Nat.zero_mul, Nat.zero_add]
      · exact (Fd.sl (by omega) (by rw [mk_next]; omega) (by rw [Heap.get_mk, if_pos rfl]) (hcut) (Fds.tolds h3)).cast rfl
      · intro d hd
        simp only [List.mem_singleton] at hd
        subst hd
        exact ⟨c, e, 0, by rw [Heap.get_mk, if_pos rfl], h4⟩
section
variable {P : Program}
theorem copyMap_cl (g : Pg P tab) {m : Mp} {c : List AV} (hm : RMp m c) {h : Heap} {Q : AV → Heap → Prop}
    (q : ∀ c' t h', Lvs h' (h.next ≤ ·) c' t → RMp m t → c'.length = 3 → c'.all AV.one = true → Ext h h' → Q (.agg c') h') : Cl P 14 [.agg c] h Q := by
  obtain ⟨a, u, rfl, h1, h2, h3⟩ := hm
  refine g.cl (vf := v14) rfl rfl ?_
  simp only [v14, R0, R1, R2, R3, R4, R5, R6, R7, R8, R9, VOp.fresh, bxC, bsC, R10, un, most, callsOf, List.contains_nil, List.contains_cons, beq_iff_eq, List.getElem?_cons_zero, List.getElem?_cons_succ, seval, Option.map_none, Int.reducePow, ↓reduceIte, Nat.reduceEqDiff, reduceCtorEq, and_self]
  refine EvMD.lk (fun _ _ h => (.undef, h)) ?_
  have f1 : ¬ h.next = h.next + 1 + 1 + 6 := by omega
  have f2 : ¬ h.next = h.next + 1 + 1 + 2 := by omega
  have f3 : ¬ h.next = h.next + 1 := by omega
  have f4 : ¬ h.next + 1 + 1 + 2 = h.next + 1 + 1 + 6 := by omega
  have f5 : ¬ h.next + 1 + 1 + 6 = h.next + 1 + 1 + 2 := by omega
  have f6 : ¬ h.next + 1 = h.next + 1 + 1 + 6 := by omega
  have f7 : ¬ h.next + 1 = h.next + 1 + 1 + 2 := by omega
  have g0 : ((((h.mk' h.next (.cells [.int .i64 m.epoch, a, u] 26 0)).mk' (h.next + 1) (.cells [.int .i64 0, .nils, .nils] 26 0)).mk' (h.next + 1 + 1 + 2) .dead).mk' (h.next + 1 + 1 + 6) .dead).get h.next = some (.cells [.int .i64 m.epoch, a, u] 26 0) := by
    simp only [Heap.get_mk, f1, f2, f3, if_false, if_true]
  have g1 : ((((h.mk' h.next (.cells [.int .i64 m.epoch, a, u] 26 0)).mk' (h.next + 1) (.cells [.int .i64 0, .nils, .nils] 26 0)).mk' (h.next + 1 + 1 + 2) .dead).mk' (h.next + 1 + 1 + 6) .dead).get (h.next + 1) = some (.cells [.int .i64 0, .nils, .nils] 26 0) := by
    simp only [Heap.get_mk, f6, f7, if_false, if_true]
  have n0 : ((((h.mk' h.next (.cells [.int .i64 m.epoch, a, u] 26 0)).mk' (h.next + 1) (.cells [.int .i64 0, .nils, .nils] 26 0)).mk' (h.next + 1 + 1 + 2) .dead).mk' (h.next + 1 + 1 + 6) .dead).next = h.next + 9 := by
    simp only [mk_next]; omega
  have x0 : Ext h ((((h.mk' h.next (.cells [.int .i64 m.epoch, a, u] 26 0)).mk' (h.next + 1) (.cells [.int .i64 0, .nils, .nils] 26 0)).mk' (h.next + 1 + 1 + 2) .dead).mk' (h.next + 1 + 1 + 6) .dead) := ⟨by omega, fun b hb => by
    rw [Heap.get_mk, if_neg (by omega), Heap.get_mk, if_neg (by omega), Heap.get_mk, if_neg (by omega), Heap.get_mk, if_neg (by omega)]⟩
  simp only [RW, R0, R1, R2, R3, R4, R5, R6, R7, R8, R9, VOp.fresh, bxC, bsC, R10, un, most, callsOf, List.contains_nil, List.contains_cons, beq_iff_eq, List.getElem?_cons_zero, List.getElem?_cons_succ, seval, Option.map_none, Int.reducePow, ↓reduceIte, Nat.reduceEqDiff, reduceCtorEq, and_self]
  generalize (((h.mk' h.next (.cells [.int .i64 m.epoch, a, u] 26 0)).mk' (h.next + 1) (.cells [.int .i64 0, .nils, .nils] 26 0)).mk' (h.next + 1 + 1 + 2) .dead).mk' (h.next + 1 + 1 + 6) .dead = H at *
  have gb1 : (H.mk' (h.next + 1 + 1 + 2) (.cells [] 3 0)).get (h.next + 1 + 1 + 2) = some (.cells [] 3 0) := by rw [Heap.get_mk, if_pos rfl]
  have nb1 : (H.mk' (h.next + 1 + 1 + 2) (.cells [] 3 0)).next = h.next + 9 := by rw [mk_next]; omega
  have k1 : ∀ c, c ≠ h.next + 1 + 1 + 2 → (H.mk' (h.next + 1 + 1 + 2) (.cells [] 3 0)).get c = H.get c := fun c hc => by rw [Heap.get_mk, if_neg hc]
  obtain ⟨v1, H1, t1, ap1, nx1, kp1, lv1, is1, ce1, on1⟩ := app_copy plainInt h2 gb1 3
  have g01 := (kp1 h.next (by omega) (by omega)).trans ((k1 h.next (by omega)).trans g0)
  have g11 := (kp1 (h.next + 1) (by omega) (by omega)).trans ((k1 (h.next + 1) (by omega)).trans g1)
  have gb2 : (H1.mk' (h.next + 1 + 1 + 6) (.cells [] 3 0)).get (h.next + 1 + 1 + 6) = some (.cells [] 3 0) := by rw [Heap.get_mk, if_pos rfl]
  have nb2 : (H1.mk' (h.next + 1 + 1 + 6) (.cells [] 3 0)).next = H1.next := by rw [mk_next]; omega
  have k2 : ∀ c, c ≠ h.next + 1 + 1 + 6 → (H1.mk' (h.next + 1 + 1 + 6) (.cells [] 3 0)).get c = H1.get c := fun c hc => by rw [Heap.get_mk, if_neg hc]
  obtain ⟨v2, H2, t2, ap2, nx2, kp2, lv2, is2, ce2, on2⟩ := app_copy plainInt h3 gb2 3
  have g02 := (kp2 h.next (by omega) (by omega)).trans ((k2 h.next (by omega)).trans g01)
  have g12 := (kp2 (h.next + 1) (by omega) (by omega)).trans ((k2 (h.next + 1) (by omega)).trans g11)
  simp only [RW, f1, f2, f3, g0, g01, g02, g11, g12, ap1, ap2, ce1, ce2, on1, on2, R0, R1, R2, R3, R4, R5, R6, R7, R8, R9, VOp.fresh, bxC, bsC, R10, un, most, callsOf, List.contains_nil, List.contains_cons, beq_iff_eq, List.getElem?_cons_zero, List.getElem?_cons_succ, seval, Option.map_none, Int.reducePow, ↓reduceIte, Nat.reduceEqDiff, reduceCtorEq, and_self]
  have gm : (H.mk' (h.next + 1 + 1 + 2) (.cells [] 3 0)).get h.next = some (.cells [.int .i64 m.epoch, a, u] 26 0) := (k1 h.next (by omega)).trans g0
  have gm1 : (H1.mk' (h.next + 1 + 1 + 6) (.cells [] 3 0)).get h.next = some (.cells [.int .i64 m.epoch, a, u] 26 0) := (k2 h.next (by omega)).trans g01
  refine ⟨⟨⟨?_, ?_, ?_, ?_, trivial⟩, ⟨?_, trivial⟩, ⟨?_, ?_, ?_, trivial⟩, trivial⟩, ?_⟩
  · show Lk _ _ _ _
    simp only [Lk, wanted, f1, f2, gm, g0, R0, R1, R2, R3, R4, R5, R6, R7, R8, R9, VOp.fresh, bxC, bsC, R10, un, most, callsOf, List.contains_nil, List.contains_cons, beq_iff_eq, List.getElem?_cons_zero, List.getElem?_cons_succ, seval, Option.map_none, Int.reducePow, ↓reduceIte, Nat.reduceEqDiff, reduceCtorEq, and_self]
  · show Lk _ _ _ _
    simp only [Lk, wanted, f1, f2, g01, R0, R1, R2, R3, R4, R5, R6, R7, R8, R9, VOp.fresh, bxC, bsC, R10, un, most, callsOf, List.contains_nil, List.contains_cons, beq_iff_eq, List.getElem?_cons_zero, List.getElem?_cons_succ, seval, Option.map_none, Int.reducePow, ↓reduceIte, Nat.reduceEqDiff, reduceCtorEq, and_self]
  · show Lk _ _ _ _
    simp only [Lk, wanted, f1, f2, gm1, g01, R0, R1, R2, R3, R4, R5, R6, R7, R8, R9, VOp.fresh, bxC, bsC, R10, un, most, callsOf, List.contains_nil, List.contains_cons, beq_iff_eq, List.getElem?_cons_zero, List.getElem?_cons_succ, seval, Option.map_none, Int.reducePow, ↓reduceIte, Nat.reduceEqDiff, reduceCtorEq, and_self]
  · show Lk _ _ _ _
    simp only [Lk, wanted, f1, f2, g02, R0, R1, R2, R3, R4, R5, R6, R7, R8, R9, VOp.fresh, bxC, bsC, R10, un, most, callsOf, List.contains_nil, List.contains_cons, beq_iff_eq, List.getElem?_cons_zero, List.getElem?_cons_succ, seval, Option.map_none, Int.reducePow, ↓reduceIte, Nat.reduceEqDiff, reduceCtorEq, and_self]
  · show Lk _ _ _ _
    simp only [Lk, wanted, f1, f2, g0, R0, R1, R2, R3, R4, R5, R6, R7, R8, R9, VOp.fresh, bxC, bsC, R10, un, most, callsOf, List.contains_nil, List.contains_cons, beq_iff_eq, List.getElem?_cons_zero, List.getElem?_cons_succ, seval, Option.map_none, Int.reducePow, ↓reduceIte, Nat.reduceEqDiff, reduceCtorEq, and_self]
  · show Lk _ _ _ _
    simp only [Lk, wanted, f1, f2, g0, R0, R1, R2, R3, R4, R5, R6, R7, R8, R9, VOp.fresh, bxC, bsC, R10, un, most, callsOf, List.contains_nil, List.contains_cons, beq_iff_eq, List.getElem?_cons_zero, List.getElem?_cons_succ, seval, Option.map_none, Int.reducePow, ↓reduceIte, Nat.reduceEqDiff, reduceCtorEq, and_self]
  · show Lk _ _ _ _
    simp only [Lk, wanted, f1, f2, g0, gm, R0, R1, R2, R3, R4, R5, R6, R7, R8, R9, VOp.fresh, bxC, bsC, R10, un, most, callsOf, List.contains_nil, List.contains_cons, beq_iff_eq, List.getElem?_cons_zero, List.getElem?_cons_succ, seval, Option.map_none, Int.reducePow, ↓reduceIte, Nat.reduceEqDiff, reduceCtorEq, and_self]
  · show Lk _ _ _ _
    simp only [Lk, wanted, f1, f2, g01, R0, R1, R2, R3, R4, R5, R6, R7, R8, R9, VOp.fresh, bxC, bsC, R10, un, most, callsOf, List.contains_nil, List.contains_cons, beq_iff_eq, List.getElem?_cons_zero, List.getElem?_cons_succ, seval, Option.map_none, Int.reducePow, ↓reduceIte, Nat.reduceEqDiff, reduceCtorEq, and_self]
  have lv1' : Lv H2 (fun c => h.next + 2 ≤ c) v1 t1 := ((lv1.weak (B' := fun c => h.next + 9 ≤ c) fun c hc _ => by omega).frame (by omega) fun c hc hl => (kp2 c (by omega) (by omega)).trans (k2 c (by omega))).weak fun c hc _ => by omega
  have lv2' : Lv H2 (fun c => h.next + 2 ≤ c) v2 t2 := lv2.weak fun c hc _ => by omega
  refine q _ [.int .i64 m.epoch, t1, t2] _ ((Lvs.cons .int (.cons lv1' (.cons lv2' .nil))).put (by omega) _ |>.weak fun c hc _ => by omega) ⟨_, _, rfl, h1, is1, is2⟩ rfl (by simp only [List.all_cons, List.all_nil, one_int, on1, on2, Bool.and_self]) ⟨by rw [put_next]; omega, fun b hb => ?_⟩
  rw [Heap.get_put, if_neg (by omega)]
  exact (kp2 b (by omega) (by omega)).trans ((k2 b (by omega)).trans ((kp1 b (by omega) (by omega)).trans ((k1 b (by omega)).trans (x0.2 b hb))))
end
section
variable {P : Program}
theorem Cat.take {α : Type} {R : α → List AV → Prop} {l : List α} {c d : List AV} {i : Nat} (hi : i < l.length) (h : Cat R (l.take i) c) (h' : R l[i] d) : Cat R (l.take (i + 1)) (c ++ d) := by
  rw [List.take_succ_eq_append_getElem hi]
  have := h.append (Cat.cons h' .nil)
  rwa [List.append_nil] at this
theorem cp_rings (g : Pg P tab) {rs : List (List Pt)} {w : AV} (hw : IsL 24 RRing w rs) {n0 n2 N0 ea va : Nat} {a0 a1 p0 p1 : AV} (hn0 : n0 < N0) (hn2 : n2 < N0) (hne : n0 ≠ n2) {G : Nat → Option Blk} (hG : G n0 = some (.cells [a0, a1, w] ea va)) (n : Nat) :
    ∀ (i : Nat) (tc : List AV) (s : T AV) (h : Heap) (rv : AV) (k : List Fr) (Q : Ex → T AV → Heap → Prop), i + n = rs.length → N0 ≤ h.next → (∃ e ver, h.get n2 = some (.cells [p0, p1, rv] e ver)) → LR h (N0 ≤ ·) rv 1 tc i → Cat RRing (rs.take i) tc →
    (∀ b, b < N0 → b ≠ n2 → h.get b = G b) → sg s 1 = .ptr n0 0 → sg s 3 = .ptr n2 0 → sg s 4 = .int .i64 i →
    (∀ s' h' rv' tc', (∃ e ver, h'.get n2 = some (.cells [p0, p1, rv'] e ver)) → LR h' (N0 ≤ ·) rv' 1 tc' rs.length → Cat RRing rs tc' → (∀ b, b < N0 → b ≠ n2 → h'.get b = G b) → N0 ≤ h'.next → (∀ j, j = 2 ∨ j = 3 → sg s' j = sg s j) → Un P k Q (.exit 0) s' h') → Lp P b44_0 s h (Un P k Q) := by
  have hbd := hw.bound (by decide)
  induction n with
  | zero =>
    intro i tc s h rv k Q hi hh hf r hc hk h1 h3 h4 hQ
    refine g.lpe b44_0.eq_1 ?_
    have g0 := (hk n0 hn0 hne).trans hG
    have c1 : ¬ ((i : Int) < (rs.length : Int)) := by omega
    simp only [h1, h4, g0, hw.len, c1, R0, R1, R2, R3, R4, R5, R6, R7, R8, R9, VOp.fresh, bxC, bsC, R10, un, most, callsOf, List.contains_nil, List.contains_cons, beq_iff_eq, List.getElem?_cons_zero, List.getElem?_cons_succ, seval, Option.map_none, Int.reducePow, ↓reduceIte, Nat.reduceEqDiff, reduceCtorEq, and_self]
    have hi' : i = rs.length := by omega
    subst hi'
    rw [List.take_length] at hc
    refine hQ _ _ rv _ hf r hc hk hh ?_
    rintro j (rfl | rfl) <;> simp only [sg_set, Nat.reduceEqDiff, ↓reduceIte]
  | succ n ih =>
    intro i tc s h rv k Q hi hh hf r hc hk h1 h3 h4 hQ
    refine g.lpe b44_0.eq_1 ?_
    have g0 := (hk n0 hn0 hne).trans hG
    have c1 : ((i : Int) < (rs.length : Int)) := by omega
    have w1 : IntKind.i64.wrap ((i : Int) + 1) = ((i + 1 : Nat) : Int) := by rw [w64 (by omega) (by omega)]; push_cast; rfl
    obtain ⟨ci, rr, ⟨vi, rfl, hvi⟩, hat⟩ := hw.at zRing i (by omega)
    obtain ⟨ef, vf, hf⟩ := hf
    have hm24 : (i + 1) * 24 ≤ most2 := by have := hw.1; rw [reach_eq] at this; unfold most2; omega
    simp only [h1, h3, h4, g0, hw.len, c1, R0, R1, R2, R3, R4, R5, R6, R7, R8, R9, VOp.fresh, bxC, bsC, R10, un, most, callsOf, List.contains_nil, List.contains_cons, beq_iff_eq, List.getElem?_cons_zero, List.getElem?_cons_succ, seval, Option.map_none, Int.reducePow, ↓reduceIte, Nat.reduceEqDiff, reduceCtorEq, and_self]
    refine EvD.lk (fun _ _ h => (.undef, h)) ?_
    have gb1 : (h.mk' h.next (.cells [] 48 0)).get h.next = some (.cells [] 48 0) := by rw [Heap.get_mk, if_pos rfl]
    have nb1 : (h.mk' h.next (.cells [] 48 0)).next = h.next + 1 := by rw [mk_next]; omega
    have em1 := Ext.mk (h := h) (.cells [] 48 0)
    obtain ⟨v1, H1, t1, ap1, nx1, kp1, lv1, is1, ce1, on1⟩ := app_copy plainPt hvi gb1 48
    have kk1 : ∀ b, b < h.next → H1.get b = h.get b := fun b hb => (kp1 b (by omega) (by omega)).trans (em1.2 b hb)
    have em2 := Ext.mk (h := H1) (.cells [v1] 49 0)
    have nb2 : (H1.mk' H1.next (.cells [v1] 49 0)).next = H1.next + 1 := by rw [mk_next]; omega
    have r1 : LR H1 (N0 ≤ ·) rv 1 tc i := r.frame (by omega) fun b _ hb => kk1 b hb
    have hlt := r.lt
    have lv2 : Lvs (H1.mk' H1.next (.cells [v1] 49 0)) (fun b => N0 ≤ b ∧ b ∉ blkOf rv) [v1] [t1] := .cons ((lv1.frame em2.1 fun b _ hb => em2.2 b hb).weak fun b hb _ => ⟨by omega, fun hc => by have := hlt b hc; omega⟩) .nil
    obtain ⟨H3, e3, r3, n3, k3⟩ := (r1.frame em2.1 fun b _ hb => em2.2 b hb).push (nb := H1.next) (eb := 49) (vb := 0) (c := [v1]) (by rw [Heap.get_mk, if_pos rfl]) rfl (by simp [on1]) lv2 (by rw [nb2]; omega) (bytes := 24) hm24 49
    rw [nb2] at e3 r3 n3 k3
    have hv := r1.inB
    have kk3 : ∀ b, b < H1.next → b ∉ blkOf rv → H3.get b = H1.get b := fun b hb hn => (k3 b hn (by omega)).trans (em2.2 b hb)
    have hf1 := (kk1 n2 (by omega)).trans hf
    have hf3 := (kk3 n2 (by omega) fun hc => by have := hv n2 hc; omega).trans hf1
    have hfn : ¬ n2 = H1.next := by omega
    have hfm : ¬ n2 = h.next := by omega
    have h0m : ¬ n0 = h.next := by omega
    simp only [h1, h3, h4, g0, hf, hf1, hf3, hfn, hfm, h0m, hat, ap1, e3, ce1, on1, w1, RW, R0, R1, R2, R3, R4, R5, R6, R7, R8, R9, VOp.fresh, bxC, bsC, R10, un, most, callsOf, List.contains_nil, List.contains_cons, beq_iff_eq, List.getElem?_cons_zero, List.getElem?_cons_succ, seval, Option.map_none, Int.reducePow, ↓reduceIte, Nat.reduceEqDiff, reduceCtorEq, and_self]
    have gm1 := (em1.2 n2 (by omega)).trans hf
    have gm2 := (em2.2 n2 (by omega)).trans hf1
    refine ⟨⟨⟨?_, ?_, ?_, trivial⟩, ⟨?_, trivial⟩, ⟨?_, trivial⟩, trivial⟩, ?_⟩
    · show Lk _ _ _ _
      simp only [Lk, wanted, gm1, hf, hfm, R0, R1, R2, R3, R4, R5, R6, R7, R8, R9, VOp.fresh, bxC, bsC, R10, un, most, callsOf, List.contains_nil, List.contains_cons, beq_iff_eq, List.getElem?_cons_zero, List.getElem?_cons_succ, seval, Option.map_none, Int.reducePow, ↓reduceIte, Nat.reduceEqDiff, reduceCtorEq, and_self]
    · show Lk _ _ _ _
      simp only [Lk, wanted, hf1, R0, R1, R2, R3, R4, R5, R6, R7, R8, R9, VOp.fresh, bxC, bsC, R10, un, most, callsOf, List.contains_nil, List.contains_cons, beq_iff_eq, List.getElem?_cons_zero, List.getElem?_cons_succ, seval, Option.map_none, Int.reducePow, ↓reduceIte, Nat.reduceEqDiff, reduceCtorEq, and_self]
    · show Lk _ _ _ _
      simp only [Lk, wanted, gm2, hf1, hfn, R0, R1, R2, R3, R4, R5, R6, R7, R8, R9, VOp.fresh, bxC, bsC, R10, un, most, callsOf, List.contains_nil, List.contains_cons, beq_iff_eq, List.getElem?_cons_zero, List.getElem?_cons_succ, seval, Option.map_none, Int.reducePow, ↓reduceIte, Nat.reduceEqDiff, reduceCtorEq, and_self]
    · show Lk _ _ _ _
      simp only [Lk, wanted, g0, R0, R1, R2, R3, R4, R5, R6, R7, R8, R9, VOp.fresh, bxC, bsC, R10, un, most, callsOf, List.contains_nil, List.contains_cons, beq_iff_eq, List.getElem?_cons_zero, List.getElem?_cons_succ, seval, Option.map_none, Int.reducePow, ↓reduceIte, Nat.reduceEqDiff, reduceCtorEq, and_self]
    · show Lk _ _ _ _
      simp only [Lk, wanted, hat, R0, R1, R2, R3, R4, R5, R6, R7, R8, R9, VOp.fresh, bxC, bsC, R10, un, most, callsOf, List.contains_nil, List.contains_cons, beq_iff_eq, List.getElem?_cons_zero, List.getElem?_cons_succ, seval, Option.map_none, Int.reducePow, ↓reduceIte, Nat.reduceEqDiff, reduceCtorEq, and_self]
    refine ih (i + 1) (tc ++ [t1]) _ _ (.sl (H1.next + 1) 0 (i + 1) (i + 1) 1) k Q (by omega) ?_ ?_ ?_ ?_ ?_ ?_ ?_ ?_ ?_
    · rw [put_next]; omega
    · exact ⟨ef, vf + 1, by rw [Heap.get_put, if_pos rfl]⟩
    · have r6 := (r3.weak (B' := fun b => N0 ≤ b ∧ b ≠ n2) fun b hb _ => ⟨hb, by omega⟩).frame (h' := H3.put n2 (.cells [p0, p1, .sl (H1.next + 1) 0 (i + 1) (i + 1) 1] ef (vf + 1))) (by rw [put_next]; exact Nat.le_refl _) fun b hb _ => by rw [Heap.get_put, if_neg hb.2]
      exact r6.weak (B' := (N0 ≤ ·)) fun b hb _ => hb.1
    · exact hc.take (by omega) ⟨t1, rfl, is1⟩
    · intro b hb hf'
      rw [Heap.get_put, if_neg hf', kk3 b (by omega) (fun hc => by have := hv b hc; omega), kk1 b (by omega), hk b hb hf']
    · simp only [h1, sg_set, Nat.reduceEqDiff, ↓reduceIte]
    · simp only [h3, sg_set, Nat.reduceEqDiff, ↓reduceIte]
    · simp only [sg_set, Nat.reduceEqDiff, ↓reduceIte]
    · intro s' h' rv' tc' q1 q2 q3 q4 q5 q6
      refine hQ s' h' rv' tc' q1 q2 q3 q4 q5 fun j hj => (q6 j hj).trans ?_
      rcases hj with rfl | rfl <;> simp only [sg_set, Nat.reduceEqDiff, ↓reduceIte]
theorem copyFeat_cl (g : Pg P tab) {f : Feat} {c : List AV} (hm : RFeat f c) {h : Heap} {Q : AV → Heap → Prop}
    (q : ∀ c' t h', Lvs h' (h.next ≤ ·) c' t → RFeat f t → c'.length = 3 → c'.all AV.one = true → Ext h h' → Q (.agg c') h') : Cl P 44 [.agg c] h Q := by
  obtain ⟨w, rfl, h1, h2, hw⟩ := hm
  refine g.cl (vf := v44) rfl rfl ?_
  have f1 : ¬ h.next = h.next + 1 + 1 := by omega
  have f2 : ¬ h.next = h.next + 1 := by omega
  simp only [v44, RW, f1, f2, R0, R1, R2, R3, R4, R5, R6, R7, R8, R9, VOp.fresh, bxC, bsC, R10, un, most, callsOf, List.contains_nil, List.contains_cons, beq_iff_eq, List.getElem?_cons_zero, List.getElem?_cons_succ, seval, Option.map_none, Int.reducePow, ↓reduceIte, Nat.reduceEqDiff, reduceCtorEq, and_self]
  have g0 : ((((h.mk' h.next (.cells [.int .i64 f.id, .int .i64 f.shape, w] 52 0)).mk' (h.next + 1) (.cells [.int .i64 0, .int .i64 0, .nils] 52 0)).mk' (h.next + 1 + 1) (.cells [.int .i64 0, .int .i64 0, .nils] 52 0)).put (h.next + 1 + 1) (.cells [.int .i64 f.id, .int .i64 f.shape, .nils] 52 1)).get h.next = some (.cells [.int .i64 f.id, .int .i64 f.shape, w] 52 0) := by
    rw [Heap.get_put, if_neg (by omega), Heap.get_mk, if_neg (by omega), Heap.get_mk, if_neg (by omega), Heap.get_mk, if_pos rfl]
  have g1 : ((((h.mk' h.next (.cells [.int .i64 f.id, .int .i64 f.shape, w] 52 0)).mk' (h.next + 1) (.cells [.int .i64 0, .int .i64 0, .nils] 52 0)).mk' (h.next + 1 + 1) (.cells [.int .i64 0, .int .i64 0, .nils] 52 0)).put (h.next + 1 + 1) (.cells [.int .i64 f.id, .int .i64 f.shape, .nils] 52 1)).get (h.next + 1) = some (.cells [.int .i64 0, .int .i64 0, .nils] 52 0) := by
    rw [Heap.get_put, if_neg (by omega), Heap.get_mk, if_neg (by omega), Heap.get_mk, if_pos rfl]
  have g2 : ((((h.mk' h.next (.cells [.int .i64 f.id, .int .i64 f.shape, w] 52 0)).mk' (h.next + 1) (.cells [.int .i64 0, .int .i64 0, .nils] 52 0)).mk' (h.next + 1 + 1) (.cells [.int .i64 0, .int .i64 0, .nils] 52 0)).put (h.next + 1 + 1) (.cells [.int .i64 f.id, .int .i64 f.shape, .nils] 52 1)).get (h.next + 1 + 1) = some (.cells [.int .i64 f.id, .int .i64 f.shape, .nils] 52 1) := by
    rw [Heap.get_put, if_pos rfl]
  have n0 : ((((h.mk' h.next (.cells [.int .i64 f.id, .int .i64 f.shape, w] 52 0)).mk' (h.next + 1) (.cells [.int .i64 0, .int .i64 0, .nils] 52 0)).mk' (h.next + 1 + 1) (.cells [.int .i64 0, .int .i64 0, .nils] 52 0)).put (h.next + 1 + 1) (.cells [.int .i64 f.id, .int .i64 f.shape, .nils] 52 1)).next = h.next + 3 := by rw [put_next, mk_next, mk_next, mk_next]; omega
  have x0 : ∀ b, b < h.next → ((((h.mk' h.next (.cells [.int .i64 f.id, .int .i64 f.shape, w] 52 0)).mk' (h.next + 1) (.cells [.int .i64 0, .int .i64 0, .nils] 52 0)).mk' (h.next + 1 + 1) (.cells [.int .i64 0, .int .i64 0, .nils] 52 0)).put (h.next + 1 + 1) (.cells [.int .i64 f.id, .int .i64 f.shape, .nils] 52 1)).get b = h.get b := fun b hb => by
    rw [Heap.get_put, if_neg (by omega), Heap.get_mk, if_neg (by omega), Heap.get_mk, if_neg (by omega), Heap.get_mk, if_neg (by omega)]
  generalize (((h.mk' h.next (.cells [.int .i64 f.id, .int .i64 f.shape, w] 52 0)).mk' (h.next + 1) (.cells [.int .i64 0, .int .i64 0, .nils] 52 0)).mk' (h.next + 1 + 1) (.cells [.int .i64 0, .int .i64 0, .nils] 52 0)).put (h.next + 1 + 1) (.cells [.int .i64 f.id, .int .i64 f.shape, .nils] 52 1) = H at *
  refine cp_rings g hw (n0 := h.next) (n2 := h.next + 1 + 1) (N0 := h.next + 3) (by omega) (by omega) (by omega) (G := H.get) g0 f.rings.length 0 [] _ H .nils _ _ (by omega) (by omega) ⟨_, _, g2⟩ (.nil _ _ _) .nil (fun _ _ _ => rfl) ?_ ?_ ?_ ?_
  · simp only [sg_set, Nat.reduceEqDiff, ↓reduceIte]
  · simp only [sg_set, Nat.reduceEqDiff, ↓reduceIte]
  · simp only [sg_set, Nat.reduceEqDiff, ↓reduceIte]
    rfl
  intro s' h' rv tc ⟨ef, vf, hf⟩ r hc hk hn a
  have a2 := a 2 (by simp)
  have a3 := a 3 (by simp)
  simp only [sg_set, Nat.reduceEqDiff, ↓reduceIte] at a2 a3
  have g1' := (hk (h.next + 1) (by omega) (by omega)).trans g1
  simp only [a2, a3, hf, g1', r.one, RW, R0, R1, R2, R3, R4, R5, R6, R7, R8, R9, VOp.fresh, bxC, bsC, R10, un, most, callsOf, List.contains_nil, List.contains_cons, beq_iff_eq, List.getElem?_cons_zero, List.getElem?_cons_succ, seval, Option.map_none, Int.reducePow, ↓reduceIte, Nat.reduceEqDiff, reduceCtorEq, and_self]
  refine q _ [.int .i64 f.id, .int .i64 f.shape, cRow tc f.rings.length] _ ((Lvs.cons .int (.cons .int (.cons (r.lv) .nil))).put (by omega) _ |>.weak fun c hc _ => by omega) ⟨_, rfl, h1, h2, row_isL hw.1 hc⟩ rfl ?_ ⟨by rw [put_next]; omega, fun b hb => ?_⟩
  · simp only [List.all_cons, List.all_nil, one_int, r.one, Bool.and_self]
  · rw [Heap.get_put, if_neg (by omega), hk b (by omega) (by omega), x0 b hb]
end
theorem len3 {l : List AV} (h : l.length = 3) : ∃ x y z, l = [x, y, z] := match l, h with | [x, y, z], _ => ⟨x, y, z, rfl⟩
section
variable {P : Program}
theorem cp_ops (g : Pg P tab) {os : List Op} {w : AV} (hw : IsL 112 ROp w os) {N0 : Nat} (n : Nat) :
    ∀ (i : Nat) (tc : List AV) (s : T AV) (h : Heap) (k : List Fr) (Q : Ex → T AV → Heap → Prop), i + n = os.length → N0 ≤ h.next → LR h (N0 ≤ ·) (sg s 3) 8 tc i → Cat ROp (os.take i) tc →
    sg s 0 = w → sg s 4 = .int .i64 i →
    (∀ s' h' tc', LR h' (N0 ≤ ·) (sg s' 3) 8 tc' os.length → Cat ROp os tc' → (∀ b, b < N0 → h'.get b = h.get b) → N0 ≤ h'.next → Un P k Q (.exit 0) s' h') → Lp P b13_0 s h (Un P k Q) := by
  have hbd := hw.bound (by decide)
  induction n with
  | zero =>
    intro i tc s h k Q hi hh r hc h0 h4 hQ
    refine g.lpe b13_0.eq_1 ?_
    have c1 : ¬ ((i : Int) < (os.length : Int)) := by omega
    simp only [h0, h4, hw.len, c1, R0, R1, R2, R3, R4, R5, R6, R7, R8, R9, VOp.fresh, bxC, bsC, R10, un, most, callsOf, List.contains_nil, List.contains_cons, beq_iff_eq, List.getElem?_cons_zero, List.getElem?_cons_succ, seval, Option.map_none, Int.reducePow, ↓reduceIte, Nat.reduceEqDiff, reduceCtorEq, and_self]
    have hi' : i = os.length := by omega
    subst hi'
    rw [List.take_length] at hc
    refine hQ _ _ _ ?_ hc (fun _ _ => rfl) hh
    simp only [sg_set, Nat.reduceEqDiff, ↓reduceIte]
    exact r
  | succ n ih =>
    intro i tc s h k Q hi hh r hc h0 h4 hQ
    refine g.lpe b13_0.eq_1 ?_
    have c1 : ((i : Int) < (os.length : Int)) := by omega
    have w1 : IntKind.i64.wrap ((i : Int) + 1) = ((i + 1 : Nat) : Int) := by rw [w64 (by omega) (by omega)]; push_cast; rfl
    have hm112 : (i + 1) * 112 ≤ most2 := by have := hw.1; rw [reach_eq] at this; unfold most2; omega
    obtain ⟨ci, rr, ⟨va, vb, vc, rfl, i1, i2, i3, i4, i5, i6, i7, i8⟩, hat⟩ := hw.at zOp i (by omega)
    obtain ⟨_, H1, ok1, c1', t1, rfl, lv1, is1, ln1, on1, e1⟩ := copyFeat_cl g (f := os[i].f) (c := [.int .i64 os[i].f.id, .int .i64 os[i].f.shape, va]) ⟨_, rfl, i2, i3, i4⟩ (h := h) (Q := fun v h' => ∃ c' t, v = .agg c' ∧ Lvs h' (h.next ≤ ·) c' t ∧ RFeat os[i].f t ∧ c'.length = 3 ∧ c'.all AV.one = true ∧ Ext h h')
      (fun c' t h' q1 q2 q3 q4 q5 => ⟨c', t, rfl, q1, q2, q3, q4, q5⟩)
    obtain ⟨_, H2, ok2, c2', t2, rfl, lv2, is2, ln2, on2, e2⟩ := copyMap_cl g (m := os[i].m) (c := [.int .i64 os[i].m.epoch, vb, vc]) ⟨_, _, rfl, i6, i7, i8⟩ (h := H1) (Q := fun v h' => ∃ c' t, v = .agg c' ∧ Lvs h' (H1.next ≤ ·) c' t ∧ RMp os[i].m t ∧ c'.length = 3 ∧ c'.all AV.one = true ∧ Ext H1 h')
      (fun c' t h' q1 q2 q3 q4 q5 => ⟨c', t, rfl, q1, q2, q3, q4, q5⟩)
    obtain ⟨x1, x2, x3, rfl⟩ := len3 ln1
    obtain ⟨y1, y2, y3, rfl⟩ := len3 ln2
    have on1' := on1
    have on2' := on2
    simp only [List.all_cons, List.all_nil, Bool.and_true, Bool.and_eq_true] at on1' on2'
    obtain ⟨o1, o2, o3⟩ := on1'
    obtain ⟨o4, o5, o6⟩ := on2'
    have em := Ext.mk (h := H2) (.cells [.int .i64 os[i].kind, x1, x2, x3, .int .i64 os[i].id, y1, y2, y3] 54 0)
    have nb : (H2.mk' H2.next (.cells [.int .i64 os[i].kind, x1, x2, x3, .int .i64 os[i].id, y1, y2, y3] 54 0)).next = H2.next + 1 := by rw [mk_next]; omega
    have xx := (e1.trans e2)
    have hlt := r.lt
    have r2 : LR H2 (N0 ≤ ·) (sg s 3) 8 tc i := r.frame xx.1 fun b _ hb => xx.2 b hb
    have a1 : Lvs (H2.mk' H2.next (.cells [.int .i64 os[i].kind, x1, x2, x3, .int .i64 os[i].id, y1, y2, y3] 54 0)) (fun b => N0 ≤ b ∧ b ∉ blkOf (sg s 3)) [x1, x2, x3] t1 :=
      ((lv1.frame e2.1 fun b _ hb => e2.2 b hb).frame em.1 fun b _ hb => em.2 b hb).weak fun b hb _ => ⟨by omega, fun hc => by have := hlt b hc; omega⟩
    have a2 : Lvs (H2.mk' H2.next (.cells [.int .i64 os[i].kind, x1, x2, x3, .int .i64 os[i].id, y1, y2, y3] 54 0)) (fun b => N0 ≤ b ∧ b ∉ blkOf (sg s 3)) [y1, y2, y3] t2 :=
      (lv2.frame em.1 fun b _ hb => em.2 b hb).weak fun b hb _ => ⟨by have := e1.1; omega, fun hc => by have := hlt b hc; have := e1.1; omega⟩
    have la := Lvs.cons (x := .int .i64 os[i].kind) .int (a1.app (.cons (x := .int .i64 os[i].id) .int a2))
    have e11 := e1.1
    have e21 := e2.1
    obtain ⟨H3, p3, r3, n3, k3⟩ := (r2.frame em.1 fun b _ hb => em.2 b hb).push (nb := H2.next) (eb := 54) (vb := 0) (c := [.int .i64 os[i].kind, x1, x2, x3, .int .i64 os[i].id, y1, y2, y3]) (by rw [Heap.get_mk, if_pos rfl]) rfl (by simp only [List.all_cons, List.all_nil, one_int, o1, o2, o3, o4, o5, o6, Bool.and_self]) la (by rw [nb]; omega) (bytes := 112) hm112 54
    rw [nb] at p3 r3 n3 k3
    have hv := r2.inB
    have kk3 : ∀ b, b < N0 → H3.get b = h.get b := fun b hb => (k3 b (fun hc => by have := hv b hc; omega) (by omega)).trans ((em.2 b (by omega)).trans (xx.2 b (by omega)))
    have ho : ROp os[i] (.int .i64 os[i].kind :: (t1 ++ .int .i64 os[i].id :: t2)) := by
      obtain ⟨z1, rfl, u1, u2, u3⟩ := is1
      obtain ⟨z2, z3, rfl, u4, u5, u6⟩ := is2
      exact ⟨z1, z2, z3, rfl, i1, u1, u2, u3, i5, u4, u5, u6⟩
    simp only [h0, h4, hw.len, c1, R0, R1, R2, R3, R4, R5, R6, R7, R8, R9, VOp.fresh, bxC, bsC, R10, un, most, callsOf, List.contains_nil, List.contains_cons, beq_iff_eq, List.getElem?_cons_zero, List.getElem?_cons_succ, seval, Option.map_none, Int.reducePow, ↓reduceIte, Nat.reduceEqDiff, reduceCtorEq, and_self]
    refine EvD.lk (fun f _ _ => if f = 44 then (.agg [x1, x2, x3], H1) else (.agg [y1, y2, y3], H2)) ?_
    simp only [h0, h4, hat, ok1, ok2, p3, w1, RW, R0, R1, R2, R3, R4, R5, R6, R7, R8, R9, VOp.fresh, bxC, bsC, R10, un, most, callsOf, List.contains_nil, List.contains_cons, beq_iff_eq, List.getElem?_cons_zero, List.getElem?_cons_succ, seval, Option.map_none, Int.reducePow, ↓reduceIte, Nat.reduceEqDiff, reduceCtorEq, and_self]
    refine ⟨⟨⟨?_, ?_, trivial⟩, ⟨?_, ?_, trivial⟩, ⟨?_, trivial⟩, trivial⟩, ?_⟩
    · show Lk _ _ _ _
      simp only [Lk, wanted, R0, R1, R2, R3, R4, R5, R6, R7, R8, R9, VOp.fresh, bxC, bsC, R10, un, most, callsOf, List.contains_nil, List.contains_cons, beq_iff_eq, List.getElem?_cons_zero, List.getElem?_cons_succ, seval, Option.map_none, Int.reducePow, ↓reduceIte, Nat.reduceEqDiff, reduceCtorEq, and_self]
    · show Lk _ _ _ _
      simp only [Lk, wanted, R0, R1, R2, R3, R4, R5, R6, R7, R8, R9, VOp.fresh, bxC, bsC, R10, un, most, callsOf, List.contains_nil, List.contains_cons, beq_iff_eq, List.getElem?_cons_zero, List.getElem?_cons_succ, seval, Option.map_none, Int.reducePow, ↓reduceIte, Nat.reduceEqDiff, reduceCtorEq, and_self]
    · show Lk _ _ _ _
      simp only [Lk, wanted, R0, R1, R2, R3, R4, R5, R6, R7, R8, R9, VOp.fresh, bxC, bsC, R10, un, most, callsOf, List.contains_nil, List.contains_cons, beq_iff_eq, List.getElem?_cons_zero, List.getElem?_cons_succ, seval, Option.map_none, Int.reducePow, ↓reduceIte, Nat.reduceEqDiff, reduceCtorEq, and_self]
    · show Lk _ _ _ _
      simp only [Lk, wanted, R0, R1, R2, R3, R4, R5, R6, R7, R8, R9, VOp.fresh, bxC, bsC, R10, un, most, callsOf, List.contains_nil, List.contains_cons, beq_iff_eq, List.getElem?_cons_zero, List.getElem?_cons_succ, seval, Option.map_none, Int.reducePow, ↓reduceIte, Nat.reduceEqDiff, reduceCtorEq, and_self]
    · show Lk _ _ _ _
      simp only [Lk, wanted, R0, R1, R2, R3, R4, R5, R6, R7, R8, R9, VOp.fresh, bxC, bsC, R10, un, most, callsOf, List.contains_nil, List.contains_cons, beq_iff_eq, List.getElem?_cons_zero, List.getElem?_cons_succ, seval, Option.map_none, Int.reducePow, ↓reduceIte, Nat.reduceEqDiff, reduceCtorEq, and_self]
    refine ih (i + 1) (tc ++ _) _ H3 k Q (by omega) (by omega) ?_ (hc.take (by omega) ho) ?_ ?_ ?_
    · simp only [sg_set, Nat.reduceEqDiff, ↓reduceIte]
      exact r3
    · simp only [h0, sg_set, Nat.reduceEqDiff, ↓reduceIte]
    · simp only [sg_set, Nat.reduceEqDiff, ↓reduceIte]
    · intro s' h' tc' q1 q2 q3 q4
      exact hQ s' h' tc' q1 q2 (fun b hb => (q3 b hb).trans (kk3 b hb)) q4
theorem copyOps_cl (g : Pg P tab) {os : List Op} {w : AV} (hw : IsL 112 ROp w os) {h : Heap} {Q : AV → Heap → Prop}
    (q : ∀ v t h', Lv h' (h.next ≤ ·) v t → IsL 112 ROp t os → v.cells = some [v] → v.one = true → Ext h h' → Q v h') : Cl P 13 [w] h Q := by
  refine g.cl (vf := v13) rfl rfl ?_
  simp only [v13, R0, R1, R2, R3, R4, R5, R6, R7, R8, R9, VOp.fresh, bxC, bsC, R10, un, most, callsOf, List.contains_nil, List.contains_cons, beq_iff_eq, List.getElem?_cons_zero, List.getElem?_cons_succ, seval, Option.map_none, Int.reducePow, ↓reduceIte, Nat.reduceEqDiff, reduceCtorEq, and_self]
  refine cp_ops g hw (N0 := h.next) os.length 0 [] _ h _ _ (by omega) (Nat.le_refl _) ?_ .nil ?_ ?_ ?_
  · simp only [sg_set, Nat.reduceEqDiff, ↓reduceIte]
    exact .nil _ _ _
  · simp only [sg_set, Nat.reduceEqDiff, ↓reduceIte]
  · simp only [sg_set, Nat.reduceEqDiff, ↓reduceIte]
    rfl
  intro s' h' tc r hc hk hn
  simp only [R0, R1, R2, R3, R4, R5, R6, R7, R8, R9, VOp.fresh, bxC, bsC, R10, un, most, callsOf, List.contains_nil, List.contains_cons, beq_iff_eq, List.getElem?_cons_zero, List.getElem?_cons_succ, seval, Option.map_none, Int.reducePow, ↓reduceIte, Nat.reduceEqDiff, reduceCtorEq, and_self]
  exact q _ (cRow tc os.length) _ r.lv (row_isL hw.1 hc) r.cells r.one ⟨hn, hk⟩
end
end Go.Proofs.Ytinonmcnofjeeaa.VM
