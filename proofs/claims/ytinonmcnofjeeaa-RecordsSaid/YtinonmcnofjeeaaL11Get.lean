/- The program's Get: bytes that are a record's are read as it; all others are none. -/
import Derived.Test.YtinonmcnofjeeaaL11Rdo
namespace Go.Proofs.Ytinonmcnofjeeaa.VM
set_option linter.unusedSimpArgs false
set_option linter.unusedVariables false
set_option linter.defProp false
set_option maxHeartbeats 1000000
attribute [local irreducible] Af Nx EvO Ev Un Gd Cd EvR EvQ EvC Nc Gc Lp EvM NxM AfM GdM EvMR EvMQ EvMD EvMC Nm Gm
def getOk (s : List Nat) : Prop := recOk (rdRc s) ∧ recB (rdRc s) = s ∧ s.length ≤ 8192
theorem getOk_of {s : List Nat} {r : Rc} (h : recOk r) (e : recB r = s) (hl : s.length ≤ 8192) : getOk s ∧ rdRc s = r := by
  have := rdRc_put h
  rw [e] at this
  exact ⟨⟨by rw [this]; exact h, by rw [this]; exact e, hl⟩, this⟩
abbrev zRc : List AV := [.int .i64 0, .int .i64 0, .int .i64 0, .int .i64 0, .bool false, .int .i64 0, .nils, .nils, .nils]
theorem lv_opsL {h : Heap} {B : Nat → Prop} {v : AV} {l : List Op} (r : LR h B v 8 ((l.map cOpL).flatten) l.length) : Lv h B v (cOpsL l) := r.lv
theorem Lvs.cells9 {h : Heap} {B : Nat → Prop} {r : Rc} {sv ov w : AV} (b : Lv h B sv (cInts r.m.starts)) (c : Lv h B ov (cInts r.m.owners)) (d : Lv h B w (cOpsL r.ops)) :
    Lvs h B [.int .i64 r.kind, .int .i64 r.node, .int .i64 r.seq, .int .i64 r.base, .bool r.commit, .int .i64 r.m.epoch, sv, ov, w] (cRc r) :=
  .cons .int (.cons .int (.cons .int (.cons .int (.cons .bool (.cons .int (.cons b (.cons c (.cons d .nil))))))))
theorem Lv.put {h : Heap} {B : Nat → Prop} {x y : AV} (l : Lv h B x y) {b : Nat} (hb : ¬ B b) (o : Blk) : Lv (h.put b o) B x y := l.frame (by rw [put_next]; exact Nat.le_refl _) fun c hc _ => by rw [Heap.get_put, if_neg (show ¬ c = b from fun e => hb (e ▸ hc))]
theorem Lvs.put {h : Heap} {B : Nat → Prop} {x y : List AV} (l : Lvs h B x y) {b : Nat} (hb : ¬ B b) (o : Blk) : Lvs (h.put b o) B x y := l.frame (by rw [put_next]; exact Nat.le_refl _) fun c hc _ => by rw [Heap.get_put, if_neg (show ¬ c = b from fun e => hb (e ▸ hc))]
section
variable {P : Program}
theorem rd_ops (g : Pg P tab) {rb : Nat} {t : List Nat} {h : Heap} (rp : RP rb t h) {Q : AV → Heap → Prop} (q : ∀ v h', LR h' (h.next ≤ ·) v 8 (((rdOps (rdN 4 t).2).1.map cOpL).flatten) (rdOps (rdN 4 t).2).1.length → RP rb (rdOps (rdN 4 t).2).2 h' → ExtX rb h h' → Q (.tup [.int .i64 ((rdN 4 t).1 - 1), v]) h') : Cl P 60 [.ptr rb 0] h Q := by
  refine g.cl (vf := v60) rfl rfl ?_
  simp only [v60, R0, R1, R2, R3, R4, R5, R6, R7, R8, R9, VOp.fresh, bxC, bsC, R10, un, most, callsOf, List.contains_nil, List.contains_cons, beq_iff_eq, List.getElem?_cons_zero, List.getElem?_cons_succ, seval, Option.map_none, Int.reducePow, ↓reduceIte, Nat.reduceEqDiff, reduceCtorEq, and_self]
  refine rnum_cl g (N := 4) (by decide) rp fun h2 rp2 x2 => ?_
  have hb4 := rdN_le (n := 4) (by decide) rp.2.1
  have w1 : IntKind.i64.wrap ((rdN 4 t).1 - 1) = (rdN 4 t).1 - 1 := w64 (by omega) (by omega)
  simp only [w1, R0, R1, R2, R3, R4, R5, R6, R7, R8, R9, VOp.fresh, bxC, bsC, R10, un, most, callsOf, List.contains_nil, List.contains_cons, beq_iff_eq, List.getElem?_cons_zero, List.getElem?_cons_succ, seval, Option.map_none, Int.reducePow, ↓reduceIte, Nat.reduceEqDiff, reduceCtorEq, and_self]
  refine rnum_cl g (N := 1) (by decide) rp2 fun h3 rp3 x3 => ?_
  have hk := rdN1_le rp2.2.1
  have hk0 := (rdN_le (n := 1) (by decide) rp2.2.1).1
  obtain ⟨m, hm⟩ : ∃ m : Nat, (rdN 1 (rdN 4 t).2).1 = (m : Int) := ⟨(rdN 1 (rdN 4 t).2).1.toNat, by omega⟩
  simp only [hm, R0, R1, R2, R3, R4, R5, R6, R7, R8, R9, VOp.fresh, bxC, bsC, R10, un, most, callsOf, List.contains_nil, List.contains_cons, beq_iff_eq, List.getElem?_cons_zero, List.getElem?_cons_succ, seval, Option.map_none, Int.reducePow, ↓reduceIte, Nat.reduceEqDiff, reduceCtorEq, and_self]
  refine rd_opsl g (H0 := h3) rp3.1 m [] _ _ h3 _ _ (by simp; omega) ?_ rp3 ExtX.refl ?_ ?_ ?_ ?_
  · simp only [sg_set, Nat.reduceEqDiff, ↓reduceIte]
    exact .nil _ _ _
  · simp only [sg_set, Nat.reduceEqDiff, ↓reduceIte]
  · simp only [sg_set, Nat.reduceEqDiff, ↓reduceIte]
    simp
  · simp only [sg_set, Nat.reduceEqDiff, ↓reduceIte]
    rfl
  intro s' h4 r4 rp4 x4 a4
  simp only [sg_set, Nat.reduceEqDiff, ↓reduceIte] at a4
  have e2 := x2.next
  have e3 := x3.next
  have er : rdOps (rdN 4 t).2 = rep rdOp m (rdN 1 (rdN 4 t).2).2 := by rw [rdOps, hm, Int.toNat_natCast]
  simp only [a4, R0, R1, R2, R3, R4, R5, R6, R7, R8, R9, VOp.fresh, bxC, bsC, R10, un, most, callsOf, List.contains_nil, List.contains_cons, beq_iff_eq, List.getElem?_cons_zero, List.getElem?_cons_succ, seval, Option.map_none, Int.reducePow, ↓reduceIte, Nat.reduceEqDiff, reduceCtorEq, and_self]
  refine q _ _ ?_ (by rw [er]; exact rp4) ((x2.x.trans x3.x).trans x4)
  rw [er]
  rw [List.nil_append, show ([] : List Op).length + m = (rep rdOp m (rdN 1 (rdN 4 t).2).2).1.length by rw [rep_len]; simp] at r4
  exact r4.weak fun b hb _ => by omega
theorem rec_get (g : Pg P tab) {s : List Nat} (hby : By s) (hsl : s.length < 4611686018427387904) {h : Heap} {Q : AV → Heap → Prop} (q1 : getOk s → ∀ c h', Lvs h' (h.next ≤ ·) c (cRc (rdRc s)) → c.length = 9 → Ext h h' → Q (.tup [.agg c, .int .i64 0]) h')
    (q2 : ¬ getOk s → ∀ h', Ext h h' → Q (.tup [.agg zRc, .int .i64 1100]) h') : Cl P 17 [.str s] h Q := by
  refine g.cl (vf := v17) rfl rfl ?_
  have x1 := Ext.mk (h := h) (.cells zRc 29 0)
  have n1 : (h.mk' h.next (.cells zRc 29 0)).next = h.next + 1 := by rw [mk_next]; omega
  have x2 := Ext.mk (h := h.mk' h.next (.cells zRc 29 0)) (.cells [.str s] 118 0)
  rw [n1] at x2
  have n2 : ((h.mk' h.next (.cells zRc 29 0)).mk' (h.next + 1) (.cells [.str s] 118 0)).next = h.next + 2 := by rw [mk_next, n1]; omega
  have g2 : ((h.mk' h.next (.cells zRc 29 0)).mk' (h.next + 1) (.cells [.str s] 118 0)).get h.next = some (.cells zRc 29 0) := by rw [Heap.get_mk, if_neg (by omega), Heap.get_mk, if_pos rfl]
  have rp2 : RP (h.next + 1) s ((h.mk' h.next (.cells zRc 29 0)).mk' (h.next + 1) (.cells [.str s] 118 0)) := ⟨by omega, hby, hsl, 118, 0, by rw [Heap.get_mk, if_pos rfl]⟩
  have xe := x1.trans x2
  simp only [v17, R0, R1, R2, R3, R4, R5, R6, R7, R8, R9, VOp.fresh, bxC, bsC, R10, un, most, callsOf, List.contains_nil, List.contains_cons, beq_iff_eq, List.getElem?_cons_zero, List.getElem?_cons_succ, seval, Option.map_none, Int.reducePow, ↓reduceIte, Nat.reduceEqDiff, reduceCtorEq, and_self]
  generalize (h.mk' h.next (.cells zRc 29 0)).mk' (h.next + 1) (.cells [.str s] 118 0) = h2 at *
  refine rnum_cl g (N := 1) (by decide) rp2 fun h3 rp3 y3 => ?_
  have e3 := y3.next
  have g3 := (y3.keep h.next (by omega)).trans g2
  have n4 : ((h3.mk' h3.next (.cells zRc 29 0)).put h3.next (.cells [.int .i64 (rdN 1 s).1, .int .i64 0, .int .i64 0, .int .i64 0, .bool false, .int .i64 0, .nils, .nils, .nils] 29 1)).next = h3.next + 1 := by rw [put_next, mk_next]; omega
  have x4 : Ext h3 ((h3.mk' h3.next (.cells zRc 29 0)).put h3.next (.cells [.int .i64 (rdN 1 s).1, .int .i64 0, .int .i64 0, .int .i64 0, .bool false, .int .i64 0, .nils, .nils, .nils] 29 1)) := ⟨by omega, fun b hb => by rw [Heap.get_put, if_neg (by omega), Heap.get_mk, if_neg (by omega)]⟩
  have g4 : ((h3.mk' h3.next (.cells zRc 29 0)).put h3.next (.cells [.int .i64 (rdN 1 s).1, .int .i64 0, .int .i64 0, .int .i64 0, .bool false, .int .i64 0, .nils, .nils, .nils] 29 1)).get h3.next = some (.cells [.int .i64 (rdN 1 s).1, .int .i64 0, .int .i64 0, .int .i64 0, .bool false, .int .i64 0, .nils, .nils, .nils] 29 1) := by rw [Heap.get_put, if_pos rfl]
  have g4b := (x4.2 h.next (by omega)).trans g3
  have rp4 := rp3.frame x4.1 (x4.2 (h.next + 1) rp3.1)
  simp only [RW, R0, R1, R2, R3, R4, R5, R6, R7, R8, R9, VOp.fresh, bxC, bsC, R10, un, most, callsOf, List.contains_nil, List.contains_cons, beq_iff_eq, List.getElem?_cons_zero, List.getElem?_cons_succ, seval, Option.map_none, Int.reducePow, ↓reduceIte, Nat.reduceEqDiff, reduceCtorEq, and_self]
  generalize (h3.mk' h3.next (.cells zRc 29 0)).put h3.next (.cells [.int .i64 (rdN 1 s).1, .int .i64 0, .int .i64 0, .int .i64 0, .bool false, .int .i64 0, .nils, .nils, .nils] 29 1) = h4 at *
  have x4' : ExtX (h.next + 1) h2 h4 := y3.x.trans x4.x
  have xh : ∀ h', ExtX (h.next + 1) h2 h' → Ext h h' := fun h' x => ⟨by have := x.1; omega, fun b hb => (x.2 b (by omega) (by omega)).trans (xe.2 b hb)⟩
  have sm := rdRc_sm hby
  have hrc := cRc_is sm
  have ans : ∀ {c : List AV} {h' : Heap} {Q' : AV → Heap → Prop}, Lvs h' (h.next < ·) c (cRc (rdRc s)) → (getOk s → Q' (.tup [.str s, .int .i64 0]) h') → (¬ getOk s → recOk (rdRc s) → recB (rdRc s) ≠ s → Q' (.tup [.str (recB (rdRc s)), .int .i64 0]) h') → (¬ getOk s → Q' (.tup [.str [], .int .i64 1100]) h') → Cl P 15 [.agg c] h' Q' := by
    intro c h' Q' l a1 a2 a3
    have hf : Fzs true h' [.agg c] [.agg (cRc (rdRc s))] := .cons (.agg l.fzs) .nil
    by_cases ok : recOk (rdRc s)
    · refine (put_good g hrc ok).cl hf ?_
      rintro v rfl
      unfold putAns
      by_cases hl : (recB (rdRc s)).length ≤ 8192
      · rw [if_pos hl]
        by_cases hs : recB (rdRc s) = s
        · have := a1 ⟨ok, hs, by rw [← hs]; exact hl⟩
          rwa [hs]
        · exact a2 (fun hg => hs hg.2.1) ok hs
      · rw [if_neg hl]
        exact a3 fun hg => hl (by rw [hg.2.1]; exact hg.2.2)
    · refine (put_bad g hrc ok).cl hf ?_
      rintro v rfl
      exact a3 fun hg => ok hg.1
  have hk0 := (rdN_le (n := 1) (by decide) hby).1
  have hne3 : ¬ h.next = h3.next := by omega
  by_cases k0 : (rdN 1 s).1 = 0
  · rw [k0] at g4
    simp only [g4, k0, R0, R1, R2, R3, R4, R5, R6, R7, R8, R9, VOp.fresh, bxC, bsC, R10, un, most, callsOf, List.contains_nil, List.contains_cons, beq_iff_eq, List.getElem?_cons_zero, List.getElem?_cons_succ, seval, Option.map_none, Int.reducePow, ↓reduceIte, Nat.reduceEqDiff, reduceCtorEq, and_self]
    refine rd_map g rp4 fun sv ov hl r5 r6 rp5 x5 => ?_
    have g5 := (x5.2 h3.next (by omega) (by omega)).trans g4
    have gz0 := (x5.2 h.next (by omega) (by omega)).trans g4b
    have xl := x4'.trans x5
    simp only [g5, RW, r5.one, r6.one, R0, R1, R2, R3, R4, R5, R6, R7, R8, R9, VOp.fresh, bxC, bsC, R10, un, most, callsOf, List.contains_nil, List.contains_cons, beq_iff_eq, List.getElem?_cons_zero, List.getElem?_cons_succ, seval, Option.map_none, Int.reducePow, ↓reduceIte, Nat.reduceEqDiff, reduceCtorEq, and_self]
    have er : rdRc s = ⟨0, 0, 0, 0, false, (rdMp (rdN 1 s).2).1, []⟩ := by rw [rdRc]; simp only [k0, if_true, if_false, or_self, or_true, true_or, or_false, false_or]

    have cl : Lvs (hl.put h3.next (.cells [.int .i64 0, .int .i64 0, .int .i64 0, .int .i64 0, .bool false, .int .i64 (rdMp (rdN 1 s).2).1.epoch, sv, ov, .nils] 29 2)) (h.next < ·) [.int .i64 0, .int .i64 0, .int .i64 0, .int .i64 0, .bool false, .int .i64 (rdMp (rdN 1 s).2).1.epoch, sv, ov, .nils] (cRc (rdRc s)) := by
      rw [er]
      exact Lvs.cells9 (r := ⟨0, 0, 0, 0, false, (rdMp (rdN 1 s).2).1, []⟩) ((((lv_ints r5).weak (B' := fun b => h.next < b ∧ b ≠ h3.next) fun b hb _ => ⟨by omega, by omega⟩).put (fun e => e.2 rfl) _).weak fun b hb _ => hb.1) ((((lv_ints r6).weak (B' := fun b => h.next < b ∧ b ≠ h3.next) fun b hb _ => ⟨by omega, by omega⟩).put (fun e => e.2 rfl) _).weak fun b hb _ => hb.1) .nils
    have gr : (hl.put h3.next (.cells [.int .i64 0, .int .i64 0, .int .i64 0, .int .i64 0, .bool false, .int .i64 (rdMp (rdN 1 s).2).1.epoch, sv, ov, .nils] 29 2)).get h3.next = some (.cells [.int .i64 0, .int .i64 0, .int .i64 0, .int .i64 0, .bool false, .int .i64 (rdMp (rdN 1 s).2).1.epoch, sv, ov, .nils] 29 2) := by simp only [Heap.get_put, if_true]
    have gz : (hl.put h3.next (.cells [.int .i64 0, .int .i64 0, .int .i64 0, .int .i64 0, .bool false, .int .i64 (rdMp (rdN 1 s).2).1.epoch, sv, ov, .nils] 29 2)).get h.next = some (.cells zRc 29 0) := by
      simp only [Heap.get_put, hne3, if_false]
      exact gz0
    have nx : (hl.put h3.next (.cells [.int .i64 0, .int .i64 0, .int .i64 0, .int .i64 0, .bool false, .int .i64 (rdMp (rdN 1 s).2).1.epoch, sv, ov, .nils] 29 2)).next = hl.next := rfl
    have kx : ∀ b, b < h.next → (hl.put h3.next (.cells [.int .i64 0, .int .i64 0, .int .i64 0, .int .i64 0, .bool false, .int .i64 (rdMp (rdN 1 s).2).1.epoch, sv, ov, .nils] 29 2)).get b = h.get b := fun b hb => by
      have hb3 : ¬ b = h3.next := by omega
      simp only [Heap.get_put, hb3, if_false]
      exact (xh _ xl).2 b hb
    generalize hh9 : hl.put h3.next (.cells [.int .i64 0, .int .i64 0, .int .i64 0, .int .i64 0, .bool false, .int .i64 (rdMp (rdN 1 s).2).1.epoch, sv, ov, .nils] 29 2) = h9 at *
    have xn : h.next ≤ h9.next := by rw [nx]; exact (xh _ xl).1
    refine ans cl (fun ok => ?_) (fun no _ hne => ?_) fun no => ?_
    · simp only [gz, gr, RW, r5.one, r6.one, R0, R1, R2, R3, R4, R5, R6, R7, R8, R9, VOp.fresh, bxC, bsC, R10, un, most, callsOf, List.contains_nil, List.contains_cons, beq_iff_eq, List.getElem?_cons_zero, List.getElem?_cons_succ, seval, Option.map_none, Int.reducePow, ↓reduceIte, Nat.reduceEqDiff, reduceCtorEq, and_self]
      exact q1 ok _ _ ((cl.put (Nat.lt_irrefl _) _).weak fun b hb _ => Nat.le_of_lt hb) rfl ⟨xn, fun b hb => by rw [Heap.get_put, if_neg (by omega)]; exact kx b hb⟩
    · simp only [gz, gr, RW, hne, R0, R1, R2, R3, R4, R5, R6, R7, R8, R9, VOp.fresh, bxC, bsC, R10, un, most, callsOf, List.contains_nil, List.contains_cons, beq_iff_eq, List.getElem?_cons_zero, List.getElem?_cons_succ, seval, Option.map_none, Int.reducePow, ↓reduceIte, Nat.reduceEqDiff, reduceCtorEq, and_self]
      exact q2 no _ ⟨xn, fun b hb => by rw [Heap.get_put, if_neg (by omega)]; exact kx b hb⟩
    · simp only [gz, gr, RW, R0, R1, R2, R3, R4, R5, R6, R7, R8, R9, VOp.fresh, bxC, bsC, R10, un, most, callsOf, List.contains_nil, List.contains_cons, beq_iff_eq, List.getElem?_cons_zero, List.getElem?_cons_succ, seval, Option.map_none, Int.reducePow, ↓reduceIte, Nat.reduceEqDiff, reduceCtorEq, and_self]
      exact q2 no _ ⟨xn, fun b hb => by rw [Heap.get_put, if_neg (by omega)]; exact kx b hb⟩
  · simp only [g4, k0, R0, R1, R2, R3, R4, R5, R6, R7, R8, R9, VOp.fresh, bxC, bsC, R10, un, most, callsOf, List.contains_nil, List.contains_cons, beq_iff_eq, List.getElem?_cons_zero, List.getElem?_cons_succ, seval, Option.map_none, Int.reducePow, ↓reduceIte, Nat.reduceEqDiff, reduceCtorEq, and_self]
    refine rd_name g rp4 fun h5 rp5 x5 => ?_
    have g5 := (x5.2 h3.next (by omega) (by omega)).trans g4
    have gz5 := (x5.2 h.next (by omega) (by omega)).trans g4b
    have x5' := x4'.trans x5
    have g6 : (h5.put h3.next (.cells [.int .i64 (rdN 1 s).1, .int .i64 (rdN 1 (rdN 1 s).2).1, .int .i64 (rdN 2 (rdN 1 (rdN 1 s).2).2).1, .int .i64 0, .bool false, .int .i64 0, .nils, .nils, .nils] 29 2)).get h3.next = some (.cells [.int .i64 (rdN 1 s).1, .int .i64 (rdN 1 (rdN 1 s).2).1, .int .i64 (rdN 2 (rdN 1 (rdN 1 s).2).2).1, .int .i64 0, .bool false, .int .i64 0, .nils, .nils, .nils] 29 2) := by rw [Heap.get_put, if_pos rfl]
    have gz6 : (h5.put h3.next (.cells [.int .i64 (rdN 1 s).1, .int .i64 (rdN 1 (rdN 1 s).2).1, .int .i64 (rdN 2 (rdN 1 (rdN 1 s).2).2).1, .int .i64 0, .bool false, .int .i64 0, .nils, .nils, .nils] 29 2)).get h.next = some (.cells zRc 29 0) := by rw [Heap.get_put, if_neg hne3]; exact gz5
    have rp6 : RP (h.next + 1) (rdN 2 (rdN 1 (rdN 1 s).2).2).2 (h5.put h3.next (.cells [.int .i64 (rdN 1 s).1, .int .i64 (rdN 1 (rdN 1 s).2).1, .int .i64 (rdN 2 (rdN 1 (rdN 1 s).2).2).1, .int .i64 0, .bool false, .int .i64 0, .nils, .nils, .nils] 29 2)) := by
      refine rp5.frame ?_ ?_
      · exact Nat.le_refl _
      · rw [Heap.get_put, if_neg (by omega)]
    have x6 : ExtX (h.next + 1) h2 (h5.put h3.next (.cells [.int .i64 (rdN 1 s).1, .int .i64 (rdN 1 (rdN 1 s).2).1, .int .i64 (rdN 2 (rdN 1 (rdN 1 s).2).2).1, .int .i64 0, .bool false, .int .i64 0, .nils, .nils, .nils] 29 2)) := x5'.put' (by omega) _
    have n6 : (h5.put h3.next (.cells [.int .i64 (rdN 1 s).1, .int .i64 (rdN 1 (rdN 1 s).2).1, .int .i64 (rdN 2 (rdN 1 (rdN 1 s).2).2).1, .int .i64 0, .bool false, .int .i64 0, .nils, .nils, .nils] 29 2)).next = h5.next := rfl
    have n5 := x5.1
    simp only [g5, RW, R0, R1, R2, R3, R4, R5, R6, R7, R8, R9, VOp.fresh, bxC, bsC, R10, un, most, callsOf, List.contains_nil, List.contains_cons, beq_iff_eq, List.getElem?_cons_zero, List.getElem?_cons_succ, seval, Option.map_none, Int.reducePow, ↓reduceIte, Nat.reduceEqDiff, reduceCtorEq, and_self]
    generalize h5.put h3.next (.cells [.int .i64 (rdN 1 s).1, .int .i64 (rdN 1 (rdN 1 s).2).1, .int .i64 (rdN 2 (rdN 1 (rdN 1 s).2).2).1, .int .i64 0, .bool false, .int .i64 0, .nils, .nils, .nils] 29 2) = h6 at *
    by_cases k12 : (rdN 1 s).1 = 1 ∨ (rdN 1 s).1 = 2
    · rcases k12 with k1 | k2
      · rw [k1] at g6
        simp only [g6, k1, R0, R1, R2, R3, R4, R5, R6, R7, R8, R9, VOp.fresh, bxC, bsC, R10, un, most, callsOf, List.contains_nil, List.contains_cons, beq_iff_eq, List.getElem?_cons_zero, List.getElem?_cons_succ, seval, Option.map_none, Int.reducePow, ↓reduceIte, Nat.reduceEqDiff, reduceCtorEq, and_self]
        refine rd_ops g rp6 fun w hl r7 rp7 x7 => ?_
        have g7 := (x7.2 h3.next (by omega) (by omega)).trans g6
        have gz0 := (x7.2 h.next (by omega) (by omega)).trans gz6
        have xl := x6.trans x7
        simp only [g7, RW, r7.one, r7.cells, R0, R1, R2, R3, R4, R5, R6, R7, R8, R9, VOp.fresh, bxC, bsC, R10, un, most, callsOf, List.contains_nil, List.contains_cons, beq_iff_eq, List.getElem?_cons_zero, List.getElem?_cons_succ, seval, Option.map_none, Int.reducePow, ↓reduceIte, Nat.reduceEqDiff, reduceCtorEq, and_self]
        have er : rdRc s = ⟨1, (rdN 1 (rdN 1 s).2).1, (rdN 2 (rdN 1 (rdN 1 s).2).2).1, (rdN 4 (rdN 2 (rdN 1 (rdN 1 s).2).2).2).1 - 1, false, ⟨0, [], []⟩, (rdOps (rdN 4 (rdN 2 (rdN 1 (rdN 1 s).2).2).2).2).1⟩ := by rw [rdRc]; simp only [k1, Int.one_ne_zero, Int.reduceEq, if_true, if_false, or_self, or_true, true_or, or_false, false_or]

        have cl : Lvs ((hl.put h3.next (.cells [.int .i64 1, .int .i64 (rdN 1 (rdN 1 s).2).1, .int .i64 (rdN 2 (rdN 1 (rdN 1 s).2).2).1, .int .i64 ((rdN 4 (rdN 2 (rdN 1 (rdN 1 s).2).2).2).1 - 1), .bool false, .int .i64 0, .nils, .nils, .nils] 29 3)).put h3.next (.cells [.int .i64 1, .int .i64 (rdN 1 (rdN 1 s).2).1, .int .i64 (rdN 2 (rdN 1 (rdN 1 s).2).2).1, .int .i64 ((rdN 4 (rdN 2 (rdN 1 (rdN 1 s).2).2).2).1 - 1), .bool false, .int .i64 0, .nils, .nils, w] 29 4)) (h.next < ·) [.int .i64 1, .int .i64 (rdN 1 (rdN 1 s).2).1, .int .i64 (rdN 2 (rdN 1 (rdN 1 s).2).2).1, .int .i64 ((rdN 4 (rdN 2 (rdN 1 (rdN 1 s).2).2).2).1 - 1), .bool false, .int .i64 0, .nils, .nils, w] (cRc (rdRc s)) := by
          rw [er]
          exact Lvs.cells9 (r := ⟨1, (rdN 1 (rdN 1 s).2).1, (rdN 2 (rdN 1 (rdN 1 s).2).2).1, (rdN 4 (rdN 2 (rdN 1 (rdN 1 s).2).2).2).1 - 1, false, ⟨0, [], []⟩, (rdOps (rdN 4 (rdN 2 (rdN 1 (rdN 1 s).2).2).2).2).1⟩) .nils .nils (((((lv_opsL r7).weak (B' := fun b => h.next < b ∧ b ≠ h3.next) fun b hb _ => ⟨by omega, by omega⟩).put (fun e => e.2 rfl) _).put (fun e => e.2 rfl) _).weak fun b hb _ => hb.1)
        have gr : ((hl.put h3.next (.cells [.int .i64 1, .int .i64 (rdN 1 (rdN 1 s).2).1, .int .i64 (rdN 2 (rdN 1 (rdN 1 s).2).2).1, .int .i64 ((rdN 4 (rdN 2 (rdN 1 (rdN 1 s).2).2).2).1 - 1), .bool false, .int .i64 0, .nils, .nils, .nils] 29 3)).put h3.next (.cells [.int .i64 1, .int .i64 (rdN 1 (rdN 1 s).2).1, .int .i64 (rdN 2 (rdN 1 (rdN 1 s).2).2).1, .int .i64 ((rdN 4 (rdN 2 (rdN 1 (rdN 1 s).2).2).2).1 - 1), .bool false, .int .i64 0, .nils, .nils, w] 29 4)).get h3.next = some (.cells [.int .i64 1, .int .i64 (rdN 1 (rdN 1 s).2).1, .int .i64 (rdN 2 (rdN 1 (rdN 1 s).2).2).1, .int .i64 ((rdN 4 (rdN 2 (rdN 1 (rdN 1 s).2).2).2).1 - 1), .bool false, .int .i64 0, .nils, .nils, w] 29 4) := by simp only [Heap.get_put, if_true]
        have gz : ((hl.put h3.next (.cells [.int .i64 1, .int .i64 (rdN 1 (rdN 1 s).2).1, .int .i64 (rdN 2 (rdN 1 (rdN 1 s).2).2).1, .int .i64 ((rdN 4 (rdN 2 (rdN 1 (rdN 1 s).2).2).2).1 - 1), .bool false, .int .i64 0, .nils, .nils, .nils] 29 3)).put h3.next (.cells [.int .i64 1, .int .i64 (rdN 1 (rdN 1 s).2).1, .int .i64 (rdN 2 (rdN 1 (rdN 1 s).2).2).1, .int .i64 ((rdN 4 (rdN 2 (rdN 1 (rdN 1 s).2).2).2).1 - 1), .bool false, .int .i64 0, .nils, .nils, w] 29 4)).get h.next = some (.cells zRc 29 0) := by
          simp only [Heap.get_put, hne3, if_false]
          exact gz0
        have nx : ((hl.put h3.next (.cells [.int .i64 1, .int .i64 (rdN 1 (rdN 1 s).2).1, .int .i64 (rdN 2 (rdN 1 (rdN 1 s).2).2).1, .int .i64 ((rdN 4 (rdN 2 (rdN 1 (rdN 1 s).2).2).2).1 - 1), .bool false, .int .i64 0, .nils, .nils, .nils] 29 3)).put h3.next (.cells [.int .i64 1, .int .i64 (rdN 1 (rdN 1 s).2).1, .int .i64 (rdN 2 (rdN 1 (rdN 1 s).2).2).1, .int .i64 ((rdN 4 (rdN 2 (rdN 1 (rdN 1 s).2).2).2).1 - 1), .bool false, .int .i64 0, .nils, .nils, w] 29 4)).next = hl.next := rfl
        have kx : ∀ b, b < h.next → ((hl.put h3.next (.cells [.int .i64 1, .int .i64 (rdN 1 (rdN 1 s).2).1, .int .i64 (rdN 2 (rdN 1 (rdN 1 s).2).2).1, .int .i64 ((rdN 4 (rdN 2 (rdN 1 (rdN 1 s).2).2).2).1 - 1), .bool false, .int .i64 0, .nils, .nils, .nils] 29 3)).put h3.next (.cells [.int .i64 1, .int .i64 (rdN 1 (rdN 1 s).2).1, .int .i64 (rdN 2 (rdN 1 (rdN 1 s).2).2).1, .int .i64 ((rdN 4 (rdN 2 (rdN 1 (rdN 1 s).2).2).2).1 - 1), .bool false, .int .i64 0, .nils, .nils, w] 29 4)).get b = h.get b := fun b hb => by
          have hb3 : ¬ b = h3.next := by omega
          simp only [Heap.get_put, hb3, if_false]
          exact (xh _ xl).2 b hb
        generalize hh9 : (hl.put h3.next (.cells [.int .i64 1, .int .i64 (rdN 1 (rdN 1 s).2).1, .int .i64 (rdN 2 (rdN 1 (rdN 1 s).2).2).1, .int .i64 ((rdN 4 (rdN 2 (rdN 1 (rdN 1 s).2).2).2).1 - 1), .bool false, .int .i64 0, .nils, .nils, .nils] 29 3)).put h3.next (.cells [.int .i64 1, .int .i64 (rdN 1 (rdN 1 s).2).1, .int .i64 (rdN 2 (rdN 1 (rdN 1 s).2).2).1, .int .i64 ((rdN 4 (rdN 2 (rdN 1 (rdN 1 s).2).2).2).1 - 1), .bool false, .int .i64 0, .nils, .nils, w] 29 4) = h9 at *
        have xn : h.next ≤ h9.next := by rw [nx]; exact (xh _ xl).1
        refine ans cl (fun ok => ?_) (fun no _ hne => ?_) fun no => ?_
        · simp only [gz, gr, RW, r7.one, R0, R1, R2, R3, R4, R5, R6, R7, R8, R9, VOp.fresh, bxC, bsC, R10, un, most, callsOf, List.contains_nil, List.contains_cons, beq_iff_eq, List.getElem?_cons_zero, List.getElem?_cons_succ, seval, Option.map_none, Int.reducePow, ↓reduceIte, Nat.reduceEqDiff, reduceCtorEq, and_self]
          exact q1 ok _ _ ((cl.put (Nat.lt_irrefl _) _).weak fun b hb _ => Nat.le_of_lt hb) rfl ⟨xn, fun b hb => by rw [Heap.get_put, if_neg (by omega)]; exact kx b hb⟩
        · simp only [gz, gr, RW, hne, R0, R1, R2, R3, R4, R5, R6, R7, R8, R9, VOp.fresh, bxC, bsC, R10, un, most, callsOf, List.contains_nil, List.contains_cons, beq_iff_eq, List.getElem?_cons_zero, List.getElem?_cons_succ, seval, Option.map_none, Int.reducePow, ↓reduceIte, Nat.reduceEqDiff, reduceCtorEq, and_self]
          exact q2 no _ ⟨xn, fun b hb => by rw [Heap.get_put, if_neg (by omega)]; exact kx b hb⟩
        · simp only [gz, gr, RW, R0, R1, R2, R3, R4, R5, R6, R7, R8, R9, VOp.fresh, bxC, bsC, R10, un, most, callsOf, List.contains_nil, List.contains_cons, beq_iff_eq, List.getElem?_cons_zero, List.getElem?_cons_succ, seval, Option.map_none, Int.reducePow, ↓reduceIte, Nat.reduceEqDiff, reduceCtorEq, and_self]
          exact q2 no _ ⟨xn, fun b hb => by rw [Heap.get_put, if_neg (by omega)]; exact kx b hb⟩
      · rw [k2] at g6
        simp only [g6, k2, R0, R1, R2, R3, R4, R5, R6, R7, R8, R9, VOp.fresh, bxC, bsC, R10, un, most, callsOf, List.contains_nil, List.contains_cons, beq_iff_eq, List.getElem?_cons_zero, List.getElem?_cons_succ, seval, Option.map_none, Int.reducePow, ↓reduceIte, Nat.reduceEqDiff, reduceCtorEq, and_self]
        refine rd_ops g rp6 fun w hl r7 rp7 x7 => ?_
        have g7 := (x7.2 h3.next (by omega) (by omega)).trans g6
        have gz0 := (x7.2 h.next (by omega) (by omega)).trans gz6
        have xl := x6.trans x7
        simp only [g7, RW, r7.one, r7.cells, R0, R1, R2, R3, R4, R5, R6, R7, R8, R9, VOp.fresh, bxC, bsC, R10, un, most, callsOf, List.contains_nil, List.contains_cons, beq_iff_eq, List.getElem?_cons_zero, List.getElem?_cons_succ, seval, Option.map_none, Int.reducePow, ↓reduceIte, Nat.reduceEqDiff, reduceCtorEq, and_self]
        have er : rdRc s = ⟨2, (rdN 1 (rdN 1 s).2).1, (rdN 2 (rdN 1 (rdN 1 s).2).2).1, (rdN 4 (rdN 2 (rdN 1 (rdN 1 s).2).2).2).1 - 1, false, ⟨0, [], []⟩, (rdOps (rdN 4 (rdN 2 (rdN 1 (rdN 1 s).2).2).2).2).1⟩ := by rw [rdRc]; simp only [k2, Int.one_ne_zero, Int.reduceEq, if_true, if_false, or_self, or_true, true_or, or_false, false_or]

        have cl : Lvs ((hl.put h3.next (.cells [.int .i64 2, .int .i64 (rdN 1 (rdN 1 s).2).1, .int .i64 (rdN 2 (rdN 1 (rdN 1 s).2).2).1, .int .i64 ((rdN 4 (rdN 2 (rdN 1 (rdN 1 s).2).2).2).1 - 1), .bool false, .int .i64 0, .nils, .nils, .nils] 29 3)).put h3.next (.cells [.int .i64 2, .int .i64 (rdN 1 (rdN 1 s).2).1, .int .i64 (rdN 2 (rdN 1 (rdN 1 s).2).2).1, .int .i64 ((rdN 4 (rdN 2 (rdN 1 (rdN 1 s).2).2).2).1 - 1), .bool false, .int .i64 0, .nils, .nils, w] 29 4)) (h.next < ·) [.int .i64 2, .int .i64 (rdN 1 (rdN 1 s).2).1, .int .i64 (rdN 2 (rdN 1 (rdN 1 s).2).2).1, .int .i64 ((rdN 4 (rdN 2 (rdN 1 (rdN 1 s).2).2).2).1 - 1), .bool false, .int .i64 0, .nils, .nils, w] (cRc (rdRc s)) := by
          rw [er]
          exact Lvs.cells9 (r := ⟨2, (rdN 1 (rdN 1 s).2).1, (rdN 2 (rdN 1 (rdN 1 s).2).2).1, (rdN 4 (rdN 2 (rdN 1 (rdN 1 s).2).2).2).1 - 1, false, ⟨0, [], []⟩, (rdOps (rdN 4 (rdN 2 (rdN 1 (rdN 1 s).2).2).2).2).1⟩) .nils .nils (((((lv_opsL r7).weak (B' := fun b => h.next < b ∧ b ≠ h3.next) fun b hb _ => ⟨by omega, by omega⟩).put (fun e => e.2 rfl) _).put (fun e => e.2 rfl) _).weak fun b hb _ => hb.1)
        have gr : ((hl.put h3.next (.cells [.int .i64 2, .int .i64 (rdN 1 (rdN 1 s).2).1, .int .i64 (rdN 2 (rdN 1 (rdN 1 s).2).2).1, .int .i64 ((rdN 4 (rdN 2 (rdN 1 (rdN 1 s).2).2).2).1 - 1), .bool false, .int .i64 0, .nils, .nils, .nils] 29 3)).put h3.next (.cells [.int .i64 2, .int .i64 (rdN 1 (rdN 1 s).2).1, .int .i64 (rdN 2 (rdN 1 (rdN 1 s).2).2).1, .int .i64 ((rdN 4 (rdN 2 (rdN 1 (rdN 1 s).2).2).2).1 - 1), .bool false, .int .i64 0, .nils, .nils, w] 29 4)).get h3.next = some (.cells [.int .i64 2, .int .i64 (rdN 1 (rdN 1 s).2).1, .int .i64 (rdN 2 (rdN 1 (rdN 1 s).2).2).1, .int .i64 ((rdN 4 (rdN 2 (rdN 1 (rdN 1 s).2).2).2).1 - 1), .bool false, .int .i64 0, .nils, .nils, w] 29 4) := by simp only [Heap.get_put, if_true]
        have gz : ((hl.put h3.next (.cells [.int .i64 2, .int .i64 (rdN 1 (rdN 1 s).2).1, .int .i64 (rdN 2 (rdN 1 (rdN 1 s).2).2).1, .int .i64 ((rdN 4 (rdN 2 (rdN 1 (rdN 1 s).2).2).2).1 - 1), .bool false, .int .i64 0, .nils, .nils, .nils] 29 3)).put h3.next (.cells [.int .i64 2, .int .i64 (rdN 1 (rdN 1 s).2).1, .int .i64 (rdN 2 (rdN 1 (rdN 1 s).2).2).1, .int .i64 ((rdN 4 (rdN 2 (rdN 1 (rdN 1 s).2).2).2).1 - 1), .bool false, .int .i64 0, .nils, .nils, w] 29 4)).get h.next = some (.cells zRc 29 0) := by
          simp only [Heap.get_put, hne3, if_false]
          exact gz0
        have nx : ((hl.put h3.next (.cells [.int .i64 2, .int .i64 (rdN 1 (rdN 1 s).2).1, .int .i64 (rdN 2 (rdN 1 (rdN 1 s).2).2).1, .int .i64 ((rdN 4 (rdN 2 (rdN 1 (rdN 1 s).2).2).2).1 - 1), .bool false, .int .i64 0, .nils, .nils, .nils] 29 3)).put h3.next (.cells [.int .i64 2, .int .i64 (rdN 1 (rdN 1 s).2).1, .int .i64 (rdN 2 (rdN 1 (rdN 1 s).2).2).1, .int .i64 ((rdN 4 (rdN 2 (rdN 1 (rdN 1 s).2).2).2).1 - 1), .bool false, .int .i64 0, .nils, .nils, w] 29 4)).next = hl.next := rfl
        have kx : ∀ b, b < h.next → ((hl.put h3.next (.cells [.int .i64 2, .int .i64 (rdN 1 (rdN 1 s).2).1, .int .i64 (rdN 2 (rdN 1 (rdN 1 s).2).2).1, .int .i64 ((rdN 4 (rdN 2 (rdN 1 (rdN 1 s).2).2).2).1 - 1), .bool false, .int .i64 0, .nils, .nils, .nils] 29 3)).put h3.next (.cells [.int .i64 2, .int .i64 (rdN 1 (rdN 1 s).2).1, .int .i64 (rdN 2 (rdN 1 (rdN 1 s).2).2).1, .int .i64 ((rdN 4 (rdN 2 (rdN 1 (rdN 1 s).2).2).2).1 - 1), .bool false, .int .i64 0, .nils, .nils, w] 29 4)).get b = h.get b := fun b hb => by
          have hb3 : ¬ b = h3.next := by omega
          simp only [Heap.get_put, hb3, if_false]
          exact (xh _ xl).2 b hb
        generalize hh9 : (hl.put h3.next (.cells [.int .i64 2, .int .i64 (rdN 1 (rdN 1 s).2).1, .int .i64 (rdN 2 (rdN 1 (rdN 1 s).2).2).1, .int .i64 ((rdN 4 (rdN 2 (rdN 1 (rdN 1 s).2).2).2).1 - 1), .bool false, .int .i64 0, .nils, .nils, .nils] 29 3)).put h3.next (.cells [.int .i64 2, .int .i64 (rdN 1 (rdN 1 s).2).1, .int .i64 (rdN 2 (rdN 1 (rdN 1 s).2).2).1, .int .i64 ((rdN 4 (rdN 2 (rdN 1 (rdN 1 s).2).2).2).1 - 1), .bool false, .int .i64 0, .nils, .nils, w] 29 4) = h9 at *
        have xn : h.next ≤ h9.next := by rw [nx]; exact (xh _ xl).1
        refine ans cl (fun ok => ?_) (fun no _ hne => ?_) fun no => ?_
        · simp only [gz, gr, RW, r7.one, R0, R1, R2, R3, R4, R5, R6, R7, R8, R9, VOp.fresh, bxC, bsC, R10, un, most, callsOf, List.contains_nil, List.contains_cons, beq_iff_eq, List.getElem?_cons_zero, List.getElem?_cons_succ, seval, Option.map_none, Int.reducePow, ↓reduceIte, Nat.reduceEqDiff, reduceCtorEq, and_self]
          exact q1 ok _ _ ((cl.put (Nat.lt_irrefl _) _).weak fun b hb _ => Nat.le_of_lt hb) rfl ⟨xn, fun b hb => by rw [Heap.get_put, if_neg (by omega)]; exact kx b hb⟩
        · simp only [gz, gr, RW, hne, R0, R1, R2, R3, R4, R5, R6, R7, R8, R9, VOp.fresh, bxC, bsC, R10, un, most, callsOf, List.contains_nil, List.contains_cons, beq_iff_eq, List.getElem?_cons_zero, List.getElem?_cons_succ, seval, Option.map_none, Int.reducePow, ↓reduceIte, Nat.reduceEqDiff, reduceCtorEq, and_self]
          exact q2 no _ ⟨xn, fun b hb => by rw [Heap.get_put, if_neg (by omega)]; exact kx b hb⟩
        · simp only [gz, gr, RW, R0, R1, R2, R3, R4, R5, R6, R7, R8, R9, VOp.fresh, bxC, bsC, R10, un, most, callsOf, List.contains_nil, List.contains_cons, beq_iff_eq, List.getElem?_cons_zero, List.getElem?_cons_succ, seval, Option.map_none, Int.reducePow, ↓reduceIte, Nat.reduceEqDiff, reduceCtorEq, and_self]
          exact q2 no _ ⟨xn, fun b hb => by rw [Heap.get_put, if_neg (by omega)]; exact kx b hb⟩
    · have k1 : ¬ (rdN 1 s).1 = 1 := fun e => k12 (.inl e)
      have k2 : ¬ (rdN 1 s).1 = 2 := fun e => k12 (.inr e)
      by_cases k3 : (rdN 1 s).1 = 3
      · rw [k3] at g6
        simp only [g6, k3, R0, R1, R2, R3, R4, R5, R6, R7, R8, R9, VOp.fresh, bxC, bsC, R10, un, most, callsOf, List.contains_nil, List.contains_cons, beq_iff_eq, List.getElem?_cons_zero, List.getElem?_cons_succ, seval, Option.map_none, Int.reducePow, ↓reduceIte, Nat.reduceEqDiff, reduceCtorEq, and_self]
        refine rd_bool g rp6 fun hl rp7 x7 => ?_
        have g7 := (x7.2 h3.next (by omega) (by omega)).trans g6
        have gz0 := (x7.2 h.next (by omega) (by omega)).trans gz6
        have xl := x6.trans x7
        simp only [g7, RW, R0, R1, R2, R3, R4, R5, R6, R7, R8, R9, VOp.fresh, bxC, bsC, R10, un, most, callsOf, List.contains_nil, List.contains_cons, beq_iff_eq, List.getElem?_cons_zero, List.getElem?_cons_succ, seval, Option.map_none, Int.reducePow, ↓reduceIte, Nat.reduceEqDiff, reduceCtorEq, and_self]
        have er : rdRc s = ⟨3, (rdN 1 (rdN 1 s).2).1, (rdN 2 (rdN 1 (rdN 1 s).2).2).1, 0, decide ((rdN 1 (rdN 2 (rdN 1 (rdN 1 s).2).2).2).1 = 1), ⟨0, [], []⟩, []⟩ := by rw [rdRc]; simp only [k3, Int.one_ne_zero, Int.reduceEq, if_true, if_false, or_self, or_true, true_or, or_false, false_or]

        have cl : Lvs (hl.put h3.next (.cells [.int .i64 3, .int .i64 (rdN 1 (rdN 1 s).2).1, .int .i64 (rdN 2 (rdN 1 (rdN 1 s).2).2).1, .int .i64 0, .bool (decide ((rdN 1 (rdN 2 (rdN 1 (rdN 1 s).2).2).2).1 = 1)), .int .i64 0, .nils, .nils, .nils] 29 3)) (h.next < ·) [.int .i64 3, .int .i64 (rdN 1 (rdN 1 s).2).1, .int .i64 (rdN 2 (rdN 1 (rdN 1 s).2).2).1, .int .i64 0, .bool (decide ((rdN 1 (rdN 2 (rdN 1 (rdN 1 s).2).2).2).1 = 1)), .int .i64 0, .nils, .nils, .nils] (cRc (rdRc s)) := by
          rw [er]
          exact Lvs.cells9 (r := ⟨3, (rdN 1 (rdN 1 s).2).1, (rdN 2 (rdN 1 (rdN 1 s).2).2).1, 0, decide ((rdN 1 (rdN 2 (rdN 1 (rdN 1 s).2).2).2).1 = 1), ⟨0, [], []⟩, []⟩) .nils .nils .nils
        have gr : (hl.put h3.next (.cells [.int .i64 3, .int .i64 (rdN 1 (rdN 1 s).2).1, .int .i64 (rdN 2 (rdN 1 (rdN 1 s).2).2).1, .int .i64 0, .bool (decide ((rdN 1 (rdN 2 (rdN 1 (rdN 1 s).2).2).2).1 = 1)), .int .i64 0, .nils, .nils, .nils] 29 3)).get h3.next = some (.cells [.int .i64 3, .int .i64 (rdN 1 (rdN 1 s).2).1, .int .i64 (rdN 2 (rdN 1 (rdN 1 s).2).2).1, .int .i64 0, .bool (decide ((rdN 1 (rdN 2 (rdN 1 (rdN 1 s).2).2).2).1 = 1)), .int .i64 0, .nils, .nils, .nils] 29 3) := by simp only [Heap.get_put, if_true]
        have gz : (hl.put h3.next (.cells [.int .i64 3, .int .i64 (rdN 1 (rdN 1 s).2).1, .int .i64 (rdN 2 (rdN 1 (rdN 1 s).2).2).1, .int .i64 0, .bool (decide ((rdN 1 (rdN 2 (rdN 1 (rdN 1 s).2).2).2).1 = 1)), .int .i64 0, .nils, .nils, .nils] 29 3)).get h.next = some (.cells zRc 29 0) := by
          simp only [Heap.get_put, hne3, if_false]
          exact gz0
        have nx : (hl.put h3.next (.cells [.int .i64 3, .int .i64 (rdN 1 (rdN 1 s).2).1, .int .i64 (rdN 2 (rdN 1 (rdN 1 s).2).2).1, .int .i64 0, .bool (decide ((rdN 1 (rdN 2 (rdN 1 (rdN 1 s).2).2).2).1 = 1)), .int .i64 0, .nils, .nils, .nils] 29 3)).next = hl.next := rfl
        have kx : ∀ b, b < h.next → (hl.put h3.next (.cells [.int .i64 3, .int .i64 (rdN 1 (rdN 1 s).2).1, .int .i64 (rdN 2 (rdN 1 (rdN 1 s).2).2).1, .int .i64 0, .bool (decide ((rdN 1 (rdN 2 (rdN 1 (rdN 1 s).2).2).2).1 = 1)), .int .i64 0, .nils, .nils, .nils] 29 3)).get b = h.get b := fun b hb => by
          have hb3 : ¬ b = h3.next := by omega
          simp only [Heap.get_put, hb3, if_false]
          exact (xh _ xl).2 b hb
        generalize hh9 : hl.put h3.next (.cells [.int .i64 3, .int .i64 (rdN 1 (rdN 1 s).2).1, .int .i64 (rdN 2 (rdN 1 (rdN 1 s).2).2).1, .int .i64 0, .bool (decide ((rdN 1 (rdN 2 (rdN 1 (rdN 1 s).2).2).2).1 = 1)), .int .i64 0, .nils, .nils, .nils] 29 3) = h9 at *
        have xn : h.next ≤ h9.next := by rw [nx]; exact (xh _ xl).1
        refine ans cl (fun ok => ?_) (fun no _ hne => ?_) fun no => ?_
        · simp only [gz, gr, RW, R0, R1, R2, R3, R4, R5, R6, R7, R8, R9, VOp.fresh, bxC, bsC, R10, un, most, callsOf, List.contains_nil, List.contains_cons, beq_iff_eq, List.getElem?_cons_zero, List.getElem?_cons_succ, seval, Option.map_none, Int.reducePow, ↓reduceIte, Nat.reduceEqDiff, reduceCtorEq, and_self]
          exact q1 ok _ _ ((cl.put (Nat.lt_irrefl _) _).weak fun b hb _ => Nat.le_of_lt hb) rfl ⟨xn, fun b hb => by rw [Heap.get_put, if_neg (by omega)]; exact kx b hb⟩
        · simp only [gz, gr, RW, hne, R0, R1, R2, R3, R4, R5, R6, R7, R8, R9, VOp.fresh, bxC, bsC, R10, un, most, callsOf, List.contains_nil, List.contains_cons, beq_iff_eq, List.getElem?_cons_zero, List.getElem?_cons_succ, seval, Option.map_none, Int.reducePow, ↓reduceIte, Nat.reduceEqDiff, reduceCtorEq, and_self]
          exact q2 no _ ⟨xn, fun b hb => by rw [Heap.get_put, if_neg (by omega)]; exact kx b hb⟩
        · simp only [gz, gr, RW, R0, R1, R2, R3, R4, R5, R6, R7, R8, R9, VOp.fresh, bxC, bsC, R10, un, most, callsOf, List.contains_nil, List.contains_cons, beq_iff_eq, List.getElem?_cons_zero, List.getElem?_cons_succ, seval, Option.map_none, Int.reducePow, ↓reduceIte, Nat.reduceEqDiff, reduceCtorEq, and_self]
          exact q2 no _ ⟨xn, fun b hb => by rw [Heap.get_put, if_neg (by omega)]; exact kx b hb⟩
      · simp only [g6, k1, k2, k3, R0, R1, R2, R3, R4, R5, R6, R7, R8, R9, VOp.fresh, bxC, bsC, R10, un, most, callsOf, List.contains_nil, List.contains_cons, beq_iff_eq, List.getElem?_cons_zero, List.getElem?_cons_succ, seval, Option.map_none, Int.reducePow, ↓reduceIte, Nat.reduceEqDiff, reduceCtorEq, and_self]
        have er : rdRc s = ⟨(rdN 1 s).1, (rdN 1 (rdN 1 s).2).1, (rdN 2 (rdN 1 (rdN 1 s).2).2).1, 0, false, ⟨0, [], []⟩, []⟩ := by rw [rdRc]; simp only [k0, k1, k2, k3, if_false, or_self]
        have cl : Lvs h6 (h.next < ·) [.int .i64 (rdN 1 s).1, .int .i64 (rdN 1 (rdN 1 s).2).1, .int .i64 (rdN 2 (rdN 1 (rdN 1 s).2).2).1, .int .i64 0, .bool false, .int .i64 0, .nils, .nils, .nils] (cRc (rdRc s)) := by
          rw [er]
          exact Lvs.cells9 (r := ⟨(rdN 1 s).1, (rdN 1 (rdN 1 s).2).1, (rdN 2 (rdN 1 (rdN 1 s).2).2).1, 0, false, ⟨0, [], []⟩, []⟩) .nils .nils .nils
        have xn : h.next ≤ h6.next := (xh _ x6).1
        have kx := (xh _ x6).2
        refine ans cl (fun ok => ?_) (fun no _ hne => ?_) fun no => ?_
        · simp only [gz6, g6, RW, R0, R1, R2, R3, R4, R5, R6, R7, R8, R9, VOp.fresh, bxC, bsC, R10, un, most, callsOf, List.contains_nil, List.contains_cons, beq_iff_eq, List.getElem?_cons_zero, List.getElem?_cons_succ, seval, Option.map_none, Int.reducePow, ↓reduceIte, Nat.reduceEqDiff, reduceCtorEq, and_self]
          exact q1 ok _ _ ((cl.put (Nat.lt_irrefl _) _).weak fun b hb _ => Nat.le_of_lt hb) rfl ⟨xn, fun b hb => by rw [Heap.get_put, if_neg (by omega)]; exact kx b hb⟩
        · simp only [gz6, g6, RW, hne, R0, R1, R2, R3, R4, R5, R6, R7, R8, R9, VOp.fresh, bxC, bsC, R10, un, most, callsOf, List.contains_nil, List.contains_cons, beq_iff_eq, List.getElem?_cons_zero, List.getElem?_cons_succ, seval, Option.map_none, Int.reducePow, ↓reduceIte, Nat.reduceEqDiff, reduceCtorEq, and_self]
          exact q2 no _ ⟨xn, fun b hb => by rw [Heap.get_put, if_neg (by omega)]; exact kx b hb⟩
        · simp only [gz6, g6, RW, R0, R1, R2, R3, R4, R5, R6, R7, R8, R9, VOp.fresh, bxC, bsC, R10, un, most, callsOf, List.contains_nil, List.contains_cons, beq_iff_eq, List.getElem?_cons_zero, List.getElem?_cons_succ, seval, Option.map_none, Int.reducePow, ↓reduceIte, Nat.reduceEqDiff, reduceCtorEq, and_self]
          exact q2 no _ ⟨xn, fun b hb => by rw [Heap.get_put, if_neg (by omega)]; exact kx b hb⟩
end
end Go.Proofs.Ytinonmcnofjeeaa.VM
