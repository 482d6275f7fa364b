/- Records: every record, all bytes. -/
import Derived.Test.YtinonmcnofjeeaaL11Typ
import Derived.Test.YtinonmcnofjeeaaL11Rget
import Derived.KernelRfl
namespace Go.Proofs.Ytinonmcnofjeeaa.VM
set_option linter.unusedSimpArgs false
set_option linter.unusedVariables false
set_option linter.defProp false
set_option maxHeartbeats 1000000
attribute [local irreducible] Af Nx EvO Ev Un Gd Cd EvR EvQ EvC Nc Gc Lp EvM NxM AfM GdM EvMR EvMQ EvMD EvMC Nm Gm
theorem isL_one {α : Type} {b : Nat} {R : α → List AV → Prop} {v : AV} {l : List α} (h : IsL b R v l) : v.one = true := by
  rcases h.2 with ⟨rfl, _⟩ | ⟨c, rfl, _⟩ <;> rfl
theorem Lv.bool_inv {h : Heap} {B : Nat → Prop} {x : AV} {m : Bool} (l : Lv h B x (.bool m)) : x = .bool m := by
  obtain ⟨D, f, _⟩ := l
  cases f
  rfl
theorem Lvs.cons_inv {h : Heap} {B : Nat → Prop} {x : List AV} {y : AV} {k : List AV} (l : Lvs h B x (y :: k)) : ∃ a z, x = a :: z ∧ Lv h B a y ∧ Lvs h B z k := by
  obtain ⟨D, f, hb, o, i⟩ := l
  cases f with
  | @cons x _ l _ D E f t =>
    simp only [AV.bares, Bool.and_eq_true] at hb
    exact ⟨x, l, rfl, ⟨D, f, hb.1, fun c hc => o c (List.mem_append_left _ hc), fun c hc => i c (List.mem_append_left _ hc)⟩, ⟨E, t, hb.2, fun c hc => o c (List.mem_append_right _ hc), fun c hc => i c (List.mem_append_right _ hc)⟩⟩
theorem Lvs.nil_inv {h : Heap} {B : Nat → Prop} {x : List AV} (l : Lvs h B x []) : x = [] := by
  obtain ⟨D, f, _⟩ := l
  cases f
  rfl
theorem Lv.one_row {h : Heap} {B : Nat → Prop} {x : AV} {c : List AV} {n : Nat} (l : Lv h B x (cRow c n)) : x.one = true := by
  obtain ⟨D, f, hb, _⟩ := l
  unfold cRow at f
  split at f <;> cases f <;> first | rfl | cases hb
/-- a record's cells -/
theorem rc_inv {h : Heap} {B : Nat → Prop} {c : List AV} {r : Rc} (l : Lvs h B c (cRc r)) : ∃ v1 v2 v3, c = [.int .i64 r.kind, .int .i64 r.node, .int .i64 r.seq, .int .i64 r.base, .bool r.commit, .int .i64 r.m.epoch, v1, v2, v3] ∧ Lv h B v1 (cInts r.m.starts) ∧ Lv h B v2 (cInts r.m.owners) ∧ Lv h B v3 (cOpsL r.ops) ∧ v1.one = true ∧ v2.one = true ∧ v3.one = true := by
  obtain ⟨x1, c1, rfl, a1, l⟩ := l.cons_inv
  obtain ⟨x2, c2, rfl, a2, l⟩ := l.cons_inv
  obtain ⟨x3, c3, rfl, a3, l⟩ := l.cons_inv
  obtain ⟨x4, c4, rfl, a4, l⟩ := l.cons_inv
  obtain ⟨x5, c5, rfl, a5, l⟩ := l.cons_inv
  obtain ⟨x6, c6, rfl, a6, l⟩ := l.cons_inv
  obtain ⟨x7, c7, rfl, a7, l⟩ := l.cons_inv
  obtain ⟨x8, c8, rfl, a8, l⟩ := l.cons_inv
  obtain ⟨x9, c9, rfl, a9, l⟩ := l.cons_inv
  obtain rfl := l.nil_inv
  obtain rfl := a1.int_inv
  obtain rfl := a2.int_inv
  obtain rfl := a3.int_inv
  obtain rfl := a4.int_inv
  obtain rfl := a5.bool_inv
  obtain rfl := a6.int_inv
  exact ⟨x7, x8, x9, rfl, a7, a8, a9, a7.one_row, a8.one_row, a9.one_row⟩
def rz : Rc := ⟨0, 0, 0, 0, false, ⟨0, [], []⟩, []⟩
open Classical in
noncomputable def getR (s : List Nat) : Rc := if getOk s then rdRc s else rz
open Classical in
noncomputable def getE (s : List Nat) : Int := if getOk s then 0 else 1100
section
variable {P : Program}
theorem num_pu (g : Pg P tab) (n : Int) : Pu P 19 [.int .i64 n] (fun v => v = .int .i64 n) := by
  refine g.pu (vf := v19) rfl rfl ?_
  simp +contextual (maxSteps := 2000000) (disch := omega) only [v19, R0, R1, R2, R3, R4, R5, R6, R7, R8, R9, VOp.fresh, bxC, bsC, R10, un, most, callsOf, List.contains_nil, List.contains_cons, beq_iff_eq, List.getElem?_cons_zero, List.getElem?_cons_succ, seval, Option.map_none, Int.reducePow, ↓reduceIte, Nat.reduceEqDiff, reduceCtorEq, and_self]
theorem awake_pu (g : Pg P tab) : Pu P 23 [] (fun v => v = .bool true) := g.run (n := 400) (by kernel_rfl)
theorem getR_sm {s : List Nat} (hby : By s) : rcSm (getR s) := by
  unfold getR
  split
  · exact rdRc_sm hby
  · exact ⟨⟨⟨by decide, by decide⟩, ⟨by decide, by simp [rz]⟩, ⟨by decide, by simp [rz]⟩⟩, by decide, by simp [rz]⟩
theorem lv_rz {h : Heap} {B : Nat → Prop} : Lvs h B zRc (cRc rz) := Lvs.cells9 (r := rz) .nils .nils .nils
theorem get_cl (g : Pg P tab) {s : List Nat} (hby : By s) (hsl : s.length < 4611686018427387904) {h : Heap} {Q : AV → Heap → Prop} (q : ∀ c h', Lvs h' (h.next ≤ ·) c (cRc (getR s)) → Ext h h' → Q (.tup [.agg c, .int .i64 (getE s)]) h') : Cl P 17 [.str s] h Q := by
  refine rec_get g hby hsl (fun ok c h' l _ x => ?_) fun no h' x => ?_
  · have e1 : getR s = rdRc s := if_pos ok
    have e2 : getE s = 0 := if_pos ok
    have := q c h' (by rw [e1]; exact l) x
    rwa [e2] at this
  · have e1 : getR s = rz := if_neg no
    have e2 : getE s = 1100 := if_neg no
    have := q zRc h' (by rw [e1]; exact lv_rz) x
    rwa [e2] at this
theorem get_cl' (g : Pg P tab) {s : List Nat} (hby : By s) (hsl : s.length < 4611686018427387904) {h : Heap} {Q : AV → Heap → Prop} (q : ∀ c h', Lvs h' (h.next ≤ ·) c (cRc (getR s)) → Ext h h' → Q (.tup [.agg c, .int .i64 (getE s)]) h') : Cl P 18 [.str s] h Q := by
  refine ref_get g hby hsl (fun ok c h' l _ x => ?_) fun no h' x => ?_
  · have e1 : getR s = rdRc s := if_pos ok
    have e2 : getE s = 0 := if_pos ok
    have := q c h' (by rw [e1]; exact l) x
    rwa [e2] at this
  · have e1 : getR s = rz := if_neg no
    have e2 : getE s = 1100 := if_neg no
    have := q zRc h' (by rw [e1]; exact lv_rz) x
    rwa [e2] at this
theorem put_both (g : Pg P tab) {r : Rc} {c c' : List AV} (h : RRc r c) (h' : RRc r c') : ∃ b e, Pu P 15 [.agg c] (fun v => v = .tup [.str b, .int .i64 e]) ∧ Pu P 16 [.agg c'] (fun v => v = .tup [.str b, .int .i64 e]) := by
  by_cases ok : recOk r
  · have p1 := put_good g h ok
    have p2 := rPut_good g h' ok
    unfold putAns at p1 p2
    by_cases hl : (recB r).length ≤ 8192
    · simp only [hl, if_true] at p1 p2
      exact ⟨_, _, p1, p2⟩
    · simp only [hl, if_false] at p1 p2
      exact ⟨_, _, p1, p2⟩
  · exact ⟨_, _, put_bad g h ok, rPut_bad g h' ok⟩
theorem records_pu (g : Pg P tab) {r : Rc} {c : List AV} (hc : RRc r c) (he : I64 r.m.epoch) {s : List Nat} (hby : By s) (hsl : s.length < 4611686018427387904) : Pu P 3 [.agg c, .str s] (fun v => v = .bool true) := by
  have hc0 := hc
  obtain ⟨a, u, w, rfl, ha, hu, hw⟩ := hc
  have oa := isL_one ha
  have ou := isL_one hu
  have ow := isL_one hw
  refine g.pu (vf := v3) rfl rfl ?_
  simp only [v3, RW, oa, ou, ow, R0, R1, R2, R3, R4, R5, R6, R7, R8, R9, VOp.fresh, bxC, bsC, R10, un, most, callsOf, List.contains_nil, List.contains_cons, beq_iff_eq, List.getElem?_cons_zero, List.getElem?_cons_succ, seval, Option.map_none, Int.reducePow, ↓reduceIte, Nat.reduceEqDiff, reduceCtorEq, and_self]
  have gA0 : (((({ next := 0, t := T.e } : Heap).mk' 0 (.cells [.int .i64 r.kind, .int .i64 r.node, .int .i64 r.seq, .int .i64 r.base, .bool r.commit, .int .i64 r.m.epoch, a, u, w] 29 0)).mk' 1 (.cells zRc 29 0)).put 1 (.cells [.int .i64 r.kind, .int .i64 r.node, .int .i64 r.seq, .int .i64 r.base, .bool r.commit, .int .i64 r.m.epoch, a, u, w] 29 1)).get 0 = some (.cells [.int .i64 r.kind, .int .i64 r.node, .int .i64 r.seq, .int .i64 r.base, .bool r.commit, .int .i64 r.m.epoch, a, u, w] 29 0) := by
    rw [Heap.get_put, if_neg (by decide), Heap.get_mk, if_neg (by decide), Heap.get_mk, if_pos rfl]
  have gA1 : (((({ next := 0, t := T.e } : Heap).mk' 0 (.cells [.int .i64 r.kind, .int .i64 r.node, .int .i64 r.seq, .int .i64 r.base, .bool r.commit, .int .i64 r.m.epoch, a, u, w] 29 0)).mk' 1 (.cells zRc 29 0)).put 1 (.cells [.int .i64 r.kind, .int .i64 r.node, .int .i64 r.seq, .int .i64 r.base, .bool r.commit, .int .i64 r.m.epoch, a, u, w] 29 1)).get 1 = some (.cells [.int .i64 r.kind, .int .i64 r.node, .int .i64 r.seq, .int .i64 r.base, .bool r.commit, .int .i64 r.m.epoch, a, u, w] 29 1) := by
    rw [Heap.get_put, if_pos rfl]
  have nA : (((({ next := 0, t := T.e } : Heap).mk' 0 (.cells [.int .i64 r.kind, .int .i64 r.node, .int .i64 r.seq, .int .i64 r.base, .bool r.commit, .int .i64 r.m.epoch, a, u, w] 29 0)).mk' 1 (.cells zRc 29 0)).put 1 (.cells [.int .i64 r.kind, .int .i64 r.node, .int .i64 r.seq, .int .i64 r.base, .bool r.commit, .int .i64 r.m.epoch, a, u, w] 29 1)).next = 2 := rfl
  generalize ((({ next := 0, t := T.e } : Heap).mk' 0 (.cells [.int .i64 r.kind, .int .i64 r.node, .int .i64 r.seq, .int .i64 r.base, .bool r.commit, .int .i64 r.m.epoch, a, u, w] 29 0)).mk' 1 (.cells zRc 29 0)).put 1 (.cells [.int .i64 r.kind, .int .i64 r.node, .int .i64 r.seq, .int .i64 r.base, .bool r.commit, .int .i64 r.m.epoch, a, u, w] 29 1) = h0 at *
  refine copyOps_cl g hw fun vo to h1 lo io co oo x1 => ?_
  have x1n := x1.1
  have gB0 := (x1.2 0 (by omega)).trans gA0
  have gB1 := (x1.2 1 (by omega)).trans gA1
  have lo2 : Lv h1 (2 ≤ ·) vo to := lo.weak fun b hb _ => by omega
  simp only [RW, oa, ou, ow, oo, co, gB0, gB1, R0, R1, R2, R3, R4, R5, R6, R7, R8, R9, VOp.fresh, bxC, bsC, R10, un, most, callsOf, List.contains_nil, List.contains_cons, beq_iff_eq, List.getElem?_cons_zero, List.getElem?_cons_succ, seval, Option.map_none, Int.reducePow, ↓reduceIte, Nat.reduceEqDiff, reduceCtorEq, and_self]
  have gC0 : (h1.put 1 (.cells [.int .i64 r.kind, .int .i64 r.node, .int .i64 r.seq, .int .i64 r.base, .bool r.commit, .int .i64 r.m.epoch, a, u, vo] 29 2)).get 0 = _ := (by rw [Heap.get_put, if_neg (by decide)] : _ = h1.get 0).trans gB0
  have gC1 : (h1.put 1 (.cells [.int .i64 r.kind, .int .i64 r.node, .int .i64 r.seq, .int .i64 r.base, .bool r.commit, .int .i64 r.m.epoch, a, u, vo] 29 2)).get 1 = some (.cells [.int .i64 r.kind, .int .i64 r.node, .int .i64 r.seq, .int .i64 r.base, .bool r.commit, .int .i64 r.m.epoch, a, u, vo] 29 2) := by
    rw [Heap.get_put, if_pos rfl]
  have nC : (h1.put 1 (.cells [.int .i64 r.kind, .int .i64 r.node, .int .i64 r.seq, .int .i64 r.base, .bool r.commit, .int .i64 r.m.epoch, a, u, vo] 29 2)).next = h1.next := rfl
  have lo3 := lo2.put (b := 1) (by decide) (.cells [.int .i64 r.kind, .int .i64 r.node, .int .i64 r.seq, .int .i64 r.base, .bool r.commit, .int .i64 r.m.epoch, a, u, vo] 29 2)
  generalize h1.put 1 (.cells [.int .i64 r.kind, .int .i64 r.node, .int .i64 r.seq, .int .i64 r.base, .bool r.commit, .int .i64 r.m.epoch, a, u, vo] 29 2) = h1' at *
  refine copyMap_cl g (m := r.m) ⟨_, _, rfl, he, ha, hu⟩ fun cm tm h2 lm im nm om x2 => ?_
  have x2n := x2.1
  obtain ⟨m1, m2, m3, rfl⟩ := len3 nm
  obtain ⟨t2, t3, rfl, _, im2, im3⟩ := im
  have om' := om
  simp only [List.all_cons, List.all_nil, Bool.and_true, Bool.and_eq_true] at om'
  obtain ⟨om1, om2, om3⟩ := om'
  have gD0 := (x2.2 0 (by omega)).trans gC0
  have gD1 := (x2.2 1 (by omega)).trans gC1
  have lo4 := lo3.frame x2.1 fun b _ hb => x2.2 b hb
  simp only [RW, oa, ou, ow, oo, om1, om2, om3, gD0, gD1, R0, R1, R2, R3, R4, R5, R6, R7, R8, R9, VOp.fresh, bxC, bsC, R10, un, most, callsOf, List.contains_nil, List.contains_cons, beq_iff_eq, List.getElem?_cons_zero, List.getElem?_cons_succ, seval, Option.map_none, Int.reducePow, ↓reduceIte, Nat.reduceEqDiff, reduceCtorEq, and_self]
  have gE0 : (h2.put 1 (.cells [.int .i64 r.kind, .int .i64 r.node, .int .i64 r.seq, .int .i64 r.base, .bool r.commit, m1, m2, m3, vo] 29 3)).get 0 = _ := (by rw [Heap.get_put, if_neg (by decide)] : _ = h2.get 0).trans gD0
  have gE1 : (h2.put 1 (.cells [.int .i64 r.kind, .int .i64 r.node, .int .i64 r.seq, .int .i64 r.base, .bool r.commit, m1, m2, m3, vo] 29 3)).get 1 = some (.cells [.int .i64 r.kind, .int .i64 r.node, .int .i64 r.seq, .int .i64 r.base, .bool r.commit, m1, m2, m3, vo] 29 3) := by rw [Heap.get_put, if_pos rfl]
  have nE : (h2.put 1 (.cells [.int .i64 r.kind, .int .i64 r.node, .int .i64 r.seq, .int .i64 r.base, .bool r.commit, m1, m2, m3, vo] 29 3)).next = h2.next := rfl
  have lx : Lvs (h2.put 1 (.cells [.int .i64 r.kind, .int .i64 r.node, .int .i64 r.seq, .int .i64 r.base, .bool r.commit, m1, m2, m3, vo] 29 3)) (2 ≤ ·) [.int .i64 r.kind, .int .i64 r.node, .int .i64 r.seq, .int .i64 r.base, .bool r.commit, m1, m2, m3, vo] [.int .i64 r.kind, .int .i64 r.node, .int .i64 r.seq, .int .i64 r.base, .bool r.commit, .int .i64 r.m.epoch, t2, t3, to] :=
    (Lvs.cons .int (.cons .int (.cons .int (.cons .int (.cons .bool ((lm.weak fun b hb _ => by omega).app (.cons lo4 .nil))))))).put (by decide) _
  have rx : RRc r [.int .i64 r.kind, .int .i64 r.node, .int .i64 r.seq, .int .i64 r.base, .bool r.commit, .int .i64 r.m.epoch, t2, t3, to] := ⟨_, _, _, rfl, im2, im3, io⟩
  generalize h2.put 1 (.cells [.int .i64 r.kind, .int .i64 r.node, .int .i64 r.seq, .int .i64 r.base, .bool r.commit, m1, m2, m3, vo] 29 3) = h3 at *
  obtain ⟨pb, pe, pp, pq⟩ := put_both g rx hc0
  have tc : AV.tolds [.agg [.int .i64 r.kind, .int .i64 r.node, .int .i64 r.seq, .int .i64 r.base, .bool r.commit, .int .i64 r.m.epoch, a, u, w]] = true := by simp [AV.tolds, AV.told, ha.told tInt, hu.told tInt, hw.told tOp]
  refine pp.cl (.cons (.agg lx.fzs) .nil) ?_
  rintro v rfl
  simp only [gE0, R0, R1, R2, R3, R4, R5, R6, R7, R8, R9, VOp.fresh, bxC, bsC, R10, un, most, callsOf, List.contains_nil, List.contains_cons, beq_iff_eq, List.getElem?_cons_zero, List.getElem?_cons_succ, seval, Option.map_none, Int.reducePow, ↓reduceIte, Nat.reduceEqDiff, reduceCtorEq, and_self]
  refine pq.go tc ?_
  rintro v rfl
  simp only [R0, R1, R2, R3, R4, R5, R6, R7, R8, R9, VOp.fresh, bxC, bsC, R10, un, most, callsOf, List.contains_nil, List.contains_cons, beq_iff_eq, List.getElem?_cons_zero, List.getElem?_cons_succ, seval, Option.map_none, Int.reducePow, ↓reduceIte, Nat.reduceEqDiff, reduceCtorEq, and_self]
  refine get_cl g hby hsl fun c1 h4 lc x4 => ?_
  obtain ⟨b1, b2, b3, rfl, lb1, lb2, lb3, ob1, ob2, ob3⟩ := rc_inv lc
  simp only [RW, ob1, ob2, ob3, R0, R1, R2, R3, R4, R5, R6, R7, R8, R9, VOp.fresh, bxC, bsC, R10, un, most, callsOf, List.contains_nil, List.contains_cons, beq_iff_eq, List.getElem?_cons_zero, List.getElem?_cons_succ, seval, Option.map_none, Int.reducePow, ↓reduceIte, Nat.reduceEqDiff, reduceCtorEq, and_self]
  have y4 : Ext h4 ((h4.mk' h4.next (.cells zRc 29 0)).put h4.next (.cells [.int .i64 (getR s).kind, .int .i64 (getR s).node, .int .i64 (getR s).seq, .int .i64 (getR s).base, .bool (getR s).commit, .int .i64 (getR s).m.epoch, b1, b2, b3] 29 1)) := ⟨by rw [put_next, mk_next]; omega, fun b hb => by rw [Heap.get_put, if_neg (by omega), Heap.get_mk, if_neg (by omega)]⟩
  have nF : ((h4.mk' h4.next (.cells zRc 29 0)).put h4.next (.cells [.int .i64 (getR s).kind, .int .i64 (getR s).node, .int .i64 (getR s).seq, .int .i64 (getR s).base, .bool (getR s).commit, .int .i64 (getR s).m.epoch, b1, b2, b3] 29 1)).next = h4.next + 1 := by rw [put_next, mk_next]; omega
  have gF : ((h4.mk' h4.next (.cells zRc 29 0)).put h4.next (.cells [.int .i64 (getR s).kind, .int .i64 (getR s).node, .int .i64 (getR s).seq, .int .i64 (getR s).base, .bool (getR s).commit, .int .i64 (getR s).m.epoch, b1, b2, b3] 29 1)).get h4.next = some (.cells [.int .i64 (getR s).kind, .int .i64 (getR s).node, .int .i64 (getR s).seq, .int .i64 (getR s).base, .bool (getR s).commit, .int .i64 (getR s).m.epoch, b1, b2, b3] 29 1) := by rw [Heap.get_put, if_pos rfl]
  have x4n := x4.1
  have z4 := x4.trans y4
  have gF0 := (z4.2 0 (by omega)).trans gE0
  have gF1 := (z4.2 1 (by omega)).trans gE1
  have lc4 : Lvs ((h4.mk' h4.next (.cells zRc 29 0)).put h4.next (.cells [.int .i64 (getR s).kind, .int .i64 (getR s).node, .int .i64 (getR s).seq, .int .i64 (getR s).base, .bool (getR s).commit, .int .i64 (getR s).m.epoch, b1, b2, b3] 29 1)) (fun b => h3.next ≤ b ∧ b < h4.next) [.int .i64 (getR s).kind, .int .i64 (getR s).node, .int .i64 (getR s).seq, .int .i64 (getR s).base, .bool (getR s).commit, .int .i64 (getR s).m.epoch, b1, b2, b3] (cRc (getR s)) := (lc.weak (B' := fun b => h3.next ≤ b ∧ b < h4.next) fun b hb hl => ⟨hb, hl⟩).frame y4.1 fun b hb _ => y4.2 b hb.2
  have lx4 := lx.frame z4.1 fun b _ hb => z4.2 b hb
  generalize (h4.mk' h4.next (.cells zRc 29 0)).put h4.next (.cells [.int .i64 (getR s).kind, .int .i64 (getR s).node, .int .i64 (getR s).seq, .int .i64 (getR s).base, .bool (getR s).commit, .int .i64 (getR s).m.epoch, b1, b2, b3] 29 1) = h4' at *
  refine get_cl' g hby hsl fun c2 h5 ld x5 => ?_
  obtain ⟨d1, d2, d3, rfl, ld1, ld2, ld3, od1, od2, od3⟩ := rc_inv ld
  simp only [RW, od1, od2, od3, R0, R1, R2, R3, R4, R5, R6, R7, R8, R9, VOp.fresh, bxC, bsC, R10, un, most, callsOf, List.contains_nil, List.contains_cons, beq_iff_eq, List.getElem?_cons_zero, List.getElem?_cons_succ, seval, Option.map_none, Int.reducePow, ↓reduceIte, Nat.reduceEqDiff, reduceCtorEq, and_self]
  have y5 : Ext h5 ((h5.mk' h5.next (.cells zRc 29 0)).put h5.next (.cells [.int .i64 (getR s).kind, .int .i64 (getR s).node, .int .i64 (getR s).seq, .int .i64 (getR s).base, .bool (getR s).commit, .int .i64 (getR s).m.epoch, d1, d2, d3] 29 1)) := ⟨by rw [put_next, mk_next]; omega, fun b hb => by rw [Heap.get_put, if_neg (by omega), Heap.get_mk, if_neg (by omega)]⟩
  have nG : ((h5.mk' h5.next (.cells zRc 29 0)).put h5.next (.cells [.int .i64 (getR s).kind, .int .i64 (getR s).node, .int .i64 (getR s).seq, .int .i64 (getR s).base, .bool (getR s).commit, .int .i64 (getR s).m.epoch, d1, d2, d3] 29 1)).next = h5.next + 1 := by rw [put_next, mk_next]; omega
  have gG : ((h5.mk' h5.next (.cells zRc 29 0)).put h5.next (.cells [.int .i64 (getR s).kind, .int .i64 (getR s).node, .int .i64 (getR s).seq, .int .i64 (getR s).base, .bool (getR s).commit, .int .i64 (getR s).m.epoch, d1, d2, d3] 29 1)).get h5.next = some (.cells [.int .i64 (getR s).kind, .int .i64 (getR s).node, .int .i64 (getR s).seq, .int .i64 (getR s).base, .bool (getR s).commit, .int .i64 (getR s).m.epoch, d1, d2, d3] 29 1) := by rw [Heap.get_put, if_pos rfl]
  have x5n := x5.1
  have z5 := x5.trans y5
  have gG0 := (z5.2 0 (by omega)).trans gF0
  have gG1 := (z5.2 1 (by omega)).trans gF1
  have gGb := (z5.2 h4.next (by omega)).trans gF
  have ld5 : Lvs ((h5.mk' h5.next (.cells zRc 29 0)).put h5.next (.cells [.int .i64 (getR s).kind, .int .i64 (getR s).node, .int .i64 (getR s).seq, .int .i64 (getR s).base, .bool (getR s).commit, .int .i64 (getR s).m.epoch, d1, d2, d3] 29 1)) (fun b => h4'.next ≤ b ∧ b < h5.next) [.int .i64 (getR s).kind, .int .i64 (getR s).node, .int .i64 (getR s).seq, .int .i64 (getR s).base, .bool (getR s).commit, .int .i64 (getR s).m.epoch, d1, d2, d3] (cRc (getR s)) := (ld.weak (B' := fun b => h4'.next ≤ b ∧ b < h5.next) fun b hb hl => ⟨hb, hl⟩).frame y5.1 fun b hb _ => y5.2 b hb.2
  have lx5 := lx4.frame z5.1 fun b _ hb => z5.2 b hb
  have lc5 := lc4.frame z5.1 fun b _ hb => z5.2 b hb
  generalize (h5.mk' h5.next (.cells zRc 29 0)).put h5.next (.cells [.int .i64 (getR s).kind, .int .i64 (getR s).node, .int .i64 (getR s).seq, .int .i64 (getR s).base, .bool (getR s).commit, .int .i64 (getR s).m.epoch, d1, d2, d3] 29 1) = h5' at *
  have rr := cRc_is (getR_sm hby)
  refine (num_pu g pe).go rfl ?_
  rintro v rfl
  simp only [gGb, gG, R0, R1, R2, R3, R4, R5, R6, R7, R8, R9, VOp.fresh, bxC, bsC, R10, un, most, callsOf, List.contains_nil, List.contains_cons, beq_iff_eq, List.getElem?_cons_zero, List.getElem?_cons_succ, seval, Option.map_none, Int.reducePow, ↓reduceIte, Nat.reduceEqDiff, reduceCtorEq, and_self]
  refine (sRec_pu g rr rr).cl (.cons (.agg lc5.fzs) (.cons (.agg ld5.fzs) .nil)) ?_
  rintro v rfl
  simp only [R0, R1, R2, R3, R4, R5, R6, R7, R8, R9, VOp.fresh, bxC, bsC, R10, un, most, callsOf, List.contains_nil, List.contains_cons, beq_iff_eq, List.getElem?_cons_zero, List.getElem?_cons_succ, seval, Option.map_none, Int.reducePow, ↓reduceIte, Nat.reduceEqDiff, reduceCtorEq, and_self]
  refine (num_pu g _).go rfl ?_
  rintro v rfl
  simp only [gG0, gG1, R0, R1, R2, R3, R4, R5, R6, R7, R8, R9, VOp.fresh, bxC, bsC, R10, un, most, callsOf, List.contains_nil, List.contains_cons, beq_iff_eq, List.getElem?_cons_zero, List.getElem?_cons_succ, seval, Option.map_none, Int.reducePow, ↓reduceIte, Nat.reduceEqDiff, reduceCtorEq, and_self]
  refine (sRec_pu g rx hc0).cl (.cons (.agg lx5.fzs) (Fzs.refl tc)) ?_
  rintro v rfl
  simp only [gGb, R0, R1, R2, R3, R4, R5, R6, R7, R8, R9, VOp.fresh, bxC, bsC, R10, un, most, callsOf, List.contains_nil, List.contains_cons, beq_iff_eq, List.getElem?_cons_zero, List.getElem?_cons_succ, seval, Option.map_none, Int.reducePow, ↓reduceIte, Nat.reduceEqDiff, reduceCtorEq, and_self]
  have sm := getR_sm hby
  have kb : ∀ b, b < h4.next → b < h4'.next := fun b hb => by omega
  have lb5 : ∀ {x y : AV}, Lv h4 (h3.next ≤ ·) x y → Lv h5' (fun b => h3.next ≤ b ∧ b < h4.next) x y := fun l =>
    ((l.weak (B' := fun b => h3.next ≤ b ∧ b < h4.next) fun b hb hl => ⟨hb, hl⟩).frame (by omega) fun b hb _ => y4.2 b hb.2).frame z5.1 fun b hb _ => z5.2 b (kb b hb.2)
  refine spOps_cl g (LOps.of (lb5 lb3) sm.2) fun _ h6 s6 => ?_
  have gH := ((s6.2 h4.next (by omega)).1 fun c => by omega).trans gGb
  simp only [gH, R0, R1, R2, R3, R4, R5, R6, R7, R8, R9, VOp.fresh, bxC, bsC, R10, un, most, callsOf, List.contains_nil, List.contains_cons, beq_iff_eq, List.getElem?_cons_zero, List.getElem?_cons_succ, seval, Option.map_none, Int.reducePow, ↓reduceIte, Nat.reduceEqDiff, reduceCtorEq, and_self]
  refine spMap_cl g ((LInts.of (lb5 lb1) sm.1.2.1).sim s6) ((LInts.of (lb5 lb2) sm.1.2.2).sim s6) ⟨rfl, ob1, ob2⟩ fun _ h7 s7 => ?_
  have s67 := s6.trans s7
  simp only [R0, R1, R2, R3, R4, R5, R6, R7, R8, R9, VOp.fresh, bxC, bsC, R10, un, most, callsOf, List.contains_nil, List.contains_cons, beq_iff_eq, List.getElem?_cons_zero, List.getElem?_cons_succ, seval, Option.map_none, Int.reducePow, ↓reduceIte, Nat.reduceEqDiff, reduceCtorEq, and_self]
  refine get_cl g hby hsl fun c3 h8 le x8 => ?_
  obtain ⟨e1, e2, e3, rfl, _, _, _, oe1, oe2, oe3⟩ := rc_inv le
  simp only [RW, oe1, oe2, oe3, R0, R1, R2, R3, R4, R5, R6, R7, R8, R9, VOp.fresh, bxC, bsC, R10, un, most, callsOf, List.contains_nil, List.contains_cons, beq_iff_eq, List.getElem?_cons_zero, List.getElem?_cons_succ, seval, Option.map_none, Int.reducePow, ↓reduceIte, Nat.reduceEqDiff, reduceCtorEq, and_self]
  have y8 : Ext h8 ((h8.mk' h8.next (.cells zRc 29 0)).put h8.next (.cells [.int .i64 (getR s).kind, .int .i64 (getR s).node, .int .i64 (getR s).seq, .int .i64 (getR s).base, .bool (getR s).commit, .int .i64 (getR s).m.epoch, e1, e2, e3] 29 1)) := ⟨by rw [put_next, mk_next]; omega, fun b hb => by rw [Heap.get_put, if_neg (by omega), Heap.get_mk, if_neg (by omega)]⟩
  have nI : ((h8.mk' h8.next (.cells zRc 29 0)).put h8.next (.cells [.int .i64 (getR s).kind, .int .i64 (getR s).node, .int .i64 (getR s).seq, .int .i64 (getR s).base, .bool (getR s).commit, .int .i64 (getR s).m.epoch, e1, e2, e3] 29 1)).next = h8.next + 1 := by rw [put_next, mk_next]; omega
  have gI : ((h8.mk' h8.next (.cells zRc 29 0)).put h8.next (.cells [.int .i64 (getR s).kind, .int .i64 (getR s).node, .int .i64 (getR s).seq, .int .i64 (getR s).base, .bool (getR s).commit, .int .i64 (getR s).m.epoch, e1, e2, e3] 29 1)).get h8.next = some (.cells [.int .i64 (getR s).kind, .int .i64 (getR s).node, .int .i64 (getR s).seq, .int .i64 (getR s).base, .bool (getR s).commit, .int .i64 (getR s).m.epoch, e1, e2, e3] 29 1) := by rw [Heap.get_put, if_pos rfl]
  have z8 := x8.trans y8
  have s67n := s67.1
  have le8 := le.frame y8.1 fun b _ hb => y8.2 b hb
  have ld8 := (ld5.frame s67.1 fun b hb hl => (s67.2 b hl).1 fun c => by omega).frame z8.1 fun b _ hb => z8.2 b hb
  have gId := (z8.2 h5.next (by omega)).trans (((s67.2 h5.next (by omega)).1 fun c => by omega).trans gG)
  generalize (h8.mk' h8.next (.cells zRc 29 0)).put h8.next (.cells [.int .i64 (getR s).kind, .int .i64 (getR s).node, .int .i64 (getR s).seq, .int .i64 (getR s).base, .bool (getR s).commit, .int .i64 (getR s).m.epoch, e1, e2, e3] 29 1) = h8' at *
  have gJ := (x8.2 h5.next (by omega)).trans (((s67.2 h5.next (by omega)).1 fun c => by omega).trans gG)
  have x8n := x8.1
  have hne : ¬ h5.next = h8.next := by omega
  simp only [gJ, hne, R0, R1, R2, R3, R4, R5, R6, R7, R8, R9, VOp.fresh, bxC, bsC, R10, un, most, callsOf, List.contains_nil, List.contains_cons, beq_iff_eq, List.getElem?_cons_zero, List.getElem?_cons_succ, seval, Option.map_none, Int.reducePow, ↓reduceIte, Nat.reduceEqDiff, reduceCtorEq, and_self]
  refine (sRec_pu g rr rr).cl (.cons (.agg le8.fzs) (.cons (.agg ld8.fzs) .nil)) ?_
  rintro v rfl
  simp only [R0, R1, R2, R3, R4, R5, R6, R7, R8, R9, VOp.fresh, bxC, bsC, R10, un, most, callsOf, List.contains_nil, List.contains_cons, beq_iff_eq, List.getElem?_cons_zero, List.getElem?_cons_succ, seval, Option.map_none, Int.reducePow, ↓reduceIte, Nat.reduceEqDiff, reduceCtorEq, and_self]
  refine (awake_pu g).go rfl ?_
  rintro v rfl
  simp only [R0, R1, R2, R3, R4, R5, R6, R7, R8, R9, VOp.fresh, bxC, bsC, R10, un, most, callsOf, List.contains_nil, List.contains_cons, beq_iff_eq, List.getElem?_cons_zero, List.getElem?_cons_succ, seval, Option.map_none, Int.reducePow, ↓reduceIte, Nat.reduceEqDiff, reduceCtorEq, and_self]
/-- what the law is handed -/
abbrev shRc : List Sh := [.int .i64, .int .i64, .int .i64, .int .i64, .bool, .int .i64, .sl 8 [.int .i64], .sl 8 [.int .i64], .sl 112 shOp]
theorem wRc {c : List AV} (h : Ws shRc c) : ∃ r, RRc r c ∧ I64 r.m.epoch := by
  cases h with | cons h1 t => cases t with | cons h2 t => cases t with | cons h3 t => cases t with | cons h4 t => cases t with | cons h5 t => cases t with | cons h6 t => cases t with | cons h7 t => cases t with | cons h8 t => cases t with | cons h9 t =>
    cases t; cases h1 with | int _ n1 w1 => cases h2 with | int _ n2 w2 => cases h3 with | int _ n3 w3 => cases h4 with | int _ n4 w4 => cases h5 with | bool b5 => cases h6 with | int _ n6 w6 =>
      obtain ⟨l7, e7⟩ := h7.isL wInt
      obtain ⟨l8, e8⟩ := h8.isL wInt
      obtain ⟨l9, e9⟩ := h9.isL wOp
      exact ⟨⟨n1, n2, n3, n4, b5, ⟨n6, l7, l8⟩, l9⟩, ⟨_, _, _, rfl, e7, e8, e9⟩, i64_wf w6⟩
/-- a struct handed over -/
theorem open_agg {w : World} {v : Value} {avs : List AV} (h : VRs none0 w avs v.cells.toList) (hl : avs.length ≠ 1) : VR none0 w (.agg avs) v := by
  cases v with
  | agg cs => exact .agg h
  | _ => exact absurd h.length hl
theorem str_by {s : ByteArray} (h : s.data.toList.length ≤ reachBytes) : By (s.data.toList.map fun c => c.toNat) ∧ (s.data.toList.map fun c => c.toNat).length < 4611686018427387904 := by
  refine ⟨fun n hn => ?_, ?_⟩
  · obtain ⟨c, _, rfl⟩ := List.mem_map.1 hn
    exact c.toNat_lt
  · rw [List.length_map]
    rw [reach_eq] at h
    omega
end
end Go.Proofs.Ytinonmcnofjeeaa.VM
