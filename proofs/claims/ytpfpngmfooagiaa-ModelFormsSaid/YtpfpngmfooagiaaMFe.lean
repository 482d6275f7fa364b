/- Part of a proof: what stands for the program, and its walk. No condition. -/
import Derived.Below
import Derived.ChangeArms
import Derived.ChangeMaps5
import Derived.Deep.DeepAppendWide
import Derived.Laws.Cells
import Derived.Laws.IdiomCopy
import Derived.MapKept
import Derived.OrdersIn
import Derived.RangeFuncLeaves
import Derived.RangeFuncRecord
import Derived.Shelf.Spec.SlicesInsertGrow
import Derived.SizedLaws
import Derived.WalkKit
import Derived.WalkLawsBesides
import GoSem.Claim
import Derived.Test.YtpfpngmfooagiaaMFd
set_option linter.unusedSimpArgs false
set_option linter.unusedVariables false
set_option linter.defProp false
set_option maxHeartbeats 1000000
namespace Go.Proofs.Ytpfpngmfooagiaa.VM
attribute [local irreducible] Af Nx EvO Ev Un Gd Cd EvR EvQ EvC Nc Gc Lp EvM NxM AfM GdM EvMR EvMQ EvMD EvMC Nm Gm
theorem Cat.cut {α : Type} {R : α → List AV → Prop} : ∀ {l1 l2 : List α} {t : List AV}, Cat R (l1 ++ l2) t → ∃ t1 t2, t = t1 ++ t2 ∧ Cat R l1 t1 ∧ Cat R l2 t2
  | [], _, t, c => ⟨[], t, rfl, .nil, c⟩
  | _ :: l1, _, _, .cons (c := c) h r => by
    obtain ⟨t1, t2, rfl, a, b⟩ := r.cut (l1 := l1)
    exact ⟨c ++ t1, t2, (List.append_assoc _ _ _).symm, .cons h a, b⟩
end Go.Proofs.Ytpfpngmfooagiaa.VM
namespace Go.Proofs.Ytpfpngmfooagiaa.VM
attribute [local irreducible] Af Nx EvO Ev Un Gd Cd EvR EvQ EvC Nc Gc Lp EvM NxM AfM GdM EvMR EvMQ EvMD EvMC Nm Gm
def inB (p : Pt) (b : Bx) : Prop := b.x0 ≤ p.x ∧ p.x ≤ b.x1 ∧ b.y0 ≤ p.y ∧ p.y ≤ b.y1
instance (p : Pt) (b : Bx) : Decidable (inB p b) := by unfold inB; infer_instance
section
variable {P : Program}
theorem within_pu (g : Pg P tab) {p : Pt} {b : Bx} (hp : ptOk p) (hb : bOk b) : Pu P 38 [aPt p, aBx b] (fun v => v = .bool (decide (inB p b))) := by
  refine g.pu (vf := v38) rfl rfl ?_
  simp only [v38, aPt, aBx, HN, RW, RX, VOp.fresh, bxC, bsC, un, most, callsOf, seval, Int.reducePow, ↓reduceIte, Nat.reduceEqDiff, reduceCtorEq]
  refine (pointMay_pu g p).go rfl ?_
  rintro _ rfl
  have hp' : decide (ptOk p) = true := decide_eq_true hp
  rw [hp']
  simp only [HN, RW, RX, VOp.fresh, bxC, bsC, un, most, callsOf, seval, Int.reducePow, ↓reduceIte, Nat.reduceEqDiff, reduceCtorEq]
  refine (boxMay_pu g b.x0 b.y0 b.x1 b.y1).go rfl ?_
  rintro _ rfl
  have hb' : decide (bxOk b.x0 b.y0 b.x1 b.y1) = true := decide_eq_true hb
  rw [hb']
  by_cases c1 : b.x0 ≤ p.x
  · by_cases c2 : p.x ≤ b.x1
    · by_cases c3 : b.y0 ≤ p.y
      · by_cases c4 : p.y ≤ b.y1
        · simp only [c1, c2, c3, c4, inB, HN, RW, RX, VOp.fresh, bxC, bsC, un, most, callsOf, seval, Int.reducePow, ↓reduceIte, Nat.reduceEqDiff, reduceCtorEq]
        · simp only [c1, c2, c3, c4, inB, HN, RW, RX, VOp.fresh, bxC, bsC, un, most, callsOf, seval, Int.reducePow, ↓reduceIte, Nat.reduceEqDiff, reduceCtorEq]
      · simp only [c1, c2, c3, inB, HN, RW, RX, VOp.fresh, bxC, bsC, un, most, callsOf, seval, Int.reducePow, ↓reduceIte, Nat.reduceEqDiff, reduceCtorEq]
    · simp only [c1, c2, inB, HN, RW, RX, VOp.fresh, bxC, bsC, un, most, callsOf, seval, Int.reducePow, ↓reduceIte, Nat.reduceEqDiff, reduceCtorEq]
  · simp only [c1, inB, HN, RW, RX, VOp.fresh, bxC, bsC, un, most, callsOf, seval, Int.reducePow, ↓reduceIte, Nat.reduceEqDiff, reduceCtorEq]
/-- where the rounds over the places stand -/
structure MtJ (r : LoopB) (N fb bb qb ib : Nat) (fc : List AV) (b : Bx) (h : Heap) : Prop where
  lt : N < h.next ∧ fb < N ∧ bb < N ∧ qb < N ∧ ib < N ∧ fb ≠ qb ∧ fb ≠ ib ∧ bb ≠ qb ∧ bb ≠ ib ∧ qb ≠ ib
  lp : h.get N = some (.loop r)
  f : ∃ ver, h.get fb = some (.cells fc 31 ver)
  bx : ∃ ver, h.get bb = some (.cells [.int .i64 b.x0, .int .i64 b.y0, .int .i64 b.x1, .int .i64 b.y1] 45 ver)
  q : ∃ ver, h.get qb = some (.cells [.bool false] 4 ver)
  i : ∃ ver, h.get ib = some (.cells [.int .i64 0] 25 ver)
theorem MtJ.ext {r : LoopB} {N fb bb qb ib : Nat} {fc : List AV} {b : Bx} {h h' : Heap} (j : MtJ r N fb bb qb ib fc b h) (x : Ext h h') : MtJ r N fb bb qb ib fc b h' := by
  obtain ⟨h1, h2, h3, h4, h5, h6⟩ := j.lt
  refine ⟨⟨Nat.lt_of_lt_of_le h1 x.1, h2, h3, h4, h5, h6⟩, by rw [x.2 _ h1]; exact j.lp, ?_, ?_, ?_, ?_⟩
  · obtain ⟨v, e⟩ := j.f
    exact ⟨v, by rw [x.2 _ (by omega)]; exact e⟩
  · obtain ⟨v, e⟩ := j.bx
    exact ⟨v, by rw [x.2 _ (by omega)]; exact e⟩
  · obtain ⟨v, e⟩ := j.q
    exact ⟨v, by rw [x.2 _ (by omega)]; exact e⟩
  · obtain ⟨v, e⟩ := j.i
    exact ⟨v, by rw [x.2 _ (by omega)]; exact e⟩
def MtX (r : LoopB) (N qb ib : Nat) (h : Heap) : Prop := h.get N = some (.loop (r.left .ret)) ∧ (∃ ver, h.get qb = some (.cells [.bool true] 4 ver)) ∧ ∃ ver, h.get ib = some (.cells [.int .i64 0] 25 ver)
theorem meets_round (g : Pg P tab) {s : T AV} {N fb bb qb ib : Nat} (t3 : sg s 3 = .ptr bb 0) (t4 : sg s 4 = .ptr qb 0) (t5 : sg s 5 = .ptr ib 0) {fc : List AV} {b : Bx} (hb : bOk b) {p : Pt} (hp : ptOk p) {r : LoopB} (hr : r = ⟨P, s, [20], b25_0, b25_1, 0, none⟩) {h : Heap} (j : MtJ r N fb bb qb ib fc b h) :
    Cl P (yf N) [aPt p] h fun w h' => (w = .bool true ∧ MtJ r N fb bb qb ib fc b h' ∧ ¬ inB p b) ∨ (w = .bool false ∧ MtX r N qb ib h' ∧ inB p b) := by
  obtain ⟨l1, l2, l3, l4, l5, l6, l7, l8, l9, l10⟩ := j.lt
  refine yield_cl g.hm j.lp (by rw [hr]) (by rw [hr]) (by rw [hr]) (by rw [hr]; rfl) (by rw [hr]; rfl) (by rw [hr]; rfl) ?_
  rw [show r.asg = b25_0 by rw [hr], show r.body = b25_1 by rw [hr], show setps r.ps [aPt p] r.s = s.set 20 (aPt p) by rw [hr]; rfl]
  simp only [b25_0, aPt, RW, RX, VOp.fresh, bxC, bsC, un, most, callsOf, seval, Int.reducePow, ↓reduceIte, Nat.reduceEqDiff, reduceCtorEq]
  have e1 : ¬ N = h.next := by omega
  have e4 : ¬ h.next = N := by omega
  obtain ⟨vf, gf⟩ := j.f
  obtain ⟨vb, gb⟩ := j.bx
  obtain ⟨vq, gq⟩ := j.q
  obtain ⟨vi, gi⟩ := j.i
  refine ⟨by simp only [e1, if_false]; exact j.lp, ?_⟩
  obtain ⟨h1, eh1⟩ : ∃ h1, h1 = (((h.mk' h.next (.cells [.int .i64 0, .int .i64 0] 47 0)).put h.next (.cells [.int .i64 p.x, .int .i64 p.y] 47 1)).put N (.loop r.busy)) := ⟨_, rfl⟩
  have k1 : h1.get h.next = some (.cells [.int .i64 p.x, .int .i64 p.y] 47 1) := by rw [eh1, Heap.get_put, if_neg e4, Heap.get_put, if_pos rfl]
  have kk : ∀ d, d < N → h1.get d = h.get d := fun d hd => by rw [eh1, Heap.get_put, if_neg (by omega), Heap.get_put, if_neg (by omega), Heap.get_mk, if_neg (by omega)]
  have k3 : h1.get N = some (.loop r.busy) := by rw [eh1, Heap.get_put, if_pos rfl]
  have hn1 : h1.next = h.next + 1 := by rw [eh1, put_next, put_next, mk_next]; omega
  have gb1 := (kk bb l3).trans gb
  have gq1 := (kk qb l4).trans gq
  have gi1 := (kk ib l5).trans gi
  have gf1 := (kk fb l2).trans gf
  have hqi : ¬ ib = qb := fun e => l10 e.symm
  have n1 : ¬ N = qb := by omega
  have n2 : ¬ N = ib := by omega
  rw [← eh1]
  simp only [b25_1, t3, k1, gb1, RW, RX, VOp.fresh, bxC, bsC, un, most, callsOf, seval, Int.reducePow, ↓reduceIte, Nat.reduceEqDiff, reduceCtorEq]
  refine (within_pu g hp hb).go rfl ?_
  rintro _ rfl
  by_cases hi : inB p b
  · simp only [hi, t4, t5, gq1, gi1, hqi, RW, RX, VOp.fresh, bxC, bsC, un, most, callsOf, seval, Int.reducePow, ↓reduceIte, Nat.reduceEqDiff, reduceCtorEq]
    refine ⟨by rw [if_neg n2, if_neg n1]; exact k3, .inr ⟨rfl, by rw [Heap.get_put, if_pos rfl], ⟨vq + 1, ?_⟩, ⟨vi + 1, ?_⟩⟩⟩
    · rw [Heap.get_put, if_neg (fun e => n1 e.symm), Heap.get_put, if_neg l10, Heap.get_put, if_pos rfl]
    · rw [Heap.get_put, if_neg (fun e => n2 e.symm), Heap.get_put, if_pos rfl]
  · simp only [hi, RW, RX, VOp.fresh, bxC, bsC, un, most, callsOf, seval, Int.reducePow, ↓reduceIte, Nat.reduceEqDiff, reduceCtorEq]
    refine ⟨k3, .inl ⟨rfl, ⟨by rw [put_next, hn1]; omega, l2, l3, l4, l5, l6, l7, l8, l9, l10⟩, by rw [Heap.get_put, if_pos rfl], ⟨vf, ?_⟩, ⟨vb, ?_⟩, ⟨vq, ?_⟩, ⟨vi, ?_⟩⟩⟩
    · rw [Heap.get_put, if_neg (by omega)]; exact gf1
    · rw [Heap.get_put, if_neg (by omega)]; exact gb1
    · rw [Heap.get_put, if_neg (by omega)]; exact gq1
    · rw [Heap.get_put, if_neg (by omega)]; exact gi1
/-- the rounds over the places -/
theorem meets_go (g : Pg P tab) {f : Feat} {v a0 a1 : AV} (hv : IsL 24 RRing v f.rings) (ho : featOk f) {s : T AV} {N M fb bb qb ib e1 n1 n2 n3 n4 n5 : Nat} (t3 : sg s 3 = .ptr bb 0) (t4 : sg s 4 = .ptr qb 0) (t5 : sg s 5 = .ptr ib 0) {h : Heap} (hN : h.next = N) (gM : h.get M = some (.cells [.ptr fb 0] e1 n1)) (gf : h.get fb = some (.cells [a0, a1, v] 31 n2))
    (l0 : M < N ∧ fb < N ∧ bb < N ∧ qb < N ∧ ib < N ∧ fb ≠ qb ∧ fb ≠ ib ∧ bb ≠ qb ∧ bb ≠ ib ∧ qb ≠ ib) {b : Bx} (hb : bOk b) (gb : h.get bb = some (.cells [.int .i64 b.x0, .int .i64 b.y0, .int .i64 b.x1, .int .i64 b.y1] 45 n3)) (gq : h.get qb = some (.cells [.bool false] 4 n4)) (gi : h.get ib = some (.cells [.int .i64 0] 25 n5)) {Q : Ex → T AV → Heap → Prop}
    (qN : ∀ h' v1 v2 v3 v4, N ≤ h'.next → h'.get fb = some (.cells [a0, a1, v] 31 v1) → h'.get bb = some (.cells [.int .i64 b.x0, .int .i64 b.y0, .int .i64 b.x1, .int .i64 b.y1] 45 v2) → h'.get qb = some (.cells [.bool false] 4 v3) → h'.get ib = some (.cells [.int .i64 0] 25 v4) → (∀ p ∈ fPts f, ¬ inB p b) → Q .normal s h')
    (qR : ∀ h' v1 v2, h'.get qb = some (.cells [.bool true] 4 v1) → h'.get ib = some (.cells [.int .i64 0] 25 v2) → (∃ p ∈ fPts f, inB p b) → Q .ret s h') :
    56 < YB ∧ Cl P 56 [.yld N, .ptr M 0] (h.mk' N (.loop ⟨P, s, [20], b25_0, b25_1, 0, none⟩)) fun _ h2 => LoopEnd N s h2 Q := by
  obtain ⟨q1, q2, q3, q4, q5, q6⟩ := l0
  refine ⟨by decide, ?_⟩
  obtain ⟨r, hr⟩ : ∃ r : LoopB, r = ⟨P, s, [20], b25_0, b25_1, 0, none⟩ := ⟨_, rfl⟩
  rw [← hr]
  refine (pts_cl g hv (bb := M) (fb := fb) (e1 := e1) (n1 := n1) (e2 := 31) (n2 := n2) (a0 := a0) (a1 := a1) (J := fun pre h => MtJ r N fb bb qb ib [a0, a1, v] b h ∧ ∀ p ∈ pre, ¬ inB p b) (Jx := fun h => MtX r N qb ib h ∧ ∃ p ∈ fPts f, inB p b) (fun j x => ⟨j.1.ext x, j.2⟩) (fun pre p h hpre j => ?_) ?_ ?_ ?_).mono fun _ h2 hj => ?_
  · have hm : p ∈ fPts f := hpre.subset (by simp)
    refine (meets_round g t3 t4 t5 hb (ho.pts p hm) hr j.1).mono ?_
    rintro w h' (⟨rfl, j', hi⟩ | ⟨rfl, jx, hi⟩)
    · refine .inl ⟨rfl, j', fun q hq => ?_⟩
      rcases List.mem_append.1 hq with hq | hq
      · exact j.2 q hq
      · rw [List.mem_singleton.1 hq]; exact hi
    · exact .inr ⟨rfl, jx, p, hm, hi⟩
  · rw [Heap.get_mk, if_neg (by omega)]; exact gM
  · rw [Heap.get_mk, if_neg (by omega)]; exact gf
  · refine ⟨⟨⟨by rw [← hN, mk_next]; omega, q2, q3, q4, q5, q6⟩, by rw [Heap.get_mk, if_pos rfl], ⟨n2, ?_⟩, ⟨n3, ?_⟩, ⟨n4, ?_⟩, ⟨n5, ?_⟩⟩, fun p hp => by simp at hp⟩
    · rw [Heap.get_mk, if_neg (by omega)]; exact gf
    · rw [Heap.get_mk, if_neg (by omega)]; exact gb
    · rw [Heap.get_mk, if_neg (by omega)]; exact gq
    · rw [Heap.get_mk, if_neg (by omega)]; exact gi
  · rcases hj with ⟨j, hno⟩ | ⟨⟨x1, ⟨v1, x2⟩, ⟨v2, x3⟩⟩, hyes⟩
    · unfold LoopEnd
      rw [j.lp]
      obtain ⟨v1, g1⟩ := j.f
      obtain ⟨v2, g2⟩ := j.bx
      obtain ⟨v3, g3⟩ := j.q
      obtain ⟨v4, g4⟩ := j.i
      have hfin : Q .normal s (h2.put N .dead) := qN _ v1 v2 v3 v4 (by rw [put_next]; have := j.lt.1; omega) (by rw [Heap.get_put, if_neg (by omega)]; exact g1) (by rw [Heap.get_put, if_neg (by omega)]; exact g2) (by rw [Heap.get_put, if_neg (by omega)]; exact g3) (by rw [Heap.get_put, if_neg (by omega)]; exact g4) hno
      rw [hr]
      exact ⟨rfl, hfin⟩
    · unfold LoopEnd
      rw [x1]
      have hfin : Q .ret s (h2.put N .dead) := qR _ v1 v2 (by rw [Heap.get_put, if_neg (by omega)]; exact x2) (by rw [Heap.get_put, if_neg (by omega)]; exact x3) hyes
      exact ⟨rfl, hfin⟩
theorem str_mk (g : Pg P tab) {fb : Nat} {h : Heap} : Cl P 40 [.ptr fb 0] h fun w h' => w = .fn 57 [.ptr h.next 0] ∧ h' = h.mk' h.next (.cells [.ptr fb 0] 79 0) := by
  refine g.cl (vf := v40) rfl rfl ?_
  simp only [v40, RX, VOp.fresh, bxC, bsC, un, most, callsOf, seval, Int.reducePow, ↓reduceIte, Nat.reduceEqDiff, reduceCtorEq]
/-- one place has no stretch -/
theorem str1_cl (g : Pg P tab) {p : Pt} {v a0 : AV} (hv : IsL 24 RRing v [[p]]) {yb M fb e1 n1 e2 n2 : Nat} {h : Heap} (gM : h.get M = some (.cells [.ptr fb 0] e1 n1)) (gf : h.get fb = some (.cells [a0, .int .i64 0, v] e2 n2)) :
    Cl P 57 [.yld yb, .ptr M 0] h fun _ h' => h' = h := by
  refine g.cl (vf := v57) rfl rfl ?_
  obtain ⟨rv, r1, hrv, _, g1⟩ := getRing hv 0 (by simp)
  have hl : ∀ hh, lnV hh v = .val (.int .i64 1) hh := hv.len
  have hl2 : ∀ hh, lnV hh rv = .val (.int .i64 1) hh := hrv.len
  have g1' := fun hh => g1 hh .i64
  simp only [Int.natCast_zero, Int.ofNat_zero, Int.cast_ofNat_Int] at g1'
  simp only [v57, gM, gf, hl, RX, VOp.fresh, bxC, bsC, un, most, callsOf, seval, Int.reducePow, ↓reduceIte, Nat.reduceEqDiff, reduceCtorEq]
  refine g.lpe b57_1.eq_1 ?_
  simp only [g1', RX, VOp.fresh, bxC, bsC, un, most, callsOf, seval, Int.reducePow, ↓reduceIte, Nat.reduceEqDiff, reduceCtorEq]
  refine g.lpe b57_0.eq_1 ?_
  simp only [hl2, gM, gf, HN, RW, RX, VOp.fresh, bxC, bsC, un, most, callsOf, seval, Int.reducePow, ↓reduceIte, Nat.reduceEqDiff, reduceCtorEq]
  refine EvD.same (fun _ _ h => (.undef, h)) rfl ?_
  simp only [gM, gf, RW, RX, VOp.fresh, bxC, bsC, un, most, callsOf, seval, Int.reducePow, ↓reduceIte, Nat.reduceEqDiff, reduceCtorEq]
  refine g.lpe b57_1.eq_1 ?_
  simp only [v57, RX, VOp.fresh, bxC, bsC, un, most, callsOf, seval, Int.reducePow, ↓reduceIte, Nat.reduceEqDiff, reduceCtorEq]
theorem loopEnd_fresh {N : Nat} {s : T AV} {h : Heap} {r : LoopB} {Q : Ex → T AV → Heap → Prop} (hp : r.pend = none) (h0 : r.state = 0) (q : ∀ h2, (∀ d, d < N → h2.get d = h.get d) → Q .normal s h2) : LoopEnd N s (h.mk' N (.loop r)) Q := by
  unfold LoopEnd
  rw [Heap.get_mk, if_pos rfl]
  simp only [hp]
  exact ⟨h0, q _ fun d hd => by rw [Heap.get_put, if_neg (by omega), Heap.get_mk, if_neg (by omega)]⟩
theorem corners_pu (g : Pg P tab) (b : Bx) : Pu P 39 [aBx b] (fun w => w = .agg [.int .i64 b.x0, .int .i64 b.y0, .int .i64 b.x1, .int .i64 b.y0, .int .i64 b.x1, .int .i64 b.y1, .int .i64 b.x0, .int .i64 b.y1]) := by
  refine g.pu (vf := v39) rfl rfl ?_
  simp only [v39, aBx, HN, RW, RX, VOp.fresh, bxC, bsC, un, most, callsOf, seval, Int.reducePow, ↓reduceIte, Nat.reduceEqDiff, reduceCtorEq]
  exact ⟨_, .agg (scals_fz rfl), rfl⟩
theorem meets1_pu (g : Pg P tab) {id : Int} {p : Pt} {b : Bx} {v : AV} (hv : IsL 24 RRing v [[p]]) (ho : featOk ⟨id, 0, [[p]]⟩) (hb : bOk b) : Pu P 25 [.agg [.int .i64 id, .int .i64 0, v], aBx b] (fun w => w = .tup [.bool (decide (inB p b)), .int .i64 0]) := by
  refine g.pu (vf := v25) rfl rfl ?_
  simp only [v25, aBx, RW, RX, VOp.fresh, bxC, bsC, un, most, callsOf, seval, Int.reducePow, ↓reduceIte, Nat.reduceEqDiff, reduceCtorEq]
  refine (shapeMay_pu g (f := ⟨id, 0, [[p]]⟩) hv).go (by simp [AV.tolds, AV.told, hv.told tRing]) ?_
  rintro _ ⟨q, rfl, hq⟩
  obtain rfl : q = true := hq.2 ho
  simp only [RW, RX, VOp.fresh, bxC, bsC, un, most, callsOf, seval, Int.reducePow, ↓reduceIte, Nat.reduceEqDiff, reduceCtorEq]
  refine (boxMay_pu g b.x0 b.y0 b.x1 b.y1).go rfl ?_
  rintro _ rfl
  have hb' : decide (bxOk b.x0 b.y0 b.x1 b.y1) = true := decide_eq_true hb
  rw [hb']
  simp only [RW, RX, VOp.fresh, bxC, bsC, un, most, callsOf, seval, Int.reducePow, ↓reduceIte, Nat.reduceEqDiff, reduceCtorEq]
  refine (pts_mk g).mono ?_
  rintro _ _ ⟨rfl, rfl⟩
  simp only [RW, RX, VOp.fresh, bxC, bsC, un, most, callsOf, seval, Int.reducePow, ↓reduceIte, Nat.reduceEqDiff, reduceCtorEq]
  refine meets_go g (f := ⟨id, 0, [[p]]⟩) (a0 := .int .i64 id) (a1 := .int .i64 0) (fb := 0) (bb := 1) (qb := 2) (ib := 3) (M := 4) hv ho (b := b) ?_ ?_ ?_ ?_ (e1 := 79) (n1 := 0) ?_ (n2 := 0) ?_ (by decide) hb (n3 := 0) ?_ (n4 := 0) ?_ (n5 := 0) ?_ (fun h' v1 v2 v3 v4 k0 k1 k2 k3 k4 hno => ?_) fun h' v1 v2 k1 k2 hyes => ?_
  · simp only [sg_set, Nat.reduceEqDiff, ↓reduceIte]
  · simp only [sg_set, Nat.reduceEqDiff, ↓reduceIte]
  · simp only [sg_set, Nat.reduceEqDiff, ↓reduceIte]
  · rfl
  · rfl
  · rfl
  · rfl
  · rfl
  · rfl
  · have hi : ¬ inB p b := hno p (by simp [fPts])
    simp only [k1, k2, k3, k4, RW, RX, VOp.fresh, bxC, bsC, un, most, callsOf, seval, Int.reducePow, ↓reduceIte, Nat.reduceEqDiff, reduceCtorEq]
    refine (corners_pu g b).go rfl ?_
    rintro _ rfl
    simp only [k1, k2, k3, k4, HN, RW, RX, VOp.fresh, bxC, bsC, un, most, callsOf, seval, Int.reducePow, ↓reduceIte, Nat.reduceEqDiff, reduceCtorEq]
    refine (str_mk g).mono ?_
    rintro _ _ ⟨rfl, rfl⟩
    simp only [RW, RX, VOp.fresh, bxC, bsC, un, most, callsOf, seval, Int.reducePow, ↓reduceIte, Nat.reduceEqDiff, reduceCtorEq]
    have hn : 5 ≤ h'.next := k0
    obtain ⟨H0, eH0⟩ : ∃ H0, H0 = ((h'.mk' h'.next (.cells [.int .i64 0, .int .i64 0, .int .i64 0, .int .i64 0, .int .i64 0, .int .i64 0, .int .i64 0, .int .i64 0] 81 0)).put h'.next (.cells [.int .i64 b.x0, .int .i64 b.y0, .int .i64 b.x1, .int .i64 b.y0, .int .i64 b.x1, .int .i64 b.y1, .int .i64 b.x0, .int .i64 b.y1] 81 1)).mk' (h'.next + 1) (.cells [.ptr 0 0] 79 0) := ⟨_, rfl⟩
    have kp : ∀ d, d < h'.next → H0.get d = h'.get d := fun d hd => by rw [eH0, Heap.get_mk, if_neg (by omega), Heap.get_put, if_neg (by omega), Heap.get_mk, if_neg (by omega)]
    have kM : H0.get (h'.next + 1) = some (.cells [.ptr 0 0] 79 0) := by rw [eH0, Heap.get_mk, if_pos rfl]
    rw [← eH0]
    refine ⟨by decide, (str1_cl g hv (M := h'.next + 1) (fb := 0) (e1 := 79) (n1 := 0) (e2 := 31) (n2 := v1) (a0 := .int .i64 id) ?_ ?_).mono fun _ h2 e => ?_⟩
    · rw [Heap.get_mk, if_neg (by omega)]; exact kM
    · rw [Heap.get_mk, if_neg (by omega), kp _ (by omega)]; exact k1
    rw [e]
    refine loopEnd_fresh rfl rfl fun H1 kq => ?_
    have j0 : H1.get 0 = some (.cells [.int .i64 id, .int .i64 0, v] 31 v1) := by rw [kq _ (by omega), kp _ (by omega)]; exact k1
    have j2 : H1.get 2 = some (.cells [.bool false] 4 v3) := by rw [kq _ (by omega), kp _ (by omega)]; exact k3
    have j3 : H1.get 3 = some (.cells [.int .i64 0] 25 v4) := by rw [kq _ (by omega), kp _ (by omega)]; exact k4
    simp only [j0, j2, j3, hi, HN, RW, RX, VOp.fresh, bxC, bsC, un, most, callsOf, seval, Int.reducePow, ↓reduceIte, Nat.reduceEqDiff, reduceCtorEq]
    exact ⟨_, .tup (.cons (.bool _) (.cons (.int _ _) .nil)), rfl⟩
  · obtain ⟨q, hq, hi⟩ := hyes
    obtain rfl : q = p := by simpa [fPts] using hq
    simp only [k1, k2, hi, RW, RX, VOp.fresh, bxC, bsC, un, most, callsOf, seval, Int.reducePow, ↓reduceIte, Nat.reduceEqDiff, reduceCtorEq]
    exact ⟨_, .tup (.cons (.bool _) (.cons (.int _ _) .nil)), rfl⟩
end
end Go.Proofs.Ytpfpngmfooagiaa.VM
namespace Go.Proofs.Ytpfpngmfooagiaa.VM
attribute [local irreducible] Af Nx EvO Ev Un Gd Cd EvR EvQ EvC Nc Gc Lp EvM NxM AfM GdM EvMR EvMQ EvMD EvMC Nm Gm
/-- slices.Insert, told -/
def insFX : Told := fun f args h => bif Nat.beq f 22 then
    match args with
    | [.sl b 0 n _ 3, .int .i64 (.ofNat i), .sl vb 0 1 1 3] => match h.get b, h.get vb with
      | some (.cells C _ _), some (.cells x _ _) => bif Nat.ble (n * 3) C.length && C.all AV.one && Nat.beq x.length 3 && x.all AV.one && Nat.ble i n && !(Nat.beq vb b) && Nat.ble n 999999 then
          some (.sl h.next 0 (n + 1) (n + 1) 3, (h.put b .dead).mk' h.next (.cells ((C.take (n * 3)).take (i * 3) ++ x ++ (C.take (n * 3)).drop (i * 3)) 31 0)) else none
      | _, _ => none
    | [.nils, .int .i64 (.ofNat 0), .sl vb 0 1 1 3] => match h.get vb with
      | some (.cells x _ _) => bif Nat.beq x.length 3 && x.all AV.one then some (.sl h.next 0 1 1 3, h.mk' h.next (.cells x 31 0)) else none
      | _ => none
    | _ => none
  else none
theorem insFX_ok {P : Program} (hins : InsF P 22 31) : CallOk P insFX := by
  intro f args h v h' e
  unfold insFX at e
  rw [T.beq_dec] at e
  by_cases hf : f = 22
  · rw [decide_eq_true hf, cond_true] at e
    subst hf
    split at e
    · split at e
      · rename_i b n cap i vb _ _ C e1 w1 x e2 w2 g1 g2
        cases hc : (Nat.ble (n * 3) C.length && C.all AV.one && Nat.beq x.length 3 && x.all AV.one && Nat.ble i n && !(Nat.beq vb b) && Nat.ble n 999999) with
        | false => rw [hc, cond_false] at e; cases e
        | true =>
          rw [hc, cond_true] at e
          cases e
          simp only [Bool.and_eq_true, Bool.not_eq_true', Nat.beq_eq, Nat.ble_eq] at hc
          obtain ⟨⟨⟨⟨⟨⟨a1, a2⟩, a3⟩, a4⟩, a5⟩, a6⟩, a7⟩ := hc
          obtain ⟨_, hh⟩ := hins a3 a4 g2
          exact hh g1 a1 a2 a5 (fun e => by rw [e, Nat.beq_refl] at a6; cases a6) (by omega)
      · cases e
    · split at e
      · rename_i vb _ x e2 w2 g2
        cases hc : (Nat.beq x.length 3 && x.all AV.one) with
        | false => rw [hc, cond_false] at e; cases e
        | true =>
          rw [hc, cond_true] at e
          cases e
          simp only [Bool.and_eq_true, Nat.beq_eq] at hc
          exact (hins hc.1 hc.2 g2).1
      · cases e
    · cases e
  · rw [decide_eq_false hf, cond_false] at e; cases e
def okI (x : Int) : Bool := decide (0 ≤ x) && decide (x ≤ 4294967295)
def okD (x : Int) : Bool := decide (1 ≤ x) && decide (x ≤ 65535)
/-- the box of a place, and whether a box has a place, told -/
def x24 : Told := fun f args h => bif Nat.beq f 47 then (match args with
    | [a] => (match fz true h 40 a with
      | some (.agg [.int .i64 id, .int .i64 0, .rs [.rs [.int .i64 x, .int .i64 y] 1] 1]) => bif okD id && okI x && okI y then some (.tup [.agg [.int .i64 x, .int .i64 y, .int .i64 x, .int .i64 y], .int .i64 0], h) else none
      | _ => none)
    | _ => none)
  else bif Nat.beq f 25 then (match args with
    | [a, .agg [.int .i64 x0, .int .i64 y0, .int .i64 x1, .int .i64 y1]] => (match fz true h 40 a with
      | some (.agg [.int .i64 id, .int .i64 0, .rs [.rs [.int .i64 x, .int .i64 y] 1] 1]) => bif okD id && okI x && okI y && decide (bOk ⟨x0, y0, x1, y1⟩) then some (.tup [.bool (decide (inB ⟨x, y⟩ ⟨x0, y0, x1, y1⟩)), .int .i64 0], h) else none
      | _ => none)
    | _ => none)
  else insFX f args h
theorem one_feat {id x y : Int} (h : (okD id && okI x && okI y) = true) : IsL 24 RRing (.rs [.rs [.int .i64 x, .int .i64 y] 1] 1) [[⟨x, y⟩]] ∧ featOk ⟨id, 0, [[⟨x, y⟩]]⟩ := by
  simp only [okD, okI, Bool.and_eq_true, decide_eq_true_eq] at h
  obtain ⟨⟨⟨h1, h2⟩, h3, h4⟩, h5, h6⟩ := h
  have hp : IsL 16 RPt (.rs [.int .i64 x, .int .i64 y] 1) [Pt.mk x y] := isL_rs (l := [Pt.mk x y]) (Cat.cons (c := [.int .i64 x, .int .i64 y]) (show RPt (Pt.mk x y) _ from ⟨rfl, ⟨by simp only; omega, by simp only; omega⟩, ⟨by simp only; omega, by simp only; omega⟩⟩) .nil) (by rw [reach_eq]; simp)
  have hr : IsL 24 RRing (.rs [.rs [.int .i64 x, .int .i64 y] 1] 1) [[Pt.mk x y]] := isL_rs (l := [[Pt.mk x y]]) (Cat.cons (c := [.rs [.int .i64 x, .int .i64 y] 1]) (show RRing [Pt.mk x y] _ from ⟨_, rfl, hp⟩) .nil) (by rw [reach_eq]; simp)
  refine ⟨hr, h1, h2, by simp, by simp, .inl ⟨rfl, by simp, by simp, ?_⟩⟩
  simp [ptOk, coordOk, h3, h4, h5, h6]
section
variable {P : Program} {F : Nat → Option VFun}
theorem Cl.exact {f : Nat} {args : List AV} {h h2 : Heap} {a : AV} (c : Cl P f args h fun v h' => v = a ∧ h' = h2) : OK P f args h a h2 := by
  obtain ⟨v, h', o, rfl, rfl⟩ := c
  exact o
theorem x24_ok (g : Pg P tab) (hins : InsF P 22 31) : CallOk P x24 := by
  intro f args h v h' e
  unfold x24 at e
  rw [T.beq_dec, T.beq_dec] at e
  by_cases hf : f = 47
  · rw [decide_eq_true hf, cond_true] at e
    subst hf
    split at e
    · split at e
      · rename_i a id x y hz
        cases hc : (okD id && okI x && okI y) with
        | false => rw [hc, cond_false] at e; cases e
        | true =>
          rw [hc, cond_true] at e
          cases e
          obtain ⟨hv, ho⟩ := one_feat hc
          refine Cl.exact (Pu.cl (R := fun v h' => v = _ ∧ h' = _) (box_pu g (f := Feat.mk id 0 [[⟨x, y⟩]]) hv) (.cons (fz_ok _ _ _ hz) .nil) fun w hw => And.intro ?_ rfl)
          rcases hw with ⟨hn, _⟩ | ⟨_, rfl⟩
          · exact absurd ho hn
          · have ie : ∀ x : Int, imn x x = x ∧ imx x x = x := fun x => by unfold imn imx; constructor <;> split <;> rfl
            simp [fBox, fPts, bxAll, bxJ, bxPt, aBx, ie]
      · cases e
    · cases e
  · rw [decide_eq_false hf, cond_false] at e
    by_cases hf2 : f = 25
    · rw [decide_eq_true hf2, cond_true] at e
      subst hf2
      split at e
      · split at e
        · rename_i a x0 y0 x1 y1 _ id x y hz
          cases hc : (okD id && okI x && okI y && decide (bOk ⟨x0, y0, x1, y1⟩)) with
          | false => rw [hc, cond_false] at e; cases e
          | true =>
            rw [hc, cond_true] at e
            cases e
            rw [Bool.and_eq_true] at hc
            obtain ⟨hv, ho⟩ := one_feat hc.1
            exact Cl.exact (Pu.cl (R := fun v h' => v = _ ∧ h' = _) (meets1_pu g hv ho (b := Bx.mk x0 y0 x1 y1) (of_decide_eq_true hc.2)) (.cons (fz_ok _ _ _ hz) (.cons (Fz.refl rfl) .nil)) fun w hw => And.intro hw rfl)
        · cases e
      · cases e
    · rw [decide_eq_false hf2, cond_false] at e
      exact insFX_ok hins f args h v h' e
theorem Pg.runX (g : Pg P F) {X : Told} (hX : CallOk P X) {n f : Nat} {args : List AV} {w : AV} (hv : (vcall F X n f args ⟨0, .e⟩).bind (fun r => fz false r.2 40 r.1) = some w) : Pu P f args (fun v => v = w) := by
  obtain ⟨⟨v, h'⟩, e1, e2⟩ := Option.bind_eq_some_iff.1 hv
  exact ⟨_, _, h', (vm_ok (drawn_ok g.hm) g.tb hX n).2.2 f args _ _ _ e1, fz_ok _ _ _ e2, rfl⟩
theorem awake24_pu (g : Pg P tab) (hins : InsF P 22 31) : Pu P 6 [] (fun v => v = .bool true) := g.runX (x24_ok g hins) (n := 1000) (by kernel_rfl)
end
end Go.Proofs.Ytpfpngmfooagiaa.VM
namespace Go.Proofs.Ytpfpngmfooagiaa.VM
attribute [local irreducible] Af Nx EvO Ev Un Gd Cd EvR EvQ EvC Nc Gc Lp EvM NxM AfM GdM EvMR EvMQ EvMD EvMC Nm Gm
theorem getD_mem {α : Type} {l : List α} {d x : α} : x ∈ l ↔ ∃ i, i < l.length ∧ l.getD i d = x := by
  constructor
  · intro h
    obtain ⟨i, hi, rfl⟩ := List.mem_iff_getElem.1 h
    exact ⟨i, hi, by simp [List.getD_eq_getElem?_getD, List.getElem?_eq_getElem hi]⟩
  · rintro ⟨i, hi, rfl⟩
    rw [show l.getD i d = l[i] by simp [List.getD_eq_getElem?_getD, List.getElem?_eq_getElem hi]]
    exact List.getElem_mem hi
end Go.Proofs.Ytpfpngmfooagiaa.VM
namespace Go.Proofs.Ytpfpngmfooagiaa.VM
attribute [local irreducible] Af Nx EvO Ev Un Gd Cd EvR EvQ EvC Nc Gc Lp EvM NxM AfM GdM EvMR EvMQ EvMD EvMC Nm Gm
theorem featsUp.ok {l : List Feat} (u : featsUp l) : ∀ f ∈ l, featOk f := by
  intro f hf
  obtain ⟨i, hi, rfl⟩ := (getD_mem (d := feat0)).1 hf
  exact (u i hi).1
end Go.Proofs.Ytpfpngmfooagiaa.VM
namespace Go.Proofs.Ytpfpngmfooagiaa.VM
attribute [local irreducible] Af Nx EvO Ev Un Gd Cd EvR EvQ EvC Nc Gc Lp EvM NxM AfM GdM EvMR EvMQ EvMD EvMC Nm Gm
section
variable {P : Program}
theorem applyBad_pu (g : Pg P tab) {fs : List Feat} {ops : List Op} {w wo : AV} (hw : IsL 32 RFeat w fs) (hwo : IsL 112 ROp wo ops) (hno : ¬ (featsUp fs ∧ opsOk 8 ops)) : Pu P 7 [w, wo] (fun v => v = .tup [.nils, .int .i64 2400]) := by
  refine g.pu (vf := v7) rfl rfl ?_
  have tl : ∀ hh : Heap, Tl hh (.tup [.nils, .int .i64 2400]) fun v => v = .tup [.nils, .int .i64 2400] := fun hh => ⟨_, .tup (.cons .nils (.cons (.int _ _) .nil)), rfl⟩
  simp only [v7, RX, VOp.fresh, bxC, bsC, un, most, callsOf, seval, Int.reducePow, ↓reduceIte, Nat.reduceEqDiff, reduceCtorEq]
  refine (rising_pu g hw).go (by simp [AV.tolds, AV.told, hw.told tFeat]) ?_
  rintro _ ⟨b, rfl, hb⟩
  cases b with
  | false =>
    simp only [RX, VOp.fresh, bxC, bsC, un, most, callsOf, seval, Int.reducePow, ↓reduceIte, Nat.reduceEqDiff, reduceCtorEq]
    exact tl _
  | true =>
    simp only [RX, VOp.fresh, bxC, bsC, un, most, callsOf, seval, Int.reducePow, ↓reduceIte, Nat.reduceEqDiff, reduceCtorEq]
    refine (opsMay_pu g hwo).go (by simp [AV.tolds, AV.told, hwo.told tOp]) ?_
    rintro _ ⟨b, rfl, hb2⟩
    cases b with
    | false =>
      simp only [RX, VOp.fresh, bxC, bsC, un, most, callsOf, seval, Int.reducePow, ↓reduceIte, Nat.reduceEqDiff, reduceCtorEq]
      exact tl _
    | true => exact absurd ⟨hb.1 rfl, hb2.1 rfl⟩ hno
theorem windowBad_pu (g : Pg P tab) {fs : List Feat} {b : Bx} {w : AV} (hw : IsL 32 RFeat w fs) (hno : ¬ (featsUp fs ∧ bOk b)) : Pu P 14 [w, aBx b] (fun v => v = .tup [.nils, .int .i64 2400]) := by
  refine g.pu (vf := v14) rfl rfl ?_
  have tl : ∀ hh : Heap, Tl hh (.tup [.nils, .int .i64 2400]) fun v => v = .tup [.nils, .int .i64 2400] := fun hh => ⟨_, .tup (.cons .nils (.cons (.int _ _) .nil)), rfl⟩
  simp only [v14, aBx, HN, RW, RX, VOp.fresh, bxC, bsC, un, most, callsOf, seval, Int.reducePow, ↓reduceIte, Nat.reduceEqDiff, reduceCtorEq]
  refine (rising_pu g hw).go (by simp [AV.tolds, AV.told, hw.told tFeat]) ?_
  rintro _ ⟨q, rfl, hq⟩
  cases q with
  | false =>
    simp only [HN, RW, RX, VOp.fresh, bxC, bsC, un, most, callsOf, seval, Int.reducePow, ↓reduceIte, Nat.reduceEqDiff, reduceCtorEq]
    exact tl _
  | true =>
    simp only [HN, RW, RX, VOp.fresh, bxC, bsC, un, most, callsOf, seval, Int.reducePow, ↓reduceIte, Nat.reduceEqDiff, reduceCtorEq]
    refine (boxMay_pu g b.x0 b.y0 b.x1 b.y1).go rfl ?_
    rintro _ rfl
    have hb : decide (bxOk b.x0 b.y0 b.x1 b.y1) = false := decide_eq_false fun c => hno ⟨hq.1 rfl, c⟩
    rw [hb]
    simp only [HN, RW, RX, VOp.fresh, bxC, bsC, un, most, callsOf, seval, Int.reducePow, ↓reduceIte, Nat.reduceEqDiff, reduceCtorEq]
    exact tl _
theorem nearBad_pu (g : Pg P tab) {fs : List Feat} {p : Pt} {k : Int} {w : AV} (hw : IsL 32 RFeat w fs) (hno : ¬ (featsUp fs ∧ ptOk p ∧ 0 ≤ k)) : Pu P 15 [w, aPt p, .int .i64 k] (fun v => v = .tup [.nils, .int .i64 2400]) := by
  refine g.pu (vf := v15) rfl rfl ?_
  have tl : ∀ hh : Heap, Tl hh (.tup [.nils, .int .i64 2400]) fun v => v = .tup [.nils, .int .i64 2400] := fun hh => ⟨_, .tup (.cons .nils (.cons (.int _ _) .nil)), rfl⟩
  simp only [v15, aPt, HN, RW, RX, VOp.fresh, bxC, bsC, un, most, callsOf, seval, Int.reducePow, ↓reduceIte, Nat.reduceEqDiff, reduceCtorEq]
  refine (rising_pu g hw).go (by simp [AV.tolds, AV.told, hw.told tFeat]) ?_
  rintro _ ⟨q, rfl, hq⟩
  cases q with
  | false =>
    simp only [HN, RW, RX, VOp.fresh, bxC, bsC, un, most, callsOf, seval, Int.reducePow, ↓reduceIte, Nat.reduceEqDiff, reduceCtorEq]
    exact tl _
  | true =>
    simp only [HN, RW, RX, VOp.fresh, bxC, bsC, un, most, callsOf, seval, Int.reducePow, ↓reduceIte, Nat.reduceEqDiff, reduceCtorEq]
    refine (pointMay_pu g p).go rfl ?_
    rintro _ rfl
    by_cases hp : ptOk p
    · have hp' : decide (ptOk p) = true := decide_eq_true hp
      have c1 : k < 0 := by
        rcases Int.lt_or_le k 0 with c | c
        · exact c
        · exact absurd ⟨hq.1 rfl, hp, c⟩ hno
      rw [hp']
      simp only [c1, HN, RW, RX, VOp.fresh, bxC, bsC, un, most, callsOf, seval, Int.reducePow, ↓reduceIte, Nat.reduceEqDiff, reduceCtorEq]
      exact tl _
    · have hp' : decide (ptOk p) = false := decide_eq_false hp
      rw [hp']
      simp only [HN, RW, RX, VOp.fresh, bxC, bsC, un, most, callsOf, seval, Int.reducePow, ↓reduceIte, Nat.reduceEqDiff, reduceCtorEq]
      exact tl _
theorem point_cl (g : Pg P tab) (id x y : Int) {h : Heap} : Cl P 13 [.int .i64 id, .int .i64 x, .int .i64 y] h fun v h' => v = .agg [.int .i64 id, .int .i64 0, .sl (h.next + 2) 0 1 1 1] ∧ ∃ e1 e2, h' = (((h.mk' h.next (.cells [.int .i64 0, .int .i64 0, .nils] 31 0)).mk' (h.next + 1) (.cells [.int .i64 x, .int .i64 y] e1 0)).mk' (h.next + 2) (.cells [.sl (h.next + 1) 0 1 1 2] e2 0)).put h.next (.cells [.int .i64 id, .int .i64 0, .sl (h.next + 2) 0 1 1 1] 31 1) := by
  refine g.cl (vf := v13) rfl rfl ?_
  simp only [v13, HN, RW, RX, VOp.fresh, bxC, bsC, un, most, callsOf, seval, Int.reducePow, ↓reduceIte, Nat.reduceEqDiff, reduceCtorEq]
  exact ⟨_, _, rfl⟩
theorem formsM_rest (g : Pg P tab) {s : T AV} {h : Heap} {fs : List Feat} {ops : List Op} {b : Bx} {p : Pt} {k : Int} {v6 v7 w6 w7 : AV} {qb pb e1 r1 e2 r2 : Nat} (t6 : sg s 6 = v6) (t7 : sg s 7 = v7) (t8 : sg s 8 = .ptr qb 0) (t9 : sg s 9 = .ptr pb 0) (t10 : sg s 10 = .int .i64 k)
    (f6 : Fz true h v6 w6) (f7 : Fz true h v7 w7) (h6 : IsL 32 RFeat w6 fs) (h7 : IsL 112 ROp w7 ops) (gb : h.get qb = some (.cells [.int .i64 b.x0, .int .i64 b.y0, .int .i64 b.x1, .int .i64 b.y1] e1 r1)) (gp : h.get pb = some (.cells [.int .i64 p.x, .int .i64 p.y] e2 r2))
    (n1 : ¬ (featsUp fs ∧ opsOk 8 ops)) (n2 : ¬ (featsUp fs ∧ bOk b)) (n3 : ¬ (featsUp fs ∧ ptOk p ∧ 0 ≤ k)) :
    Ev P (rst 7 v5.body) s h (Un P [] (Fin v5.res fun v h' => Tl h' v fun v => v = .bool true)) := by
  simp only [v5, rst, t6, t7, RX, VOp.fresh, bxC, bsC, un, most, callsOf, seval, Int.reducePow, ↓reduceIte, Nat.reduceEqDiff, reduceCtorEq]
  refine (applyBad_pu g h6 h7 n1).cl (.cons f6 (.cons f7 .nil)) ?_
  rintro _ rfl
  simp only [t6, t8, gb, RX, VOp.fresh, bxC, bsC, un, most, callsOf, seval, Int.reducePow, ↓reduceIte, Nat.reduceEqDiff, reduceCtorEq]
  refine (windowBad_pu g (b := b) h6 n2).cl (.cons f6 (.cons (Fz.refl rfl) .nil)) ?_
  rintro _ rfl
  simp only [t6, t9, t10, gp, RX, VOp.fresh, bxC, bsC, un, most, callsOf, seval, Int.reducePow, ↓reduceIte, Nat.reduceEqDiff, reduceCtorEq]
  refine (nearBad_pu g (p := p) h6 n3).cl (.cons f6 (.cons (Fz.refl rfl) (.cons (.int _ _) .nil))) ?_
  rintro _ rfl
  simp only [RX, VOp.fresh, bxC, bsC, un, most, callsOf, seval, Int.reducePow, ↓reduceIte, Nat.reduceEqDiff, reduceCtorEq]
  refine (num_pu g _).go rfl ?_
  rintro _ rfl
  simp only [RX, VOp.fresh, bxC, bsC, un, most, callsOf, seval, Int.reducePow, ↓reduceIte, Nat.reduceEqDiff, reduceCtorEq]
  refine (num_pu g _).go rfl ?_
  rintro _ rfl
  simp only [RX, VOp.fresh, bxC, bsC, un, most, callsOf, seval, Int.reducePow, ↓reduceIte, Nat.reduceEqDiff, reduceCtorEq]
  refine (num_pu g _).go rfl ?_
  rintro _ rfl
  simp only [RX, VOp.fresh, bxC, bsC, un, most, callsOf, seval, Int.reducePow, ↓reduceIte, Nat.reduceEqDiff, reduceCtorEq]
theorem ptOne (a b : Int) (ha : I64 a) (hb : I64 b) : RRing [Pt.mk a b] [.rs [.int .i64 a, .int .i64 b] 1] :=
  ⟨_, rfl, isL_rs (l := [Pt.mk a b]) (Cat.cons (c := [.int .i64 a, .int .i64 b]) (show RPt (Pt.mk a b) _ from ⟨rfl, ha, hb⟩) .nil) (by rw [reach_eq]; simp)⟩
theorem ftOne (id a b : Int) (hi : I64 id) (ha : I64 a) (hb : I64 b) : RFeat (Feat.mk id 0 [[Pt.mk a b]]) [.int .i64 id, .int .i64 0, .rs [.rs [.int .i64 a, .int .i64 b] 1] 1] :=
  ⟨_, rfl, hi, ⟨by simp, by simp⟩, isL_rs (l := [[Pt.mk a b]]) (Cat.cons (c := [.rs [.int .i64 a, .int .i64 b] 1]) (ptOne a b ha hb) .nil) (by rw [reach_eq]; simp)⟩
theorem twoFs (i j : Int) (hi : I64 i) (hj : I64 j) : IsL 32 RFeat (.rs [.int .i64 i, .int .i64 0, .rs [.rs [.int .i64 2, .int .i64 2] 1] 1, .int .i64 j, .int .i64 0, .rs [.rs [.int .i64 5, .int .i64 5] 1] 1] 2) [Feat.mk i 0 [[Pt.mk 2 2]], Feat.mk j 0 [[Pt.mk 5 5]]] :=
  isL_rs (l := [Feat.mk i 0 [[Pt.mk 2 2]], Feat.mk j 0 [[Pt.mk 5 5]]]) (Cat.cons (ftOne i 2 2 hi ⟨by decide, by decide⟩ ⟨by decide, by decide⟩) (Cat.cons (ftOne j 5 5 hj ⟨by decide, by decide⟩ ⟨by decide, by decide⟩) .nil)) (by rw [reach_eq]; simp)
def oDel : Op := ⟨1, ⟨0, 0, []⟩, 2, ⟨0, [], []⟩⟩
abbrev cDel : List AV := [.int .i64 1, .int .i64 0, .int .i64 0, .nils, .int .i64 2, .int .i64 0, .nils, .nils]
theorem oDel_is : ROp oDel cDel := ⟨_, _, _, rfl, ⟨by decide, by decide⟩, ⟨by decide, by decide⟩, ⟨by decide, by decide⟩, isL_nil _ _, ⟨by decide, by decide⟩, ⟨by decide, by decide⟩, isL_nil _ _, isL_nil _ _⟩
theorem oneOp : IsL 112 ROp (.rs cDel 1) [oDel] := isL_rs (l := [oDel]) (Cat.cons (c := cDel) oDel_is .nil) (by rw [reach_eq]; simp)
theorem twoOp : IsL 112 ROp (.rs (cDel ++ cDel) 2) [oDel, oDel] := isL_rs (l := [oDel, oDel]) (Cat.cons (c := cDel) oDel_is (Cat.cons (c := cDel) oDel_is .nil)) (by rw [reach_eq]; simp)
theorem app_one {H : Heap} {b nb e v e2 v2 : Nat} {c d : List AV} (h1 : H.get b = some (.cells c e v)) (hc : c.length = 8) (h2 : H.get nb = some (.cells d e2 v2)) (hd : d.length = 8) (ho : d.all AV.one = true) : appendV H 8 112 36 (.sl b 0 1 1 8) (.sl nb 0 1 1 8) = some (.sl H.next 0 2 2 8, (H.put b .dead).mk' H.next (.cells (c ++ d) 36 0)) := by
  have k1 : cellsOf H 8 1 (.sl b 0 1 1 8) = some c := cells_of h1 (by rw [hc]) 1
  have k2 : cellsOf H 8 1 (.sl nb 0 1 1 8) = some d := cells_of h2 (by rw [hd]) 1
  have e1 : ¬ 1 + 1 ≤ 1 := by decide
  have e2 : (1 + 1) * 112 ≤ most2 := by unfold most2; decide
  simp only [appendV, lenV, k2, hd, ho, Nat.one_mul, and_self, if_true, Nat.beq_refl, cond_true, e1, if_false, e2, k1]
theorem modelForms_pu (g : Pg P tab) (hins : InsF P 22 31) (which x : Int) : Pu P 5 [.int .i64 which, .int .i64 x] (fun v => v = .bool true) := by
  refine g.pu (vf := v5) rfl rfl ?_
  have e0 : v5.body = .seq (blk 0 v5.body) (.seq (blk 1 v5.body) (.seq (blk 2 v5.body) (.seq (blk 3 v5.body) (.seq (blk 4 v5.body) (.seq (blk 5 v5.body) (.seq (blk 6 v5.body) (rst 7 v5.body))))))) := rfl
  rw [e0]
  obtain ⟨D, hD1, hD2, hD⟩ : ∃ D : Int, 1 ≤ D ∧ D ≤ 64 ∧ IntKind.i64.wrap (1 + bitsOf .and .i64 x 63) = D := by
    have h1 := and_any x (n := 6) (by decide)
    have h2 := Nat.mod_lt (x % 18446744073709551616).toNat (show 0 < 2 ^ 6 by decide)
    have h3 : bitsOf .and .i64 x 63 = (((x % 18446744073709551616).toNat % 2 ^ 6 : Nat) : Int) := by simpa using h1
    rw [h3]
    refine ⟨_, ?_, ?_, w64 (by omega) (by omega)⟩ <;> omega
  obtain ⟨w, hw0, hw1, hw⟩ : ∃ w : Int, 0 ≤ w ∧ w ≤ 3 ∧ (IntKind.u64.wrap which).tmod 4 = w := by
    have e1 : IntKind.u64.wrap which = which % 18446744073709551616 := IntKind.wrap_u64 which
    have h0 : 0 ≤ which % 18446744073709551616 := Int.emod_nonneg _ (by decide)
    have e2 : (which % 18446744073709551616).tmod 4 = which % 18446744073709551616 % 4 := Int.tmod_eq_emod_of_nonneg h0
    rw [e1, e2]
    exact ⟨_, by omega, by omega, rfl⟩
  generalize hR : rst 7 v5.body = R
  simp only [v5, blk, RW, hD, RX, VOp.fresh, bxC, bsC, un, most, callsOf, seval, Int.reducePow, ↓reduceIte, Nat.reduceEqDiff, reduceCtorEq]
  refine (awake24_pu g hins).go rfl ?_
  rintro _ rfl
  simp only [RW, hD, HN, RX, VOp.fresh, bxC, bsC, un, most, callsOf, seval, Int.reducePow, ↓reduceIte, Nat.reduceEqDiff, reduceCtorEq]
  refine (point_cl g 2 2 2).mono ?_
  rintro _ _ ⟨rfl, e1, e2, rfl⟩
  simp only [RW, HN, RX, VOp.fresh, bxC, bsC, un, most, callsOf, seval, Int.reducePow, ↓reduceIte, Nat.reduceEqDiff, reduceCtorEq]
  refine (point_cl g 5 5 5).mono ?_
  rintro _ _ ⟨rfl, e3, e4, rfl⟩
  have W : ∀ n : Int, -100000 ≤ n → n ≤ 5000000000 → IntKind.i64.wrap n = n := fun n a b => w64 (by omega) (by omega)
  have a0 := W (0 - D) (by omega) (by omega)
  have a1 := W (9 + D) (by omega) (by omega)
  have a2 := W (4294967295 + D) (by omega) (by omega)
  have I : ∀ n : Int, -1000 ≤ n → n ≤ 5000000000 → I64 n := fun n a b => ⟨by omega, by omega⟩
  have fail0 : ∀ {l : List Feat} {p : Prop}, ¬ featsUp l → ¬ (featsUp l ∧ p) := fun h c => h c.1
  rcases (by omega : w = 0 ∨ w = 1 ∨ w = 2 ∨ w = 3) with rfl | rfl | rfl | rfl
  · simp only [RW, HN, hw, a0, a1, a2, RX, VOp.fresh, bxC, bsC, un, most, callsOf, seval, Int.reducePow, ↓reduceIte, Nat.reduceEqDiff, reduceCtorEq]
    subst hR
    have bad : ¬ featsUp [Feat.mk 2 0 [[Pt.mk 2 2]], Feat.mk 2 0 [[Pt.mk 5 5]]] := fun u => by
      have := (u 1 (by decide)).2 (by decide)
      simp at this
    refine formsM_rest g (fs := [Feat.mk 2 0 [[Pt.mk 2 2]], Feat.mk 2 0 [[Pt.mk 5 5]]]) (v6 := .sl 6 0 2 2 3) (v7 := .sl 7 0 1 1 8) (ops := [oDel]) (b := ⟨0, 0, 9, 9⟩) (p := ⟨0, 0⟩) (k := 1) (qb := 8) (pb := 9) (e1 := 45) (r1 := 1) (e2 := 47) (r2 := 1) (by simp only [sg_set, Nat.reduceEqDiff, ↓reduceIte]) (by simp only [sg_set, Nat.reduceEqDiff, ↓reduceIte]) (by simp only [sg_set, Nat.reduceEqDiff, ↓reduceIte]) (by simp only [sg_set, Nat.reduceEqDiff, ↓reduceIte]) (by simp only [sg_set, Nat.reduceEqDiff, ↓reduceIte]) (fz_ok 40 _ _ (by kernel_rfl)) (fz_ok 40 _ _ (by kernel_rfl)) (twoFs 2 2 (I _ (by omega) (by omega)) (I _ (by omega) (by omega))) oneOp (by kernel_rfl) (by kernel_rfl) (fail0 bad) (fail0 bad) (fail0 bad)
  · simp only [RW, HN, hw, a0, a1, a2, RX, VOp.fresh, bxC, bsC, un, most, callsOf, seval, Int.reducePow, ↓reduceIte, Nat.reduceEqDiff, reduceCtorEq]
    subst hR
    have bad : ¬ featsUp [Feat.mk (0 - D) 0 [[Pt.mk 2 2]], Feat.mk 5 0 [[Pt.mk 5 5]]] := fun u => by
      have := (u 0 (by simp)).1.1
      simp at this
      omega
    refine formsM_rest g (fs := [Feat.mk (0 - D) 0 [[Pt.mk 2 2]], Feat.mk 5 0 [[Pt.mk 5 5]]]) (v6 := .sl 6 0 2 2 3) (v7 := .sl 7 0 1 1 8) (ops := [oDel]) (b := ⟨0, 0, 9, 9⟩) (p := ⟨0, 0⟩) (k := 1) (qb := 8) (pb := 9) (e1 := 45) (r1 := 1) (e2 := 47) (r2 := 1) (by simp only [sg_set, Nat.reduceEqDiff, ↓reduceIte]) (by simp only [sg_set, Nat.reduceEqDiff, ↓reduceIte]) (by simp only [sg_set, Nat.reduceEqDiff, ↓reduceIte]) (by simp only [sg_set, Nat.reduceEqDiff, ↓reduceIte]) (by simp only [sg_set, Nat.reduceEqDiff, ↓reduceIte]) (fz_ok 40 _ _ (by kernel_rfl)) (fz_ok 40 _ _ (by kernel_rfl)) (twoFs (0 - D) 5 (I _ (by omega) (by omega)) (I _ (by omega) (by omega))) oneOp (by kernel_rfl) (by kernel_rfl) (fail0 bad) (fail0 bad) (fail0 bad)
  · simp only [RW, HN, hw, a0, a1, a2, RX, VOp.fresh, bxC, bsC, un, most, callsOf, seval, Int.reducePow, ↓reduceIte, Nat.reduceEqDiff, reduceCtorEq]
    rw [app_one (c := cDel) (d := cDel) (e := 36) (v := 0) (e2 := 36) (v2 := 0) (by kernel_rfl) rfl (by kernel_rfl) rfl (by rfl)]
    simp only [RW, HN, a0, a1, a2, RX, VOp.fresh, bxC, bsC, un, most, callsOf, seval, Int.reducePow, ↓reduceIte, Nat.reduceEqDiff, reduceCtorEq]
    subst hR
    refine formsM_rest g (fs := [Feat.mk 2 0 [[Pt.mk 2 2]], Feat.mk 5 0 [[Pt.mk 5 5]]]) (v6 := .sl 6 0 2 2 3) (v7 := .sl 11 0 2 2 8) (ops := [oDel, oDel]) (b := ⟨9 + D, 0, 9, 9⟩) (p := ⟨0 - D, 0⟩) (k := 1) (qb := 8) (pb := 9) (e1 := 45) (r1 := 2) (e2 := 47) (r2 := 2) (by simp only [sg_set, Nat.reduceEqDiff, ↓reduceIte]) (by simp only [sg_set, Nat.reduceEqDiff, ↓reduceIte]) (by simp only [sg_set, Nat.reduceEqDiff, ↓reduceIte]) (by simp only [sg_set, Nat.reduceEqDiff, ↓reduceIte]) (by simp only [sg_set, Nat.reduceEqDiff, ↓reduceIte]) (fz_ok 40 _ _ (by kernel_rfl)) (fz_ok 40 _ _ (by kernel_rfl)) (twoFs 2 5 (I _ (by omega) (by omega)) (I _ (by omega) (by omega))) twoOp (by kernel_rfl) (by kernel_rfl) (fun c => ?_) (fun c => ?_) (fun c => ?_)
    · exact (c.2.2.2 1 (by decide)).2.2 (by decide) 0 (by decide) rfl
    · have := c.2
      simp only [bOk, bxOk] at this
      omega
    · have := c.2.1.1
      simp only [coordOk] at this
      omega
  · simp only [RW, HN, hw, a0, a1, a2, RX, VOp.fresh, bxC, bsC, un, most, callsOf, seval, Int.reducePow, ↓reduceIte, Nat.reduceEqDiff, reduceCtorEq]
    subst hR
    refine formsM_rest g (fs := [Feat.mk 2 0 [[Pt.mk 2 2]], Feat.mk 5 0 [[Pt.mk 5 5]]]) (v6 := .sl 6 0 2 2 3) (v7 := .nils) (ops := []) (b := ⟨0, 0, 9, 4294967295 + D⟩) (p := ⟨0, 0⟩) (k := 0 - D) (w7 := .nils) (qb := 8) (pb := 9) (e1 := 45) (r1 := 2) (e2 := 47) (r2 := 1) (by simp only [sg_set, Nat.reduceEqDiff, ↓reduceIte]) (by simp only [sg_set, Nat.reduceEqDiff, ↓reduceIte]) (by simp only [sg_set, Nat.reduceEqDiff, ↓reduceIte]) (by simp only [sg_set, Nat.reduceEqDiff, ↓reduceIte]) (by simp only [sg_set, Nat.reduceEqDiff, ↓reduceIte]) (fz_ok 40 _ _ (by kernel_rfl)) .nils (twoFs 2 5 (I _ (by omega) (by omega)) (I _ (by omega) (by omega))) (isL_nil _ _) (by kernel_rfl) (by kernel_rfl) (fun c => ?_) (fun c => ?_) (fun c => ?_)
    · have := c.2.1
      simp at this
    · have := c.2
      simp only [bOk, bxOk] at this
      omega
    · have := c.2.2
      omega
end
end Go.Proofs.Ytpfpngmfooagiaa.VM
