/- Part of a proof: what stands for the program, and its walk. No condition. -/
import Derived.Below
import Derived.ChangeArms
import Derived.ChangeMaps5
import Derived.Deep.DeepAppendWide
import Derived.Laws.Cells
import Derived.Laws.IdiomCopy
import Derived.Lib.SlKeysI
import Derived.MapKept
import Derived.Maps.RangeRun
import Derived.OrdersIn
import Derived.RangeFuncLeaves
import Derived.RangeFuncRecord
import Derived.Shelf.GgSortFunc.RowK
import Derived.Shelf.SlIterI.Sorted
import Derived.Shelf.SlLaysZI
import Derived.Shelf.SortM.Plain
import Derived.Shelf.SortM.SortNone
import Derived.SizedLaws
import Derived.WalkKit
import Derived.WalkLawsBesides
import GoSem.Claim
import Derived.Test.YtlemediphmnffaaDAc
set_option linter.unusedSimpArgs false
set_option linter.unusedVariables false
set_option linter.defProp false
set_option maxHeartbeats 1000000
namespace Go.Proofs.Ytlemediphmnffaa.VM
attribute [local irreducible] Af Nx EvO Ev Un Gd Cd EvR EvQ EvC Nc Gc Lp EvM NxM AfM GdM EvMR EvMQ EvMD EvMC Nm Gm
theorem bit01 (z : Int) : bitsOf .and .i64 z 1 = 1 ∨ bitsOf .and .i64 z 1 = 0 := by
  have h1 := and_any z (n := 1) (by decide)
  have h2 : bitsOf .and .i64 z 1 = (((z % 18446744073709551616).toNat % 2 ^ 1 : Nat) : Int) := by simpa using h1
  omega
theorem Rk.setN {h : Heap} {db nb tb rb : Nat} {nw th : List Sec} {di : List Bool} (D : Rk h db nb tb rb nw th di) {e v : Nat} {i : Nat} {z : Sec} (hz : z.length = 64) : Rk (h.put nb (.cells (cSec (nw.set i z)) e v)) db nb tb rb (nw.set i z) th di := by
  obtain ⟨⟨e1, v1, d⟩, ⟨e2, v2, n⟩, ⟨e3, v3, t⟩, ⟨e4, v4, r⟩, ne, lt, le, ln⟩ := D
  refine ⟨⟨e1, v1, ?_⟩, ⟨e, v, by rw [Heap.get_put, if_pos rfl]⟩, ⟨e3, v3, ?_⟩, ⟨e4, v4, ?_⟩, ne, lt, by simpa using le, ⟨fun s hs => ?_, ln.2⟩⟩
  · rw [Heap.get_put, if_neg ne.1, List.length_set]; exact d
  · rw [Heap.get_put, if_neg (fun e => ne.2.2.2.1 e.symm)]; exact t
  · rw [Heap.get_put, if_neg (fun e => ne.2.2.2.2.1 e.symm)]; exact r
  · rcases List.mem_or_eq_of_mem_set hs with hs | rfl
    · exact ln.1 s hs
    · exact hz
theorem getD_len {l : List Sec} (h : ∀ s ∈ l, s.length = 64) {k : Nat} (hk : k < l.length) : (l.getD k []).length = 64 := by
  rw [show l.getD k [] = l[k] by simp [List.getD_eq_getElem?_getD, List.getElem?_eq_getElem hk]]
  exact h _ (List.getElem_mem hk)
section
variable {P : Program}
theorem rcrash_loop (g : Pg P tab) {db nb tb rb cb N : Nat} {nw0 th : List Sec} {di : List Bool} {keep torn : Int} {by' : Nat} (hby : by' ≤ 64) (hN : nw0.length = N) (hnd : ∀ j, j < N → di.getD j false = false → nw0.getD j [] = th.getD j []) (hcb : cb ≠ nb) (h0 : Heap) (n : Nat) :
    ∀ (i : Nat) (nw : List Sec) (s : T AV) (h : Heap) (k : List Fr) (Q : Ex → T AV → Heap → Prop), N = i + n → KB [nb] h0 h → Rk h db nb tb rb nw th di → nw.length = N → (∀ j, j < N → nw.getD j [] = if j < i then crv keep torn by' (di.getD j false) (cntT (di.take j)) (nw0.getD j []) (th.getD j []) else nw0.getD j []) → (∃ e v, h.get cb = some (.cells [.int .i64 keep, .int .i64 torn, .int .i64 by'] e v)) →
    sg s 0 = .ptr db 0 → sg s 3 = .ptr cb 0 → sg s 5 = .int .i64 (cntT (di.take i) : Int) → sg s 6 = .int .i64 i →
    (∀ s' h' nw', KB [nb] h0 h' → Rk h' db nb tb rb nw' th di → nw'.length = N → (∀ j, j < N → nw'.getD j [] = crv keep torn by' (di.getD j false) (cntT (di.take j)) (nw0.getD j []) (th.getD j [])) → sg s' 0 = .ptr db 0 → Un P k Q (.exit 0) s' h') → Lp P b19_0 s h (Un P k Q) := by
  induction n with
  | zero =>
    intro i nw s h k Q hn kb D hl hw gc t0 t3 t5 t6 hQ
    refine g.lpe b19_0.eq_1 ?_
    obtain rfl : i = N := by omega
    obtain ⟨e1, v1, d⟩ := D.d
    have c1 : ¬ ((nw.length : Int) < (nw.length : Int)) := by omega
    rw [← hl] at t6
    simp only [t0, t6, eqv_p0, d, c1, RX, VOp.fresh, bxC, bsC, un, most, callsOf, seval, Int.reducePow, ↓reduceIte, Nat.reduceEqDiff, reduceCtorEq]
    refine hQ _ _ nw kb D hl (fun j hj => by rw [hw j hj, if_pos hj]) ?_
    simp only [t0, sg_set, Nat.reduceEqDiff, ↓reduceIte]
  | succ n ih =>
    intro i nw s h k Q hn kb D hl hw gc t0 t3 t5 t6 hQ
    refine g.lpe b19_0.eq_1 ?_
    have hle := D.le
    have ne := D.ne
    obtain ⟨e1, v1, d⟩ := D.d
    obtain ⟨e2, v2, n2⟩ := D.n
    obtain ⟨e3, v3, tt⟩ := D.t
    obtain ⟨e4, v4, r4⟩ := D.r
    obtain ⟨e5, v5, gc⟩ := gc
    have c1 : (i : Int) < (nw.length : Int) := by omega
    have w1 : IntKind.i64.wrap ((i : Int) + 1) = ((i + 1 : Nat) : Int) := by rw [w64 (by omega) (by omega)]; push_cast; rfl
    have hia := fun bb kk hh => ia_row (b := bb) (show i < nw.length by omega) kk hh
    have hp := cB_part di (k := i) (by omega)
    have hpn := cSec_part nw (k := i) (by omega)
    have hpt := cSec_part th (k := i) (by omega)
    have hct := cntT_take (l := di) (i := i) (by omega)
    have hcl := cntT_le (di.take i)
    rw [List.length_take] at hcl
    have hwi := hw i (by omega)
    rw [if_neg (Nat.lt_irrefl i)] at hwi
    have hxl := getD_len D.ln.1 (show i < nw.length by omega)
    have hyl := getD_len D.ln.2 (show i < th.length by omega)
    -- what comes next
    have next : ∀ (z : Sec) (h' : Heap), z.length = 64 → KB [nb] h0 h' → Rk h' db nb tb rb (nw.set i z) th di → z = crv keep torn by' (di.getD i false) (cntT (di.take i)) (nw0.getD i []) (th.getD i []) → (∃ e v, h'.get cb = some (.cells [.int .i64 keep, .int .i64 torn, .int .i64 by'] e v)) → ∀ s', sg s' 0 = .ptr db 0 → sg s' 3 = .ptr cb 0 → sg s' 5 = .int .i64 (cntT (di.take (i + 1)) : Int) → sg s' 6 = .int .i64 ((i + 1 : Nat) : Int) → Lp P b19_0 s' h' (Un P k Q) := by
      intro z h' hz kb' D' ez gc' s' a0 a3 a5 a6
      refine ih (i + 1) (nw.set i z) s' h' k Q (by omega) kb' D' (by rw [List.length_set]; exact hl) (fun j hj => ?_) gc' a0 a3 a5 a6 hQ
      rw [getD_set _ _ _ (by omega)]
      by_cases e : j = i
      · subst e; rw [if_pos rfl, if_pos (by omega)]; exact ez
      · rw [if_neg e, hw j hj]
        by_cases c : j < i
        · rw [if_pos c, if_pos (by omega)]
        · rw [if_neg c, if_neg (by omega)]
    have stay : nw.getD i [] = crv keep torn by' (di.getD i false) (cntT (di.take i)) (nw0.getD i []) (th.getD i []) → ∀ s', sg s' 0 = .ptr db 0 → sg s' 3 = .ptr cb 0 → sg s' 5 = .int .i64 (cntT (di.take (i + 1)) : Int) → sg s' 6 = .int .i64 ((i + 1 : Nat) : Int) → Lp P b19_0 s' h (Un P k Q) := by
      intro e
      have e0 : nw.set i (nw.getD i []) = nw := by
        rw [show nw.getD i [] = nw[i] by simp [List.getD_eq_getElem?_getD, List.getElem?_eq_getElem (show i < nw.length by omega)], List.set_getElem_self]
      exact next _ h hxl kb (by rw [e0]; exact D) e ⟨_, _, gc⟩
    clear ih
    cases hdi : di.getD i false with
    | false =>
      rw [hdi] at hp hct stay
      have hct2 : cntT (di.take (i + 1)) = cntT (di.take i) := hct
      simp only [t0, t6, eqv_p0, d, c1, hia, r4, hp, w1, RX, VOp.fresh, bxC, bsC, un, most, callsOf, seval, Int.reducePow, ↓reduceIte, Nat.reduceEqDiff, reduceCtorEq]
      refine stay (by rw [hwi]; exact hnd i (by omega) hdi) _ ?_ ?_ ?_ ?_
      · simp only [t0, sg_set, Nat.reduceEqDiff, ↓reduceIte]
      · simp only [t3, sg_set, Nat.reduceEqDiff, ↓reduceIte]
      · rw [hct2]; simp only [t5, sg_set, Nat.reduceEqDiff, ↓reduceIte]
      · simp only [sg_set, Nat.reduceEqDiff, ↓reduceIte]
    | true =>
      rw [hdi] at hp hct stay next
      have hct2 : cntT (di.take (i + 1)) = cntT (di.take i) + 1 := hct
      rw [hct2] at stay next
      generalize cntT (di.take i) = r at *
      have w2 : IntKind.i64.wrap ((r : Int) + 1) = ((r + 1 : Nat) : Int) := by rw [w64 (by omega) (by omega)]; push_cast; rfl
      rw [← hwi] at stay next
      have hst := fun z => set_sec n2 (j := i) (by omega) z
      have gcp : ∀ z : Sec, (h.put nb (.cells (cSec (nw.set i z)) e2 (v2 + 1))).get cb = some (.cells [.int .i64 keep, .int .i64 torn, .int .i64 by'] e5 v5) := fun z => by rw [Heap.get_put, if_neg hcb]; exact gc
      generalize hx : nw.getD i [] = x at *
      generalize hy : th.getD i [] = y at *
      have k1 := sec_take (x := x) (n := by') (by omega)
      have k2 := sec_drop (x := y) (n := by') (by omega)
      have k3 := sec_cat (x := x.take by') (y := y.drop by') (by rw [List.length_take]; omega) (by rw [List.length_drop]; omega)
      by_cases c3 : (r : Int) = torn
      · subst c3
        simp only [t0, t3, t5, t6, eqv_p0, d, c1, hia, r4, hp, gc, n2, tt, hpn, hpt, k1, k2, k3, hst, w1, w2, RX, VOp.fresh, bxC, bsC, un, most, callsOf, seval, Int.reducePow, ↓reduceIte, Nat.reduceEqDiff, reduceCtorEq]
        refine next _ _ ?_ (kb.trans (KB.put (by simp) _)) (D.setN ?_) ?_ ⟨_, _, gcp _⟩ _ ?_ ?_ ?_ ?_
        · rw [List.length_append, List.length_take, List.length_drop]; omega
        · rw [List.length_append, List.length_take, List.length_drop]; omega
        · unfold crv cval; rw [if_pos rfl, if_pos rfl]
        · simp only [t0, sg_set, Nat.reduceEqDiff, ↓reduceIte]
        · simp only [t3, sg_set, Nat.reduceEqDiff, ↓reduceIte]
        · simp only [sg_set, Nat.reduceEqDiff, ↓reduceIte]
        · simp only [sg_set, Nat.reduceEqDiff, ↓reduceIte]
      · by_cases c5 : 62 ≤ (r : Int)
        · simp only [t0, t3, t5, t6, eqv_p0, d, c1, c3, c5, hia, r4, hp, gc, n2, tt, hpn, hpt, hst, w1, w2, RX, VOp.fresh, bxC, bsC, un, most, callsOf, seval, Int.reducePow, ↓reduceIte, Nat.reduceEqDiff, reduceCtorEq]
          refine next _ _ hyl (kb.trans (KB.put (by simp) _)) (D.setN hyl) ?_ ⟨_, _, gcp _⟩ _ ?_ ?_ ?_ ?_
          · unfold crv cval; rw [if_pos rfl, if_neg c3, if_neg (fun c => by have := c.1; omega)]
          · simp only [t0, sg_set, Nat.reduceEqDiff, ↓reduceIte]
          · simp only [t3, sg_set, Nat.reduceEqDiff, ↓reduceIte]
          · simp only [sg_set, Nat.reduceEqDiff, ↓reduceIte]
          · simp only [sg_set, Nat.reduceEqDiff, ↓reduceIte]
        · have hsh := shr_bin keep r (by omega)
          rcases bit01 (keep.fdiv (2 ^ r)) with hb | hb
          · simp only [t0, t3, t5, t6, eqv_p0, d, c1, c3, c5, hia, r4, hp, gc, hsh, hb, w1, w2, RX, VOp.fresh, bxC, bsC, un, most, callsOf, seval, Int.reducePow, ↓reduceIte, Nat.reduceEqDiff, reduceCtorEq]
            refine stay ?_ _ ?_ ?_ ?_ ?_
            · unfold crv cval; rw [if_pos rfl, if_neg c3, if_pos ⟨by omega, hb⟩]
            · simp only [t0, sg_set, Nat.reduceEqDiff, ↓reduceIte]
            · simp only [t3, sg_set, Nat.reduceEqDiff, ↓reduceIte]
            · simp only [sg_set, Nat.reduceEqDiff, ↓reduceIte]
            · simp only [sg_set, Nat.reduceEqDiff, ↓reduceIte]
          · simp only [t0, t3, t5, t6, eqv_p0, d, c1, c3, c5, hia, r4, hp, gc, hsh, hb, n2, tt, hpn, hpt, hst, w1, w2, RX, VOp.fresh, bxC, bsC, un, most, callsOf, seval, Int.reducePow, ↓reduceIte, Nat.reduceEqDiff, reduceCtorEq]
            refine next _ _ hyl (kb.trans (KB.put (by simp) _)) (D.setN hyl) ?_ ⟨_, _, gcp _⟩ _ ?_ ?_ ?_ ?_
            · unfold crv cval; rw [if_pos rfl, if_neg c3, if_neg (fun c => by have := c.2; omega)]
            · simp only [t0, sg_set, Nat.reduceEqDiff, ↓reduceIte]
            · simp only [t3, sg_set, Nat.reduceEqDiff, ↓reduceIte]
            · simp only [sg_set, Nat.reduceEqDiff, ↓reduceIte]
            · simp only [sg_set, Nat.reduceEqDiff, ↓reduceIte]
theorem rcrash_cl (g : Pg P tab) {h : Heap} {db nb tb rb : Nat} {nw th : List Sec} {di : List Bool} (D : Rk h db nb tb rb nw th di) (hnd : ∀ j, j < nw.length → di.getD j false = false → nw.getD j [] = th.getD j []) (keep torn bytes : Int) {Q : AV → Heap → Prop} (qN : ¬ (0 ≤ bytes ∧ bytes ≤ 64) → ∀ h', Ext h h' → Q (.int .i64 800) h')
    (qY : 0 ≤ bytes ∧ bytes ≤ 64 → ∀ h' nw', KB [nb, tb, rb] h h' → nw'.length = nw.length → (∀ j, j < nw.length → nw'.getD j [] = crv keep torn bytes.toNat (di.getD j false) (cntT (di.take j)) (nw.getD j []) (th.getD j [])) → Rk h' db nb tb rb nw' nw' (List.replicate nw.length false) → Q (.int .i64 0) h') : Cl P 19 [.ptr db 0, .agg [.int .i64 keep, .int .i64 torn, .int .i64 bytes]] h Q := by
  refine g.cl (vf := v19) rfl rfl ?_
  have y1 := Ext.mk (h := h) (.cells [.int .i64 keep, .int .i64 torn, .int .i64 bytes] 34 0)
  have gc : (h.mk' h.next (.cells [.int .i64 keep, .int .i64 torn, .int .i64 bytes] 34 0)).get h.next = some (.cells [.int .i64 keep, .int .i64 torn, .int .i64 bytes] 34 0) := by rw [Heap.get_mk, if_pos rfl]
  have n1 : (h.mk' h.next (.cells [.int .i64 keep, .int .i64 torn, .int .i64 bytes] 34 0)).next = h.next + 1 := by rw [mk_next]; omega
  generalize hh1 : h.mk' h.next (.cells [.int .i64 keep, .int .i64 torn, .int .i64 bytes] 34 0) = h1 at *
  by_cases c1 : bytes < 0
  · simp only [v19, eqv_p0, HN, hh1, gc, c1, RX, VOp.fresh, bxC, bsC, un, most, callsOf, seval, Int.reducePow, ↓reduceIte, Nat.reduceEqDiff, reduceCtorEq]
    exact qN (by omega) _ y1
  · by_cases c2 : 64 < bytes
    · simp only [v19, eqv_p0, HN, hh1, gc, c1, c2, RX, VOp.fresh, bxC, bsC, un, most, callsOf, seval, Int.reducePow, ↓reduceIte, Nat.reduceEqDiff, reduceCtorEq]
      exact qN (by omega) _ y1
    · have qY := qY (by omega)
      obtain ⟨by', rfl⟩ := Int.eq_ofNat_of_zero_le (show 0 ≤ bytes by omega)
      rw [Int.toNat_natCast] at qY
      have lt := D.lt
      have D1 := D.frame (y1.kb (L := [])) (by simp) (by simp) (by simp) (by simp)
      simp only [v19, eqv_p0, HN, hh1, gc, c1, c2, RX, VOp.fresh, bxC, bsC, un, most, callsOf, seval, Int.reducePow, ↓reduceIte, Nat.reduceEqDiff, reduceCtorEq]
      refine rcrash_loop g (nw0 := nw) (cb := h.next) (keep := keep) (torn := torn) (by' := by') (N := nw.length) (by omega) rfl hnd (by omega) h1 nw.length 0 nw _ h1 _ _ (by omega) (KB.refl _ _) D1 rfl (fun j hj => by rw [if_neg (by omega)]) ⟨_, _, gc⟩ ?_ ?_ ?_ ?_ fun s2 h2 nw' kb2 D2 hl2 hw2 t0 => ?_
      · simp only [sg_set, Nat.reduceEqDiff, ↓reduceIte]
      · simp only [sg_set, Nat.reduceEqDiff, ↓reduceIte]
      · simp only [sg_set, Nat.reduceEqDiff, ↓reduceIte]
        rfl
      · simp only [sg_set, Nat.reduceEqDiff, ↓reduceIte]
        rfl
      simp only [t0, RX, VOp.fresh, bxC, bsC, un, most, callsOf, seval, Int.reducePow, ↓reduceIte, Nat.reduceEqDiff, reduceCtorEq]
      refine rsync_cl g D2 fun h3 kb3 D3 => ?_
      simp only [RX, VOp.fresh, bxC, bsC, un, most, callsOf, seval, Int.reducePow, ↓reduceIte, Nat.reduceEqDiff, reduceCtorEq]
      rw [hl2] at D3
      have q2 := kb2.1
      exact qY h3 nw' ⟨Nat.le_trans y1.1 (Nat.le_trans kb2.1 kb3.1), fun b hb hbl => by
        simp at hbl
        rw [kb3.2 b (by omega) (by simp; omega), kb2.2 b (by omega) (by simp; omega), y1.2 b hb]⟩ hl2 hw2 D3
/-- what holds while NewDisk fills its rows -/
structure NwS (h0 h : Heap) (db rb n i : Nat) (nv tv : AV) : Prop where
  d : ∃ e v, h.get db = some (.cells [nv, tv, .sl rb 0 n n 1] e v)
  r : ∃ e v, h.get rb = some (.cells ((List.replicate n false).map .bool) e v)
  a : Row h nv 1 (cSec (List.replicate i zSec)) i
  b : Row h tv 1 (cSec (List.replicate i zSec)) i
  x : Ext h0 h
  new : h0.next ≤ db ∧ h0.next ≤ rb ∧ db ≠ rb ∧ db < h.next ∧ rb < h.next
  na : ∀ c ∈ blkOf nv, h0.next ≤ c ∧ c ≠ db ∧ c ≠ rb ∧ c ∉ blkOf tv
  nb : ∀ c ∈ blkOf tv, h0.next ≤ c ∧ c ≠ db ∧ c ≠ rb
theorem rnew_loop (g : Pg P tab) {h0 : Heap} {db rb N : Nat} (hN : N ≤ 1024) (n : Nat) :
    ∀ (i : Nat) (nv tv : AV) (s : T AV) (h : Heap) (k : List Fr) (Q : Ex → T AV → Heap → Prop), N = i + n → NwS h0 h db rb N i nv tv → sg s 0 = .int .i64 N → sg s 4 = .ptr db 0 → sg s 5 = .str zSec → sg s 6 = .int .i64 i →
    (∀ s' h' nv' tv', NwS h0 h' db rb N N nv' tv' → sg s' 4 = .ptr db 0 → Un P k Q (.exit 0) s' h') → Lp P b14_0 s h (Un P k Q) := by
  induction n with
  | zero =>
    intro i nv tv s h k Q hn S t0 t4 t5 t6 hQ
    refine g.lpe b14_0.eq_1 ?_
    obtain rfl : i = N := by omega
    have c1 : ¬ ((i : Int) < (i : Int)) := by omega
    simp only [t0, t6, c1, RX, VOp.fresh, bxC, bsC, un, most, callsOf, seval, Int.reducePow, ↓reduceIte, Nat.reduceEqDiff, reduceCtorEq]
    refine hQ _ _ nv tv S ?_
    simp only [t4, sg_set, Nat.reduceEqDiff, ↓reduceIte]
  | succ n ih =>
    intro i nv tv s h k Q hn S t0 t4 t5 t6 hQ
    refine g.lpe b14_0.eq_1 ?_
    have c1 : (i : Int) < (N : Int) := by omega
    have w1 : IntKind.i64.wrap ((i : Int) + 1) = ((i + 1 : Nat) : Int) := by rw [w64 (by omega) (by omega)]; push_cast; rfl
    obtain ⟨⟨e1, v1, d⟩, ⟨e2, v2, r⟩, ra, rb', x, new, na, nb⟩ := S
    -- the first row
    have hg1 : (h.mk' h.next (.cells [.str zSec] 9 0)).get h.next = some (.cells [.str zSec] 9 0) := by rw [Heap.get_mk, if_pos rfl]
    have x1 := Ext.mk (h := h) (.cells [.str zSec] 9 0)
    have n1 : (h.mk' h.next (.cells [.str zSec] 9 0)).next = h.next + 1 := by rw [mk_next]; omega
    generalize hh1 : h.mk' h.next (.cells [.str zSec] 9 0) = h1 at *
    have la := ra.lt
    have lb := rb'.lt
    obtain ⟨h2, ap1, ra2, n2, k2⟩ := (ra.ext x1).push hg1 (by rfl) (by rfl) (bytes := 16) (by unfold most2; omega) 9
    have d1 : h2.get db = some (.cells [nv, tv, .sl rb 0 N N 1] e1 v1) := by
      rw [k2 _ (fun c => (na _ c).2.1 rfl) (by omega), x1.2 _ (by omega)]; exact d
    have one1 := ra.one
    have one2 := rb'.one
    have dh1 : h1.get db = some (.cells [nv, tv, .sl rb 0 N N 1] e1 v1) := by rw [x1.2 _ (by omega)]; exact d
    simp only [t0, t4, t5, t6, c1, w1, HN, hh1, d, dh1, ap1, d1, one1, one2, RW, RX, VOp.fresh, bxC, bsC, un, most, callsOf, seval, Int.reducePow, ↓reduceIte, Nat.reduceEqDiff, reduceCtorEq]
    have rb1 := rb'.ext x1
    have r1 : h1.get rb = some (.cells ((List.replicate N false).map .bool) e2 v2) := by rw [x1.2 _ (by omega)]; exact r
    have r2 : h2.get rb = some (.cells ((List.replicate N false).map .bool) e2 v2) := by rw [k2 _ (fun c => (na _ c).2.2.1 rfl) (by omega)]; exact r1
    have x2 : Ext h0 h2 := ⟨by have := x.1; omega, fun b hb => by
      have := x.1
      rw [k2 b (fun c => by have := (na b c).1; omega) (by omega), x1.2 b (by omega), x.2 b hb]⟩
    have rb2 : Row h2 tv 1 (cSec (List.replicate i zSec)) i := rb1.frame (by omega) fun b hb => k2 b (fun c => (na b c).2.2.2 hb) (by have := lb b hb; omega)
    have lb2 : ∀ b ∈ blkOf tv, b < h.next := lb
    obtain ⟨h3, hh3⟩ : ∃ h3, h3 = (h2.put db (.cells [.sl h1.next 0 (i + 1) (i + 1) 1, tv, .sl rb 0 N N 1] e1 (v1 + 1))).mk' h2.next (.cells [.str zSec] 9 0) := ⟨_, rfl⟩
    have n3 : h3.next = h2.next + 1 := by rw [hh3, mk_next, put_next]; omega
    have f3 : ∀ b, b ≠ db → b < h2.next → h3.get b = h2.get b := fun b h1 h2 => by rw [hh3, Heap.get_mk, if_neg (by omega), Heap.get_put, if_neg h1]
    have d3 : h3.get db = some (.cells [.sl h1.next 0 (i + 1) (i + 1) 1, tv, .sl rb 0 N N 1] e1 (v1 + 1)) := by rw [hh3, Heap.get_mk, if_neg (by omega), Heap.get_put, if_pos rfl]
    have g3 : h3.get h2.next = some (.cells [.str zSec] 9 0) := by rw [hh3, Heap.get_mk, if_pos rfl]
    rw [← hh3]
    clear hh3
    have ra3 := ra2.frame (h' := h3) (by omega) fun b hb => f3 b (by simp only [blkOf, List.mem_singleton] at hb; omega) (ra2.lt b hb)
    have rb3 := rb2.frame (h' := h3) (by omega) fun b hb => f3 b (nb b hb).2.1 (by have := lb b hb; omega)
    obtain ⟨h4, ap4, rb4, n4, k4⟩ := rb3.push g3 (by rfl) (by rfl) (bytes := 16) (by unfold most2; omega) 9
    have d4 : h4.get db = some (.cells [.sl h1.next 0 (i + 1) (i + 1) 1, tv, .sl rb 0 N N 1] e1 (v1 + 1)) := by rw [k4 _ (fun c => (nb _ c).2.1 rfl) (by omega)]; exact d3
    simp only [t6, w1, ap4, d4, one2, RW, RX, VOp.fresh, bxC, bsC, un, most, callsOf, seval, Int.reducePow, ↓reduceIte, Nat.reduceEqDiff, reduceCtorEq]
    have hrow : ∀ l, cSec (List.replicate i l) ++ [.str l] = cSec (List.replicate (i + 1) l) := fun l => by rw [List.replicate_succ', cSec, cSec, List.map_append]; rfl
    rw [hrow] at ra3 rb4
    refine ih (i + 1) (.sl h1.next 0 (i + 1) (i + 1) 1) (.sl h3.next 0 (i + 1) (i + 1) 1) _ _ k Q (by omega) ⟨⟨e1, v1 + 1 + 1, by rw [Heap.get_put, if_pos rfl]⟩, ⟨e2, v2, ?_⟩, ?_, ?_, ?_, ?_, fun c hc => ?_, fun c hc => ?_⟩ ?_ ?_ ?_ ?_ hQ
    · rw [Heap.get_put, if_neg (fun e => new.2.2.1 e.symm), k4 _ (fun c => (nb _ c).2.2 rfl) (by omega), f3 _ (fun e => new.2.2.1 e.symm) (by omega)]; exact r2
    · refine ra3.frame (by rw [put_next]; omega) fun b hb => ?_
      simp only [blkOf, List.mem_singleton] at hb
      subst hb
      rw [Heap.get_put, if_neg (by omega), k4 _ (fun c => by have := lb _ c; omega) (by omega)]
    · refine rb4.frame (by rw [put_next]; omega) fun b hb => ?_
      simp only [blkOf, List.mem_singleton] at hb
      subst hb
      rw [Heap.get_put, if_neg (by omega)]
    · refine ⟨by rw [put_next]; have := x2.1; omega, fun b hb => ?_⟩
      have := x.1
      have hbd : b ≠ db := by omega
      rw [Heap.get_put, if_neg hbd, k4 b (fun c => by have := (nb b c).1; omega) (by omega), f3 b hbd (by omega), x2.2 b hb]
    · rw [put_next]
      exact ⟨new.1, new.2.1, new.2.2.1, by omega, by omega⟩
    · simp only [blkOf, List.mem_singleton] at hc ⊢
      have := x.1
      omega
    · simp only [blkOf, List.mem_singleton] at hc
      have := x.1
      omega
    · simp only [t0, sg_set, Nat.reduceEqDiff, ↓reduceIte]
    · simp only [t4, sg_set, Nat.reduceEqDiff, ↓reduceIte]
    · simp only [t5, sg_set, Nat.reduceEqDiff, ↓reduceIte]
    · simp only [sg_set, Nat.reduceEqDiff, ↓reduceIte]
theorem rnew_cl (g : Pg P tab) {h : Heap} (n : Int) {Q : AV → Heap → Prop} (qN : ¬ (1 ≤ n ∧ n ≤ 1024) → Q (.tup [.nilp, .int .i64 800]) h)
    (qY : 1 ≤ n ∧ n ≤ 1024 → ∀ h' db nb tb rb, Ext h h' → h.next ≤ db ∧ h.next ≤ nb ∧ h.next ≤ tb ∧ h.next ≤ rb → Rk h' db nb tb rb (List.replicate n.toNat zSec) (List.replicate n.toNat zSec) (List.replicate n.toNat false) → Q (.tup [.ptr db 0, .int .i64 0]) h') : Cl P 14 [.int .i64 n] h Q := by
  refine g.cl (vf := v14) rfl rfl ?_
  by_cases c1 : n < 1
  · simp only [v14, c1, RX, VOp.fresh, bxC, bsC, un, most, callsOf, seval, Int.reducePow, ↓reduceIte, Nat.reduceEqDiff, reduceCtorEq]
    exact qN (by omega)
  · by_cases c2 : 1024 < n
    · simp only [v14, c1, c2, RX, VOp.fresh, bxC, bsC, un, most, callsOf, seval, Int.reducePow, ↓reduceIte, Nat.reduceEqDiff, reduceCtorEq]
      exact qN (by omega)
    · have qY := qY (by omega)
      obtain ⟨N, rfl⟩ := Int.eq_ofNat_of_zero_le (show 0 ≤ n by omega)
      rw [Int.toNat_natCast] at qY
      obtain ⟨zb, hzb⟩ : ∃ zb, zb = List.replicate N (AV.bool false) := ⟨_, rfl⟩
      have hmk := mkS_one (h := h) (nm := h.next) (n := N) (x := .bool false) (e := 4) (bytes := 1) (by unfold most; omega) (by unfold most; omega)
      rw [← hzb] at hmk
      obtain ⟨zs, hzs⟩ : ∃ zs, zs = List.replicate 64 (AV.int .u8 0) := ⟨_, rfl⟩
      have hmk2 : ∀ (h : Heap) nm, mkS h nm [.int .u8 0] 5 1 (.int .i64 64) (.int .i64 64) = .val (.sl nm 0 64 64 1) (h.mk' nm (.cells zs 5 0)) := fun h nm => by rw [hzs]; exact mkS_one (n := 64) (by decide) (by decide)
      have hcv : ∀ (h : Heap) nm, cvT (h.mk' nm (.cells zs 5 0)) (.sl nm 0 64 64 1) = .val (.str zSec) (h.mk' nm (.cells zs 5 0)) := fun h nm => cvT_rep (by decide) (by rw [Heap.get_mk, if_pos rfl, hzs]; rfl)
      simp only [v14, c1, c2, hmk, hmk2, hcv, RX, VOp.fresh, bxC, bsC, un, most, callsOf, seval, Int.reducePow, ↓reduceIte, Nat.reduceEqDiff, reduceCtorEq]
      obtain ⟨H, hH⟩ : ∃ H, H = ((h.mk' h.next (.cells zb 4 0)).mk' (h.next + 1) (.cells [.nils, .nils, .sl h.next 0 N N 1] 75 0)).mk' (h.next + 2) (.cells zs 5 0) := ⟨_, rfl⟩
      have nH : H.next = h.next + 3 := by rw [hH, mk_next, mk_next, mk_next]; omega
      have gz : H.get h.next = some (.cells zb 4 0) := by rw [hH, Heap.get_mk, if_neg (by omega), Heap.get_mk, if_neg (by omega), Heap.get_mk, if_pos rfl]
      have gd : H.get (h.next + 1) = some (.cells [.nils, .nils, .sl h.next 0 N N 1] 75 0) := by rw [hH, Heap.get_mk, if_neg (by omega), Heap.get_mk, if_pos rfl]
      have xH : Ext h H := ⟨by omega, fun b hb => by rw [hH, Heap.get_mk, if_neg (by omega), Heap.get_mk, if_neg (by omega), Heap.get_mk, if_neg (by omega)]⟩
      rw [← hH]
      clear hH
      refine rnew_loop g (h0 := h) (db := h.next + 1) (rb := h.next) (N := N) (by omega) N 0 .nils .nils _ H _ _ (by omega) ⟨⟨_, _, gd⟩, ⟨_, _, by rw [gz, hzb, List.map_replicate]⟩, Row.nil _ _, Row.nil _ _, xH, by omega, fun c hc => by simp [blkOf] at hc, fun c hc => by simp [blkOf] at hc⟩ ?_ ?_ ?_ ?_ fun s' h' nv tv S t4 => ?_
      · simp only [sg_set, Nat.reduceEqDiff, ↓reduceIte]
      · simp only [sg_set, Nat.reduceEqDiff, ↓reduceIte]
      · simp only [sg_set, Nat.reduceEqDiff, ↓reduceIte]
      · simp only [sg_set, Nat.reduceEqDiff, ↓reduceIte]
        rfl
      simp only [t4, RX, VOp.fresh, bxC, bsC, un, most, callsOf, seval, Int.reducePow, ↓reduceIte, Nat.reduceEqDiff, reduceCtorEq]
      obtain ⟨⟨e1, v1, d⟩, ⟨e2, v2, r⟩, ra, rb, x, new, na, nb⟩ := S
      rcases ra with ⟨_, c, _⟩ | ⟨b1, e3, v3, rfl, _, l1, _, g1⟩
      · omega
      rcases rb with ⟨_, c, _⟩ | ⟨b2, e4, v4, rfl, _, l2, _, g2⟩
      · omega
      have q1 := na b1 (by simp [blkOf])
      have q2 := nb b2 (by simp [blkOf])
      have q3 : b1 ≠ b2 := fun e => q1.2.2.2 (by simp [blkOf, e])
      refine qY h' (h.next + 1) b1 b2 h.next x ⟨by omega, q1.1, q2.1, by omega⟩ ⟨⟨e1, v1, by rw [List.length_replicate]; exact d⟩, ⟨e3, v3, g1⟩, ⟨e4, v4, g2⟩, ⟨e2, v2, r⟩, ⟨fun e => q1.2.1 e.symm, fun e => q2.2.1 e.symm, by omega, q3, q1.2.2.1, q2.2.2⟩, ⟨by omega, l1, l2, by omega⟩, ⟨by simp, by simp, by rw [List.length_replicate]; omega⟩, ⟨fun s hs => ?_, fun s hs => ?_⟩⟩
      · rw [List.eq_of_mem_replicate hs]; rfl
      · rw [List.eq_of_mem_replicate hs]; rfl
end
end Go.Proofs.Ytlemediphmnffaa.VM
namespace Go.Proofs.Ytlemediphmnffaa.VM
attribute [local irreducible] Af Nx EvO Ev Un Gd Cd EvR EvQ EvC Nc Gc Lp EvM NxM AfM GdM EvMR EvMQ EvMD EvMC Nm Gm
theorem ksN_len {n : Nat} {fr : Frs} (ok : FrOk n fr) : (ksN n fr).length = fr.length := by
  have := congrArg List.length (rsort_keys ok)
  rw [rsort, List.length_mergeSort, List.length_map, List.length_map] at this
  exact this.symm
structure DkRel (h : Heap) (db sb mb rd nb tb rb M N : Nat) (sy : List Sec) (fr : Frs) (nw : List Sec) (di : List Bool) : Prop where
  D : Dk h db sb mb sy fr
  R : Rk h rd nb tb rb nw sy di
  len : sy.length = N ∧ nw.length = N
  w : ∀ j, j < N → now sy fr j = nw.getD j []
  k : ∀ j, j < N → (lk fr j).isSome = di.getD j false
  sep : (db < M ∧ sb < M ∧ mb < M) ∧ M ≤ rd ∧ M ≤ nb ∧ M ≤ tb ∧ M ≤ rb
section
variable {h : Heap} {db sb mb rd nb tb rb M N : Nat} {sy : List Sec} {fr : Frs} {nw : List Sec} {di : List Bool}
theorem DkRel.ext {h' : Heap} (r : DkRel h db sb mb rd nb tb rb M N sy fr nw di) (x : Ext h h') : DkRel h' db sb mb rd nb tb rb M N sy fr nw di :=
  ⟨r.D.frame (x.kb (L := [])) (by simp) (by simp) (by simp), r.R.frame (x.kb (L := [])) (by simp) (by simp) (by simp) (by simp), r.len, r.w, r.k, r.sep⟩
theorem DkRel.dirty (r : DkRel h db sb mb rd nb tb rb M N sy fr nw di) : fr.length = cntT di := by
  have hd := r.R.le.2.1
  have h1 : rank (fun j => (lk fr j).isSome) N = cntT (di.take N) := rank_cnt (fun j hj => r.k j (by have := r.len; omega)) (by have := r.len; omega)
  rw [List.take_of_length_le (by have := r.len; omega)] at h1
  have h2 := ksN_len r.D.ok
  rw [r.len.1] at h2
  rw [← h2, ← h1]; rfl
theorem DkRel.clean (r : DkRel h db sb mb rd nb tb rb M N sy fr nw di) : ∀ j, j < nw.length → di.getD j false = false → nw.getD j [] = sy.getD j [] := fun j hj hd => by
  have hj2 : j < N := by have := r.len; omega
  rw [← r.w j hj2]
  have := r.k j hj2
  rw [hd] at this
  unfold now
  cases e : lk fr j with
  | none => rfl
  | some x => rw [e] at this; cases this
theorem DkRel.read (r : DkRel h db sb mb rd nb tb rb M N sy fr nw di) (k : Int) : rdV sy fr k = rrV nw k := by
  unfold rdV rrV
  have hl := r.len
  by_cases c : 0 ≤ k ∧ k < (sy.length : Int)
  · rw [if_pos c, if_pos (by omega), r.w _ (by omega)]
  · rw [if_neg c, if_neg (by omega)]
theorem DkRel.write {h' : Heap} (r : DkRel h db sb mb rd nb tb rb M N sy fr nw di) {k : Nat} (hk : k < N) {x : Sec} (D : Dk h' db sb mb sy (upd1 fr k x)) (R : Rk h' rd nb tb rb (nw.set k x) sy (di.set k true)) : DkRel h' db sb mb rd nb tb rb M N sy (upd1 fr k x) (nw.set k x) (di.set k true) := by
  have hd := r.R.le.2.1
  have hl := r.len
  refine ⟨D, R, ⟨hl.1, by rw [List.length_set]; exact hl.2⟩, fun j hj => ?_, fun j hj => ?_, r.sep⟩
  · rw [now_upd, getD_set _ _ _ (by omega), r.w j hj]
  · rw [lk_upd1, getD_set _ _ _ (by omega)]
    by_cases e : j = k
    · rw [if_pos e, if_pos e]; rfl
    · rw [if_neg e, if_neg e]; exact r.k j hj
theorem ext_getD {l k : List Sec} (hl : l.length = k.length) (h : ∀ j, j < l.length → l.getD j [] = k.getD j []) : l = k := by
  apply List.ext_getElem hl
  intro j h1 h2
  have := h j h1
  simpa [List.getD_eq_getElem?_getD, List.getElem?_eq_getElem h1, List.getElem?_eq_getElem h2] using this
theorem DkRel.sync {h' : Heap} (r : DkRel h db sb mb rd nb tb rb M N sy fr nw di) (D : Dk h' db sb mb (allNow sy fr) []) (R : Rk h' rd nb tb rb nw nw (List.replicate nw.length false)) : DkRel h' db sb mb rd nb tb rb M N nw [] nw (List.replicate nw.length false) := by
  have hl := r.len
  have e : allNow sy fr = nw := ext_getD (by rw [allNow_len]; omega) fun j hj => by
    rw [allNow_len] at hj
    rw [allNow_get _ _ hj, r.w j (by omega)]
  rw [e] at D
  refine ⟨D, R, ⟨hl.2, hl.2⟩, fun j _ => rfl, fun j hj => ?_, r.sep⟩
  rw [rep_getD _ _ (by omega)]; rfl
theorem DkRel.crash {h' : Heap} (r : DkRel h db sb mb rd nb tb rb M N sy fr nw di) {keep torn : Int} {by' : Nat} {nw' : List Sec} (hl' : nw'.length = nw.length) (hw : ∀ j, j < nw.length → nw'.getD j [] = crv keep torn by' (di.getD j false) (cntT (di.take j)) (nw.getD j []) (sy.getD j [])) (D : Dk h' db sb mb (crashed sy fr keep torn by') []) (R : Rk h' rd nb tb rb nw' nw' (List.replicate nw.length false)) : DkRel h' db sb mb rd nb tb rb M N nw' [] nw' (List.replicate nw.length false) := by
  have hl := r.len
  have hd := r.R.le.2.1
  have e : crashed sy fr keep torn by' = nw' := ext_getD (by rw [crashed_len]; omega) fun j hj => by
    rw [crashed_len] at hj
    rw [crashed_get hj, hw j (by omega), r.k j (by omega), r.w j (by omega), rank_cnt (di := di) (fun i hi => r.k i (by omega)) (by omega)]
  rw [e] at D
  refine ⟨D, R, ⟨by omega, by omega⟩, fun j _ => rfl, fun j hj => ?_, r.sep⟩
  rw [rep_getD _ _ (by omega)]; rfl
end
end Go.Proofs.Ytlemediphmnffaa.VM
namespace Go.Proofs.Ytlemediphmnffaa.VM
attribute [local irreducible] Af Nx EvO Ev Un Gd Cd EvR EvQ EvC Nc Gc Lp EvM NxM AfM GdM EvMR EvMQ EvMD EvMC Nm Gm
/-- an act -/
structure Act8 where
  kind : Int
  at' : Int
  text : Sec
  keep : Int
  torn : Int
  bytes : Int
def cAct (a : Act8) : List AV := [.int .i64 a.kind, .int .i64 a.at', .str a.text, .int .i64 a.keep, .int .i64 a.torn, .int .i64 a.bytes]
def RAct (a : Act8) (c : List AV) : Prop := c = cAct a
theorem zAct (a : Act8) (c : List AV) (h : RAct a c) : c.length = 6 := by rw [h]; rfl
theorem tAct (a : Act8) (c : List AV) (h : RAct a c) : AV.tolds c = true := by rw [h]; rfl
theorem wAct (c : List AV) (h : Ws [.int .i64, .int .i64, .str, .int .i64, .int .i64, .int .i64] c) : ∃ a, RAct a c := by
  cases h with | cons h1 t => cases t with | cons h2 t => cases t with | cons h3 t => cases t with | cons h4 t => cases t with | cons h5 t => cases t with | cons h6 t =>
    cases t; cases h1 with | int _ n1 w1 => cases h2 with | int _ n2 w2 => cases h3 with | str s hs => cases h4 with | int _ n4 w4 => cases h5 with | int _ n5 w5 => cases h6 with | int _ n6 w6 => exact ⟨⟨n1, n2, _, n4, n5, n6⟩, rfl⟩
theorem wActs {c : List AV} (h : Ws [.sl 56 [.int .i64, .int .i64, .str, .int .i64, .int .i64, .int .i64]] c) : ∃ w l, c = [w] ∧ IsL 56 RAct w l := by
  cases h with | cons h1 t =>
    cases t
    obtain ⟨l, hl⟩ := h1.isL wAct
    exact ⟨_, l, rfl, hl⟩
section
variable {P : Program}
theorem acts_loop (g : Pg P tab) (K : SrtK P 27 26 34 3) {w1' : AV} {l1 : List Act8} (hw1 : IsL 56 RAct w1' l1) {db sb mb rd nb tb rb M N : Nat} (S0 : T AV) (n : Nat) :
    ∀ (i : Nat) (sy : List Sec) (fr : Frs) (nw : List Sec) (di : List Bool) (s : T AV) (h : Heap) (k : List Fr) (Q : Ex → T AV → Heap → Prop), min l1.length 100 = i + n → DkRel h db sb mb rd nb tb rb M N sy fr nw di →
    sg s 0 = sg S0 0 → sg s 1 = w1' → sg s 5 = .ptr db 0 → sg s 7 = .ptr rd 0 → sg s 9 = .int .i64 i →
    (∀ (s' : T AV) (h' : Heap) (sy' : List Sec) (fr' : Frs) (nw' : List Sec) (di' : List Bool), DkRel h' db sb mb rd nb tb rb M N sy' fr' nw' di' → sg s' 0 = sg S0 0 → sg s' 5 = .ptr db 0 → sg s' 7 = .ptr rd 0 → Un P k Q (.exit 0) s' h') → Lp P b4_0 s h (Un P k Q) := by
  induction n with
  | zero =>
    intro i sy fr nw di s h k Q hn S t0 t1 t5 t7 t9 hQ
    refine g.lpe b4_0.eq_1 ?_
    by_cases hl : i < l1.length
    · have c1 : (i : Int) < (l1.length : Int) := by omega
      have c2 : ¬ (i : Int) < 100 := by omega
      simp only [t1, t9, hw1.len, c1, c2, RX, VOp.fresh, bxC, bsC, un, most, callsOf, seval, Int.reducePow, ↓reduceIte, Nat.reduceEqDiff, reduceCtorEq]
      refine hQ _ _ sy fr nw di S ?_ ?_ ?_
      · simp only [t0, sg_set, Nat.reduceEqDiff, ↓reduceIte]
      · simp only [t5, sg_set, Nat.reduceEqDiff, ↓reduceIte]
      · simp only [t7, sg_set, Nat.reduceEqDiff, ↓reduceIte]
    · have c1 : ¬ (i : Int) < (l1.length : Int) := by omega
      simp only [t1, t9, hw1.len, c1, RX, VOp.fresh, bxC, bsC, un, most, callsOf, seval, Int.reducePow, ↓reduceIte, Nat.reduceEqDiff, reduceCtorEq]
      refine hQ _ _ sy fr nw di S ?_ ?_ ?_
      · simp only [t0, sg_set, Nat.reduceEqDiff, ↓reduceIte]
      · simp only [t5, sg_set, Nat.reduceEqDiff, ↓reduceIte]
      · simp only [t7, sg_set, Nat.reduceEqDiff, ↓reduceIte]
  | succ n ih =>
    intro i sy fr nw di s h k Q hn S t0 t1 t5 t7 t9 hQ
    refine g.lpe b4_0.eq_1 ?_
    have c1 : (i : Int) < (l1.length : Int) := by omega
    have c2 : (i : Int) < 100 := by omega
    have w1 : IntKind.i64.wrap ((i : Int) + 1) = ((i + 1 : Nat) : Int) := by rw [w64 (by omega) (by omega)]; push_cast; rfl
    obtain ⟨ci, r1, hci, ht1, g1⟩ := hw1.get zAct tAct i (by omega)
    generalize l1[i] = a at *
    unfold RAct cAct at hci
    subst hci
    obtain ⟨kind, at', text, keep, torn, bytes⟩ := a
    have pall : part true ([.int .i64 kind, .int .i64 at', .str text, .int .i64 keep, .int .i64 torn, .int .i64 bytes] ++ r1) 0 6 = some (.agg [.int .i64 kind, .int .i64 at', .str text, .int .i64 keep, .int .i64 torn, .int .i64 bytes]) := by
      simp [part, cut]
    have yA : Ext h ((h.mk' h.next (.cells [.int .i64 0, .int .i64 0, .str [], .int .i64 0, .int .i64 0, .int .i64 0] 42 0)).put h.next (.cells [.int .i64 kind, .int .i64 at', .str text, .int .i64 keep, .int .i64 torn, .int .i64 bytes] 42 1)) := ⟨by rw [put_next, mk_next]; omega, fun b hb => by rw [Heap.get_put, if_neg (by omega), Heap.get_mk, if_neg (by omega)]⟩
    have gA : ((h.mk' h.next (.cells [.int .i64 0, .int .i64 0, .str [], .int .i64 0, .int .i64 0, .int .i64 0] 42 0)).put h.next (.cells [.int .i64 kind, .int .i64 at', .str text, .int .i64 keep, .int .i64 torn, .int .i64 bytes] 42 1)).get h.next = some (.cells [.int .i64 kind, .int .i64 at', .str text, .int .i64 keep, .int .i64 torn, .int .i64 bytes] 42 1) := by rw [Heap.get_put, if_pos rfl]
    have nA : ((h.mk' h.next (.cells [.int .i64 0, .int .i64 0, .str [], .int .i64 0, .int .i64 0, .int .i64 0] 42 0)).put h.next (.cells [.int .i64 kind, .int .i64 at', .str text, .int .i64 keep, .int .i64 torn, .int .i64 bytes] 42 1)).next = h.next + 1 := by rw [put_next, mk_next]; omega
    have SA := S.ext yA
    have ltD := S.D.lt
    have ltR := S.R.lt
    have numok : ∀ n h, OK P 13 [.int .i64 n] h (.int .i64 n) h := fun n h => (num_pu g n).exact rfl
    by_cases k5 : kind < 5
    · simp only [t1, t5, t7, t9, hw1.len, c1, c2, g1, pall, k5, RW, RX, VOp.fresh, bxC, bsC, un, most, callsOf, seval, Int.reducePow, ↓reduceIte, Nat.reduceEqDiff, reduceCtorEq]
      generalize (h.mk' h.next (.cells [.int .i64 0, .int .i64 0, .str [], .int .i64 0, .int .i64 0, .int .i64 0] 42 0)).put h.next (.cells [.int .i64 kind, .int .i64 at', .str text, .int .i64 keep, .int .i64 torn, .int .i64 bytes] 42 1) = h2 at *
      refine write_cl g SA.D at' text (fun c => ?_) fun c h3 kb3 D3 => ?_
      · obtain ⟨v, h3, ok, q1, q2⟩ := rwrite_cl g SA.R at' text (Q := fun v h' => v = .int .i64 800 ∧ h' = h2) (fun _ => ⟨rfl, rfl⟩) (fun c2 => absurd (by have := S.len; unfold wrOk at c2 ⊢; omega) c)
        subst q1
        subst q2
        simp only [RX, VOp.fresh, bxC, bsC, un, most, callsOf, seval, Int.reducePow, ↓reduceIte, Nat.reduceEqDiff, reduceCtorEq]
        refine EvD.same (fun _ _ h => (.int .i64 800, h)) rfl ?_
        simp only [t5, t7, gA, numok, ok, RX, VOp.fresh, bxC, bsC, un, most, callsOf, seval, Int.reducePow, ↓reduceIte, Nat.reduceEqDiff, reduceCtorEq]
        refine dirty_cl g SA.D ?_
        have hdy := SA.dirty
        have hle : (sy).length = (nw).length := by have := SA.len; omega
        simp only [t7, RX, VOp.fresh, bxC, bsC, un, most, callsOf, seval, Int.reducePow, ↓reduceIte, Nat.reduceEqDiff, reduceCtorEq]
        refine rdirty_cl g SA.R ?_
        simp only [t5, hdy, RX, VOp.fresh, bxC, bsC, un, most, callsOf, seval, Int.reducePow, ↓reduceIte, Nat.reduceEqDiff, reduceCtorEq]
        refine sectors_cl g SA.D ?_
        simp only [t7, RX, VOp.fresh, bxC, bsC, un, most, callsOf, seval, Int.reducePow, ↓reduceIte, Nat.reduceEqDiff, reduceCtorEq]
        refine rsectors_cl g SA.R ?_
        simp only [t9, w1, hle, RX, VOp.fresh, bxC, bsC, un, most, callsOf, seval, Int.reducePow, ↓reduceIte, Nat.reduceEqDiff, reduceCtorEq]
        refine ih (i + 1) (sy) (fr) (nw) (di) _ h3 k Q (by omega) SA ?_ ?_ ?_ ?_ ?_ hQ
        · simp only [t0, sg_set, Nat.reduceEqDiff, ↓reduceIte]
        · simp only [t1, sg_set, Nat.reduceEqDiff, ↓reduceIte]
        · simp only [t5, sg_set, Nat.reduceEqDiff, ↓reduceIte]
        · simp only [t7, sg_set, Nat.reduceEqDiff, ↓reduceIte]
        · simp only [sg_set, Nat.reduceEqDiff, ↓reduceIte]
      · have sp := S.sep
        have q3 := kb3.1
        have yA1 := yA.1
        have c' : wrOk nw.length at' text := by have := S.len; unfold wrOk at c ⊢; omega
        obtain ⟨a, rfl⟩ := Int.eq_ofNat_of_zero_le c.1
        rw [Int.toNat_natCast] at D3
        have ha : a < N := by have := c.2.1; have := S.len; omega
        have R3 := SA.R.frame kb3 (by simp; omega) (by simp; omega) (by simp; omega) (by simp; omega)
        have gA3 : h3.get h.next = some (.cells [.int .i64 kind, .int .i64 (a : Int), .str text, .int .i64 keep, .int .i64 torn, .int .i64 bytes] 42 1) := by rw [kb3.2 _ (by omega) (by simp; omega)]; exact gA
        obtain ⟨v, h4, ok, q1, kb4, R4⟩ := rwrite_cl g R3 (a : Int) text (Q := fun v h' => v = .int .i64 0 ∧ KB [nb, rb] h3 h' ∧ Rk h' rd nb tb rb (nw.set a text) sy (di.set a true)) (fun c2 => absurd c' c2) (fun _ h' kb R => ⟨rfl, kb, R⟩)
        subst q1
        have D4 := D3.frame kb4 (by simp; omega) (by simp; omega) (by simp; omega)
        have S4 := S.write ha D4 R4
        simp only [RX, VOp.fresh, bxC, bsC, un, most, callsOf, seval, Int.reducePow, ↓reduceIte, Nat.reduceEqDiff, reduceCtorEq]
        refine EvD.lk (fun f _ h => if f = 13 then (.int .i64 0, h) else (.int .i64 0, h4)) ?_
        simp only [t5, t7, gA3, numok, ok, RX, VOp.fresh, bxC, bsC, un, most, callsOf, seval, Int.reducePow, ↓reduceIte, Nat.reduceEqDiff, reduceCtorEq]
        refine ⟨⟨⟨?_, trivial⟩, ⟨?_, trivial⟩, trivial⟩, ?_⟩
        · show Lk _ _ _ _
          simp only [Lk, wanted, gA3, RX, VOp.fresh, bxC, bsC, un, most, callsOf, seval, Int.reducePow, ↓reduceIte, Nat.reduceEqDiff, reduceCtorEq]
        · show Lk _ _ _ _
          simp only [Lk, wanted, gA3, RX, VOp.fresh, bxC, bsC, un, most, callsOf, seval, Int.reducePow, ↓reduceIte, Nat.reduceEqDiff, reduceCtorEq]
        refine dirty_cl g S4.D ?_
        have hdy := S4.dirty
        have hle : (sy).length = (nw.set a text).length := by have := S4.len; omega
        simp only [t7, RX, VOp.fresh, bxC, bsC, un, most, callsOf, seval, Int.reducePow, ↓reduceIte, Nat.reduceEqDiff, reduceCtorEq]
        refine rdirty_cl g S4.R ?_
        simp only [t5, hdy, RX, VOp.fresh, bxC, bsC, un, most, callsOf, seval, Int.reducePow, ↓reduceIte, Nat.reduceEqDiff, reduceCtorEq]
        refine sectors_cl g S4.D ?_
        simp only [t7, RX, VOp.fresh, bxC, bsC, un, most, callsOf, seval, Int.reducePow, ↓reduceIte, Nat.reduceEqDiff, reduceCtorEq]
        refine rsectors_cl g S4.R ?_
        simp only [t9, w1, hle, RX, VOp.fresh, bxC, bsC, un, most, callsOf, seval, Int.reducePow, ↓reduceIte, Nat.reduceEqDiff, reduceCtorEq]
        refine ih (i + 1) (sy) (upd1 fr a text) (nw.set a text) (di.set a true) _ h4 k Q (by omega) S4 ?_ ?_ ?_ ?_ ?_ hQ
        · simp only [t0, sg_set, Nat.reduceEqDiff, ↓reduceIte]
        · simp only [t1, sg_set, Nat.reduceEqDiff, ↓reduceIte]
        · simp only [t5, sg_set, Nat.reduceEqDiff, ↓reduceIte]
        · simp only [t7, sg_set, Nat.reduceEqDiff, ↓reduceIte]
        · simp only [sg_set, Nat.reduceEqDiff, ↓reduceIte]
    · by_cases k7 : kind < 7
      · simp only [t1, t5, t7, t9, hw1.len, c1, c2, g1, pall, k5, k7, RW, RX, VOp.fresh, bxC, bsC, un, most, callsOf, seval, Int.reducePow, ↓reduceIte, Nat.reduceEqDiff, reduceCtorEq]
        generalize (h.mk' h.next (.cells [.int .i64 0, .int .i64 0, .str [], .int .i64 0, .int .i64 0, .int .i64 0] 42 0)).put h.next (.cells [.int .i64 kind, .int .i64 at', .str text, .int .i64 keep, .int .i64 torn, .int .i64 bytes] 42 1) = h2 at *
        refine read_cl g SA.D at' ?_
        have hrd := S.read at'
        rw [hrd]
        unfold rrV
        by_cases c3 : 0 ≤ at' ∧ at' < (nw.length : Int)
        · rw [if_pos c3]
          simp only [t7, gA, RX, VOp.fresh, bxC, bsC, un, most, callsOf, seval, Int.reducePow, ↓reduceIte, Nat.reduceEqDiff, reduceCtorEq]
          refine rread_cl g SA.R at' ?_
          unfold rrV
          rw [if_pos c3]
          simp only [RX, VOp.fresh, bxC, bsC, un, most, callsOf, seval, Int.reducePow, ↓reduceIte, Nat.reduceEqDiff, reduceCtorEq]
          refine (num_pu g _).cl (Fzs.refl rfl) fun v e => ?_
          subst e
          simp only [t5, RX, VOp.fresh, bxC, bsC, un, most, callsOf, seval, Int.reducePow, ↓reduceIte, Nat.reduceEqDiff, reduceCtorEq]
          refine dirty_cl g SA.D ?_
          have hdy := SA.dirty
          have hle : (sy).length = (nw).length := by have := SA.len; omega
          simp only [t7, RX, VOp.fresh, bxC, bsC, un, most, callsOf, seval, Int.reducePow, ↓reduceIte, Nat.reduceEqDiff, reduceCtorEq]
          refine rdirty_cl g SA.R ?_
          simp only [t5, hdy, RX, VOp.fresh, bxC, bsC, un, most, callsOf, seval, Int.reducePow, ↓reduceIte, Nat.reduceEqDiff, reduceCtorEq]
          refine sectors_cl g SA.D ?_
          simp only [t7, RX, VOp.fresh, bxC, bsC, un, most, callsOf, seval, Int.reducePow, ↓reduceIte, Nat.reduceEqDiff, reduceCtorEq]
          refine rsectors_cl g SA.R ?_
          simp only [t9, w1, hle, RX, VOp.fresh, bxC, bsC, un, most, callsOf, seval, Int.reducePow, ↓reduceIte, Nat.reduceEqDiff, reduceCtorEq]
          refine ih (i + 1) (sy) (fr) (nw) (di) _ h2 k Q (by omega) SA ?_ ?_ ?_ ?_ ?_ hQ
          · simp only [t0, sg_set, Nat.reduceEqDiff, ↓reduceIte]
          · simp only [t1, sg_set, Nat.reduceEqDiff, ↓reduceIte]
          · simp only [t5, sg_set, Nat.reduceEqDiff, ↓reduceIte]
          · simp only [t7, sg_set, Nat.reduceEqDiff, ↓reduceIte]
          · simp only [sg_set, Nat.reduceEqDiff, ↓reduceIte]
        · rw [if_neg c3]
          simp only [t7, gA, RX, VOp.fresh, bxC, bsC, un, most, callsOf, seval, Int.reducePow, ↓reduceIte, Nat.reduceEqDiff, reduceCtorEq]
          refine rread_cl g SA.R at' ?_
          unfold rrV
          rw [if_neg c3]
          simp only [RX, VOp.fresh, bxC, bsC, un, most, callsOf, seval, Int.reducePow, ↓reduceIte, Nat.reduceEqDiff, reduceCtorEq]
          refine (num_pu g _).cl (Fzs.refl rfl) fun v e => ?_
          subst e
          simp only [t5, RX, VOp.fresh, bxC, bsC, un, most, callsOf, seval, Int.reducePow, ↓reduceIte, Nat.reduceEqDiff, reduceCtorEq]
          refine dirty_cl g SA.D ?_
          have hdy := SA.dirty
          have hle : (sy).length = (nw).length := by have := SA.len; omega
          simp only [t7, RX, VOp.fresh, bxC, bsC, un, most, callsOf, seval, Int.reducePow, ↓reduceIte, Nat.reduceEqDiff, reduceCtorEq]
          refine rdirty_cl g SA.R ?_
          simp only [t5, hdy, RX, VOp.fresh, bxC, bsC, un, most, callsOf, seval, Int.reducePow, ↓reduceIte, Nat.reduceEqDiff, reduceCtorEq]
          refine sectors_cl g SA.D ?_
          simp only [t7, RX, VOp.fresh, bxC, bsC, un, most, callsOf, seval, Int.reducePow, ↓reduceIte, Nat.reduceEqDiff, reduceCtorEq]
          refine rsectors_cl g SA.R ?_
          simp only [t9, w1, hle, RX, VOp.fresh, bxC, bsC, un, most, callsOf, seval, Int.reducePow, ↓reduceIte, Nat.reduceEqDiff, reduceCtorEq]
          refine ih (i + 1) (sy) (fr) (nw) (di) _ h2 k Q (by omega) SA ?_ ?_ ?_ ?_ ?_ hQ
          · simp only [t0, sg_set, Nat.reduceEqDiff, ↓reduceIte]
          · simp only [t1, sg_set, Nat.reduceEqDiff, ↓reduceIte]
          · simp only [t5, sg_set, Nat.reduceEqDiff, ↓reduceIte]
          · simp only [t7, sg_set, Nat.reduceEqDiff, ↓reduceIte]
          · simp only [sg_set, Nat.reduceEqDiff, ↓reduceIte]
      · by_cases k9 : kind < 9
        · simp only [t1, t5, t7, t9, hw1.len, c1, c2, g1, pall, k5, k7, k9, RW, RX, VOp.fresh, bxC, bsC, un, most, callsOf, seval, Int.reducePow, ↓reduceIte, Nat.reduceEqDiff, reduceCtorEq]
          generalize (h.mk' h.next (.cells [.int .i64 0, .int .i64 0, .str [], .int .i64 0, .int .i64 0, .int .i64 0] 42 0)).put h.next (.cells [.int .i64 kind, .int .i64 at', .str text, .int .i64 keep, .int .i64 torn, .int .i64 bytes] 42 1) = h2 at *
          have sp := S.sep
          refine sync_cl g SA.D fun h3 kb3 D3 => ?_
          have R3 := SA.R.frame kb3 (by simp; omega) (by simp; omega) (by simp; omega) (by simp; omega)
          simp only [t7, RX, VOp.fresh, bxC, bsC, un, most, callsOf, seval, Int.reducePow, ↓reduceIte, Nat.reduceEqDiff, reduceCtorEq]
          refine rsync_cl g R3 fun h4 kb4 R4 => ?_
          have D4 := D3.frame kb4 (by simp; omega) (by simp; omega) (by simp; omega)
          have S4 := S.sync D4 R4
          simp only [RX, VOp.fresh, bxC, bsC, un, most, callsOf, seval, Int.reducePow, ↓reduceIte, Nat.reduceEqDiff, reduceCtorEq]
          refine (num_pu g _).cl (Fzs.refl rfl) fun v e => ?_
          subst e
          simp only [t5, RX, VOp.fresh, bxC, bsC, un, most, callsOf, seval, Int.reducePow, ↓reduceIte, Nat.reduceEqDiff, reduceCtorEq]
          refine dirty_cl g S4.D ?_
          have hdy : cntT (List.replicate nw.length false) = 0 := S4.dirty.symm
          have hle : (nw).length = (nw).length := by have := S4.len; omega
          simp only [t7, RX, VOp.fresh, bxC, bsC, un, most, callsOf, seval, Int.reducePow, ↓reduceIte, Nat.reduceEqDiff, reduceCtorEq]
          refine rdirty_cl g S4.R ?_
          simp only [t5, hdy, RX, VOp.fresh, bxC, bsC, un, most, callsOf, seval, Int.reducePow, ↓reduceIte, Nat.reduceEqDiff, reduceCtorEq]
          refine sectors_cl g S4.D ?_
          simp only [t7, RX, VOp.fresh, bxC, bsC, un, most, callsOf, seval, Int.reducePow, ↓reduceIte, Nat.reduceEqDiff, reduceCtorEq]
          refine rsectors_cl g S4.R ?_
          simp only [t9, w1, hle, RX, VOp.fresh, bxC, bsC, un, most, callsOf, seval, Int.reducePow, ↓reduceIte, Nat.reduceEqDiff, reduceCtorEq]
          refine ih (i + 1) (nw) ([]) (nw) (List.replicate nw.length false) _ h4 k Q (by omega) S4 ?_ ?_ ?_ ?_ ?_ hQ
          · simp only [t0, sg_set, Nat.reduceEqDiff, ↓reduceIte]
          · simp only [t1, sg_set, Nat.reduceEqDiff, ↓reduceIte]
          · simp only [t5, sg_set, Nat.reduceEqDiff, ↓reduceIte]
          · simp only [t7, sg_set, Nat.reduceEqDiff, ↓reduceIte]
          · simp only [sg_set, Nat.reduceEqDiff, ↓reduceIte]
        · simp only [t1, t5, t7, t9, hw1.len, c1, c2, g1, pall, k5, k7, k9, RW, RX, VOp.fresh, bxC, bsC, un, most, callsOf, seval, Int.reducePow, ↓reduceIte, Nat.reduceEqDiff, reduceCtorEq]
          generalize (h.mk' h.next (.cells [.int .i64 0, .int .i64 0, .str [], .int .i64 0, .int .i64 0, .int .i64 0] 42 0)).put h.next (.cells [.int .i64 kind, .int .i64 at', .str text, .int .i64 keep, .int .i64 torn, .int .i64 bytes] 42 1) = h2 at *
          have sp := S.sep
          have yA1 := yA.1
          refine crash_cl g K SA.D keep torn bytes (fun c h3 x3 => ?_) fun c h3 kb3 D3 => ?_
          · have S3 := SA.ext x3
            have gA3 : h3.get h.next = some (.cells [.int .i64 kind, .int .i64 at', .str text, .int .i64 keep, .int .i64 torn, .int .i64 bytes] 42 1) := by rw [x3.2 _ (by omega)]; exact gA
            obtain ⟨v, h4, ok, q1, x4⟩ := rcrash_cl g S3.R S3.clean keep torn bytes (Q := fun v h' => v = .int .i64 800 ∧ Ext h3 h') (fun _ h' x => ⟨rfl, x⟩) (fun c2 => absurd c2 c)
            subst q1
            have S4 := S3.ext x4
            simp only [RX, VOp.fresh, bxC, bsC, un, most, callsOf, seval, Int.reducePow, ↓reduceIte, Nat.reduceEqDiff, reduceCtorEq]
            refine EvD.lk (fun f _ h => if f = 13 then (.int .i64 800, h) else (.int .i64 800, h4)) ?_
            simp only [t5, t7, gA3, numok, ok, RX, VOp.fresh, bxC, bsC, un, most, callsOf, seval, Int.reducePow, ↓reduceIte, Nat.reduceEqDiff, reduceCtorEq]
            refine ⟨⟨⟨?_, trivial⟩, trivial⟩, ?_⟩
            · show Lk _ _ _ _
              simp only [Lk, wanted, gA3, RX, VOp.fresh, bxC, bsC, un, most, callsOf, seval, Int.reducePow, ↓reduceIte, Nat.reduceEqDiff, reduceCtorEq]
            refine dirty_cl g S4.D ?_
            have hdy := S4.dirty
            have hle : (sy).length = (nw).length := by have := S4.len; omega
            simp only [t7, RX, VOp.fresh, bxC, bsC, un, most, callsOf, seval, Int.reducePow, ↓reduceIte, Nat.reduceEqDiff, reduceCtorEq]
            refine rdirty_cl g S4.R ?_
            simp only [t5, hdy, RX, VOp.fresh, bxC, bsC, un, most, callsOf, seval, Int.reducePow, ↓reduceIte, Nat.reduceEqDiff, reduceCtorEq]
            refine sectors_cl g S4.D ?_
            simp only [t7, RX, VOp.fresh, bxC, bsC, un, most, callsOf, seval, Int.reducePow, ↓reduceIte, Nat.reduceEqDiff, reduceCtorEq]
            refine rsectors_cl g S4.R ?_
            simp only [t9, w1, hle, RX, VOp.fresh, bxC, bsC, un, most, callsOf, seval, Int.reducePow, ↓reduceIte, Nat.reduceEqDiff, reduceCtorEq]
            refine ih (i + 1) (sy) (fr) (nw) (di) _ h4 k Q (by omega) S4 ?_ ?_ ?_ ?_ ?_ hQ
            · simp only [t0, sg_set, Nat.reduceEqDiff, ↓reduceIte]
            · simp only [t1, sg_set, Nat.reduceEqDiff, ↓reduceIte]
            · simp only [t5, sg_set, Nat.reduceEqDiff, ↓reduceIte]
            · simp only [t7, sg_set, Nat.reduceEqDiff, ↓reduceIte]
            · simp only [sg_set, Nat.reduceEqDiff, ↓reduceIte]
          · have R3 := SA.R.frame kb3 (by simp; omega) (by simp; omega) (by simp; omega) (by simp; omega)
            have gA3 : h3.get h.next = some (.cells [.int .i64 kind, .int .i64 at', .str text, .int .i64 keep, .int .i64 torn, .int .i64 bytes] 42 1) := by rw [kb3.2 _ (by omega) (by simp; omega)]; exact gA
            obtain ⟨v, h4, ok, q1, nw', kb4, hl', hw', R4⟩ := rcrash_cl g R3 S.clean keep torn bytes (Q := fun v h' => v = .int .i64 0 ∧ ∃ nw', KB [nb, tb, rb] h3 h' ∧ nw'.length = nw.length ∧ (∀ j, j < nw.length → nw'.getD j [] = crv keep torn bytes.toNat (di.getD j false) (cntT (di.take j)) (nw.getD j []) (sy.getD j [])) ∧ Rk h' rd nb tb rb nw' nw' (List.replicate nw.length false)) (fun c2 => absurd c c2) (fun _ h' nw' kb a b R => ⟨rfl, nw', kb, a, b, R⟩)
            subst q1
            have D4 := D3.frame kb4 (by simp; omega) (by simp; omega) (by simp; omega)
            have S4 := S.crash hl' hw' D4 R4
            simp only [RX, VOp.fresh, bxC, bsC, un, most, callsOf, seval, Int.reducePow, ↓reduceIte, Nat.reduceEqDiff, reduceCtorEq]
            refine EvD.lk (fun f _ h => if f = 13 then (.int .i64 0, h) else (.int .i64 0, h4)) ?_
            simp only [t5, t7, gA3, numok, ok, RX, VOp.fresh, bxC, bsC, un, most, callsOf, seval, Int.reducePow, ↓reduceIte, Nat.reduceEqDiff, reduceCtorEq]
            refine ⟨⟨⟨?_, trivial⟩, trivial⟩, ?_⟩
            · show Lk _ _ _ _
              simp only [Lk, wanted, gA3, RX, VOp.fresh, bxC, bsC, un, most, callsOf, seval, Int.reducePow, ↓reduceIte, Nat.reduceEqDiff, reduceCtorEq]
            refine dirty_cl g S4.D ?_
            have hdy : cntT (List.replicate nw.length false) = 0 := S4.dirty.symm
            have hle : (nw').length = (nw').length := by have := S4.len; omega
            simp only [t7, RX, VOp.fresh, bxC, bsC, un, most, callsOf, seval, Int.reducePow, ↓reduceIte, Nat.reduceEqDiff, reduceCtorEq]
            refine rdirty_cl g S4.R ?_
            simp only [t5, hdy, RX, VOp.fresh, bxC, bsC, un, most, callsOf, seval, Int.reducePow, ↓reduceIte, Nat.reduceEqDiff, reduceCtorEq]
            refine sectors_cl g S4.D ?_
            simp only [t7, RX, VOp.fresh, bxC, bsC, un, most, callsOf, seval, Int.reducePow, ↓reduceIte, Nat.reduceEqDiff, reduceCtorEq]
            refine rsectors_cl g S4.R ?_
            simp only [t9, w1, hle, RX, VOp.fresh, bxC, bsC, un, most, callsOf, seval, Int.reducePow, ↓reduceIte, Nat.reduceEqDiff, reduceCtorEq]
            refine ih (i + 1) (nw') ([]) (nw') (List.replicate nw.length false) _ h4 k Q (by omega) S4 ?_ ?_ ?_ ?_ ?_ hQ
            · simp only [t0, sg_set, Nat.reduceEqDiff, ↓reduceIte]
            · simp only [t1, sg_set, Nat.reduceEqDiff, ↓reduceIte]
            · simp only [t5, sg_set, Nat.reduceEqDiff, ↓reduceIte]
            · simp only [t7, sg_set, Nat.reduceEqDiff, ↓reduceIte]
            · simp only [sg_set, Nat.reduceEqDiff, ↓reduceIte]
theorem acts_loop1 (g : Pg P tab) {db sb mb rd nb tb rb M N : Nat} {sy : List Sec} {fr : Frs} {nw : List Sec} {di : List Bool} {h : Heap} (S : DkRel h db sb mb rd nb tb rb M N sy fr nw di) (n : Nat) :
    ∀ (i : Nat) (s : T AV) (k : List Fr) (Q : Ex → T AV → Heap → Prop), N = i + n → sg s 0 = .int .i64 N → sg s 5 = .ptr db 0 → sg s 7 = .ptr rd 0 → sg s 19 = .int .i64 i →
    (∀ s', Un P k Q (.exit 3) s' h) → Lp P b4_1 s h (Un P k Q) := by
  have hl := S.len
  have hsm := S.D.sm
  induction n with
  | zero =>
    intro i s k Q hn t0 t5 t7 t19 hQ
    refine g.lpe b4_1.eq_1 ?_
    obtain rfl : i = N := by omega
    have c1 : ¬ ((i : Int) < (i : Int)) := by omega
    simp only [t0, t19, c1, RX, VOp.fresh, bxC, bsC, un, most, callsOf, seval, Int.reducePow, ↓reduceIte, Nat.reduceEqDiff, reduceCtorEq]
    exact hQ _
  | succ n ih =>
    intro i s k Q hn t0 t5 t7 t19 hQ
    refine g.lpe b4_1.eq_1 ?_
    have c1 : (i : Int) < (N : Int) := by omega
    have w1 : IntKind.i64.wrap ((i : Int) + 1) = ((i + 1 : Nat) : Int) := by rw [w64 (by omega) (by omega)]; push_cast; rfl
    have c3 : 0 ≤ (i : Int) ∧ (i : Int) < (nw.length : Int) := by omega
    simp only [t0, t5, t19, c1, RX, VOp.fresh, bxC, bsC, un, most, callsOf, seval, Int.reducePow, ↓reduceIte, Nat.reduceEqDiff, reduceCtorEq]
    refine read_cl g S.D (i : Int) ?_
    rw [S.read (i : Int)]
    unfold rrV
    rw [if_pos c3]
    simp only [t7, t19, RX, VOp.fresh, bxC, bsC, un, most, callsOf, seval, Int.reducePow, ↓reduceIte, Nat.reduceEqDiff, reduceCtorEq]
    refine rread_cl g S.R (i : Int) ?_
    unfold rrV
    rw [if_pos c3]
    simp only [t19, w1, RX, VOp.fresh, bxC, bsC, un, most, callsOf, seval, Int.reducePow, ↓reduceIte, Nat.reduceEqDiff, reduceCtorEq]
    refine ih (i + 1) _ k Q (by omega) ?_ ?_ ?_ ?_ hQ
    · simp only [t0, sg_set, Nat.reduceEqDiff, ↓reduceIte]
    · simp only [t5, sg_set, Nat.reduceEqDiff, ↓reduceIte]
    · simp only [t7, sg_set, Nat.reduceEqDiff, ↓reduceIte]
    · simp only [sg_set, Nat.reduceEqDiff, ↓reduceIte]
theorem diskActs_pu (g : Pg P tab) (K : SrtK P 27 26 34 3) (n : Int) {w1' : AV} {l1 : List Act8} (hw1 : IsL 56 RAct w1' l1) : Pu P 4 [.int .i64 n, w1'] (fun v => v = .bool true) := by
  refine g.pu (vf := v4) rfl rfl ?_
  simp only [v4, RX, VOp.fresh, bxC, bsC, un, most, callsOf, seval, Int.reducePow, ↓reduceIte, Nat.reduceEqDiff, reduceCtorEq]
  by_cases hn : 1 ≤ n ∧ n ≤ 1024
  · refine new_cl g n (fun c => absurd hn c) fun _ h1 db sb mb x1 f1 D => ?_
    simp only [RX, VOp.fresh, bxC, bsC, un, most, callsOf, seval, Int.reducePow, ↓reduceIte, Nat.reduceEqDiff, reduceCtorEq]
    refine rnew_cl g n (fun c => absurd hn c) fun _ h2 rd nb tb rb x2 f2 R => ?_
    simp only [RX, VOp.fresh, bxC, bsC, un, most, callsOf, seval, Int.reducePow, ↓reduceIte, Nat.reduceEqDiff, reduceCtorEq]
    refine (num_pu g _).cl (Fzs.refl rfl) fun v e => ?_
    subst e
    simp only [eqv_p0, RX, VOp.fresh, bxC, bsC, un, most, callsOf, seval, Int.reducePow, ↓reduceIte, Nat.reduceEqDiff, reduceCtorEq]
    obtain ⟨N, rfl⟩ := Int.eq_ofNat_of_zero_le (show 0 ≤ n by omega)
    rw [Int.toNat_natCast] at D R
    have S : DkRel h2 db sb mb rd nb tb rb h1.next N (List.replicate N zSec) [] (List.replicate N zSec) (List.replicate N false) := ⟨D.frame (x2.kb (L := [])) (by simp) (by simp) (by simp), R, ⟨by simp, by simp⟩, fun j _ => rfl, fun j hj => by rw [rep_getD _ _ hj]; rfl, D.lt, f2⟩
    generalize hst : (T.set _ _ _) = st
    have u0 : sg st 0 = .int .i64 N := by rw [← hst]; simp only [sg_set, Nat.reduceEqDiff, ↓reduceIte]
    have u1 : sg st 1 = w1' := by rw [← hst]; simp only [sg_set, Nat.reduceEqDiff, ↓reduceIte]
    have u5 : sg st 5 = .ptr db 0 := by rw [← hst]; simp only [sg_set, Nat.reduceEqDiff, ↓reduceIte]
    have u7 : sg st 7 = .ptr rd 0 := by rw [← hst]; simp only [sg_set, Nat.reduceEqDiff, ↓reduceIte]
    have u9 : sg st 9 = .int .i64 (0 : Nat) := by rw [← hst]; simp only [sg_set, Nat.reduceEqDiff, ↓reduceIte]; rfl
    clear hst
    refine acts_loop g K hw1 st (min l1.length 100) 0 _ _ _ _ st h2 _ _ (by omega) S rfl u1 u5 u7 u9 fun s3 h3 sy fr nw di S3 t0 t5 t7 => ?_
    rw [u0] at t0
    simp only [RX, VOp.fresh, bxC, bsC, un, most, callsOf, seval, Int.reducePow, ↓reduceIte, Nat.reduceEqDiff, reduceCtorEq]
    refine acts_loop1 g S3 N 0 _ _ _ (by omega) ?_ ?_ ?_ ?_ fun s4 => ?_
    · simp only [t0, sg_set, Nat.reduceEqDiff, ↓reduceIte]
    · simp only [t5, sg_set, Nat.reduceEqDiff, ↓reduceIte]
    · simp only [t7, sg_set, Nat.reduceEqDiff, ↓reduceIte]
    · simp only [sg_set, Nat.reduceEqDiff, ↓reduceIte]
      rfl
    simp only [RX, VOp.fresh, bxC, bsC, un, most, callsOf, seval, Int.reducePow, ↓reduceIte, Nat.reduceEqDiff, reduceCtorEq]
    refine (awake8_pu g K).cl (Fzs.refl rfl) fun v e => ?_
    subst e
    simp only [RX, VOp.fresh, bxC, bsC, un, most, callsOf, seval, Int.reducePow, ↓reduceIte, Nat.reduceEqDiff, reduceCtorEq]
  · refine new_cl g n (fun _ => ?_) fun c => absurd c hn
    simp only [RX, VOp.fresh, bxC, bsC, un, most, callsOf, seval, Int.reducePow, ↓reduceIte, Nat.reduceEqDiff, reduceCtorEq]
    refine rnew_cl g n (fun _ => ?_) fun c => absurd c hn
    simp only [RX, VOp.fresh, bxC, bsC, un, most, callsOf, seval, Int.reducePow, ↓reduceIte, Nat.reduceEqDiff, reduceCtorEq]
    refine (num_pu g _).cl (Fzs.refl rfl) fun v e => ?_
    subst e
    simp only [eqv_p1, RX, VOp.fresh, bxC, bsC, un, most, callsOf, seval, Int.reducePow, ↓reduceIte, Nat.reduceEqDiff, reduceCtorEq]
    refine (awake8_pu g K).cl (Fzs.refl rfl) fun v e => ?_
    subst e
    simp only [RX, VOp.fresh, bxC, bsC, un, most, callsOf, seval, Int.reducePow, ↓reduceIte, Nat.reduceEqDiff, reduceCtorEq]
end
end Go.Proofs.Ytlemediphmnffaa.VM
