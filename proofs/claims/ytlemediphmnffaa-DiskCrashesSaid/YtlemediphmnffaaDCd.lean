/- Part of a proof: what stands for the program, and its walk. No condition. -/
import Derived.Below
import Derived.ChangeArms
import Derived.ChangeMaps5
import Derived.Deep.DeepAppendWide
import Derived.Laws.Cells
import Derived.Laws.IdiomCopy
import Derived.Lib.SlKeysI
import Derived.MapKept
import Derived.Maps.RangeRun
import Derived.OrdersIn
import Derived.RangeFuncLeaves
import Derived.RangeFuncRecord
import Derived.Shelf.GgSortFunc.RowK
import Derived.Shelf.SlIterI.Sorted
import Derived.Shelf.SlLaysZI
import Derived.Shelf.SortM.Plain
import Derived.Shelf.SortM.SortNone
import Derived.SizedLaws
import Derived.WalkKit
import Derived.WalkLawsBesides
import GoSem.Claim
import Derived.Test.YtlemediphmnffaaDCc
set_option linter.unusedSimpArgs false
set_option linter.unusedVariables false
set_option linter.defProp false
set_option maxHeartbeats 1000000
namespace Go.Proofs.Ytlemediphmnffaa.VM
attribute [local irreducible] Af Nx EvO Ev Un Gd Cd EvR EvQ EvC Nc Gc Lp EvM NxM AfM GdM EvMR EvMQ EvMD EvMC Nm Gm
section
variable {P : Program}
/-- the first rounds -/
theorem cr_loop0 (g : Pg P tab) {w0 : AV} {l0 : List Int} (hw0 : IsL 8 RInt w0 l0) {db sb mb ob N : Nat} (ho : db < ob ∧ sb < ob ∧ mb < ob) (S0 : T AV) (n : Nat) :
    ∀ (i : Nat) (O : List Int) (sy : List Sec) (fr : Frs) (s : T AV) (h : Heap) (k : List Fr) (Q : Ex → T AV → Heap → Prop), min l0.length 30 = i + n → Dk h db sb mb sy fr → sy.length = 16 → (∃ e v, h.get ob = some (.cells (cI O) e v)) → O.length = 16 → (∀ j, j < 16 → now sy fr j = secC (O.getD j 0)) → ob < h.next → N ≤ h.next →
    sg s 0 = w0 → sg s 7 = .ptr db 0 → sg s 9 = .ptr ob 0 → sg s 12 = .int .i64 i → (∀ t, t ∈ [1, 5, 8, 10, 11] → sg s t = sg S0 t) →
    (∀ s' h' O' fr', KB [db, mb, ob] h h' → Dk h' db sb mb sy fr' → (∃ e v, h'.get ob = some (.cells (cI O') e v)) → O'.length = 16 → (∀ j, j < 16 → now sy fr' j = secC (O'.getD j 0)) → sg s' 7 = .ptr db 0 → sg s' 9 = .ptr ob 0 → (∀ t, t ∈ [1, 5, 8, 10, 11] → sg s' t = sg S0 t) → Un P k Q (.exit 0) s' h') → Lp P b5_0 s h (Un P k Q) := by
  induction n with
  | zero =>
    intro i O sy fr s h k Q hn D hs go hO hw hlt hN t0 t7 t9 t12 tS hQ
    refine g.lpe b5_0.eq_1 ?_
    by_cases hl : i < l0.length
    · have c1 : (i : Int) < (l0.length : Int) := by omega
      have c2 : ¬ (i : Int) < 30 := by omega
      simp only [t0, t12, hw0.len, c1, c2, RX, VOp.fresh, bxC, bsC, un, most, callsOf, seval, Int.reducePow, ↓reduceIte, Nat.reduceEqDiff, reduceCtorEq]
      refine hQ _ _ O fr (KB.refl _ _) D go hO hw ?_ ?_ fun t ht => ?_
      · simp only [t7, sg_set, Nat.reduceEqDiff, ↓reduceIte]
      · simp only [t9, sg_set, Nat.reduceEqDiff, ↓reduceIte]
      · rw [← tS t ht]
        simp only [List.mem_cons, List.not_mem_nil, or_false] at ht
        rcases ht with rfl | rfl | rfl | rfl | rfl <;> simp only [sg_set, Nat.reduceEqDiff, ↓reduceIte]
    · have c1 : ¬ (i : Int) < (l0.length : Int) := by omega
      simp only [t0, t12, hw0.len, c1, RX, VOp.fresh, bxC, bsC, un, most, callsOf, seval, Int.reducePow, ↓reduceIte, Nat.reduceEqDiff, reduceCtorEq]
      refine hQ _ _ O fr (KB.refl _ _) D go hO hw ?_ ?_ fun t ht => ?_
      · simp only [t7, sg_set, Nat.reduceEqDiff, ↓reduceIte]
      · simp only [t9, sg_set, Nat.reduceEqDiff, ↓reduceIte]
      · rw [← tS t ht]
        simp only [List.mem_cons, List.not_mem_nil, or_false] at ht
        rcases ht with rfl | rfl | rfl | rfl | rfl <;> simp only [sg_set, Nat.reduceEqDiff, ↓reduceIte]
  | succ n ih =>
    intro i O sy fr s h k Q hn D hs go hO hw hlt hN t0 t7 t9 t12 tS hQ
    refine g.lpe b5_0.eq_1 ?_
    have c1 : (i : Int) < (l0.length : Int) := by omega
    have c2 : (i : Int) < 30 := by omega
    have w1 : IntKind.i64.wrap ((i : Int) + 1) = ((i + 1 : Nat) : Int) := by rw [w64 (by omega) (by omega)]; push_cast; rfl
    obtain ⟨r1, _, g1⟩ := getI hw0 i (by omega)
    generalize l0.getD i 0 = x at *
    obtain ⟨K, hK, hKb⟩ : ∃ K : Nat, K < 16 ∧ bitsOf .and .i64 x 15 = (K : Int) := lowN x 4 (by decide)
    obtain ⟨Y0, hsh⟩ : ∃ Y0, bin .shr (.int .i64 x) (.int .u64 4) = some (.int .i64 Y0) := ⟨_, rfl⟩
    obtain ⟨Y, hY⟩ : ∃ Y, bitsOf .and .i64 Y0 255 = Y := ⟨_, rfl⟩
    obtain ⟨e3, v3, gl⟩ := go
    have hiaK := fun kk hh => ia_arr (b := ob) (show K < 16 from hK) kk hh
    have hst := set_int gl (j := K) (by omega) Y
    have hLl : (O.set K Y).length = 16 := by rw [List.length_set]; exact hO
    have hg1 : (h.put ob (.cells (cI (O.set K Y)) e3 (v3 + 1))).get ob = some (.cells (cI (O.set K Y)) e3 (v3 + 1)) := by rw [Heap.get_put, if_pos rfl]
    have hp := cI_part (O.set K Y) (k := K) (by omega)
    rw [getD_set _ _ _ (by omega), if_pos rfl] at hp
    have kb1 : KB [db, mb, ob] h (h.put ob (.cells (cI (O.set K Y)) e3 (v3 + 1))) := KB.put (by simp) _
    have D1 : Dk (h.put ob (.cells (cI (O.set K Y)) e3 (v3 + 1))) db sb mb sy fr := D.frame (KB.put (L := [ob]) (by simp) _) (by simp; omega) (by simp; omega) (by simp; omega)
    simp only [t0, t7, t9, t12, hw0.len, c1, c2, g1, hKb, hsh, hY, hiaK, hst, hp, RX, VOp.fresh, bxC, bsC, un, most, callsOf, seval, Int.reducePow, ↓reduceIte, Nat.reduceEqDiff, reduceCtorEq]
    generalize h.put ob (.cells (cI (O.set K Y)) e3 (v3 + 1)) = h1 at *
    refine (sector_pu g Y).cl (Fzs.refl rfl) fun v e => ?_
    subst e
    simp only [RX, VOp.fresh, bxC, bsC, un, most, callsOf, seval, Int.reducePow, ↓reduceIte, Nat.reduceEqDiff, reduceCtorEq]
    refine write_cl g D1 (K : Int) (secC Y) (fun c => absurd ⟨by omega, by omega, secC_len Y⟩ c) fun _ h2 kb2 D2 => ?_
    rw [Int.toNat_natCast] at D2
    have q1 := kb1.1
    have q2 := kb2.1
    have gl2 : h2.get ob = some (.cells (cI (O.set K Y)) e3 (v3 + 1)) := by rw [kb2.2 _ (by omega) (by simp; omega)]; exact hg1
    have kb3 : KB [db, mb, ob] h h2 := kb1.trans ⟨kb2.1, fun b hb hbl => kb2.2 b hb (by simp at hbl ⊢; omega)⟩
    simp only [t12, w1, RX, VOp.fresh, bxC, bsC, un, most, callsOf, seval, Int.reducePow, ↓reduceIte, Nat.reduceEqDiff, reduceCtorEq]
    refine ih (i + 1) (O.set K Y) sy (upd1 fr K (secC Y)) _ h2 k Q (by omega) D2 hs ⟨_, _, gl2⟩ hLl (fun j hj => ?_) (by omega) (by omega) ?_ ?_ ?_ ?_ (fun t ht => ?_) fun s' h' O' fr' x => hQ s' h' O' fr' (kb3.trans x)
    · rw [now_upd, getD_set _ _ _ (by omega)]
      by_cases e : j = K
      · rw [if_pos e, if_pos e]
      · rw [if_neg e, if_neg e]; exact hw j hj
    · simp only [t0, sg_set, Nat.reduceEqDiff, ↓reduceIte]
    · simp only [t7, sg_set, Nat.reduceEqDiff, ↓reduceIte]
    · simp only [t9, sg_set, Nat.reduceEqDiff, ↓reduceIte]
    · simp only [sg_set, Nat.reduceEqDiff, ↓reduceIte]
    · rw [← tS t ht]
      simp only [List.mem_cons, List.not_mem_nil, or_false] at ht
      rcases ht with rfl | rfl | rfl | rfl | rfl <;> simp only [sg_set, Nat.reduceEqDiff, ↓reduceIte]
/-- the second rounds: what is written and not synced -/
theorem cr_loop1 (g : Pg P tab) {w1' : AV} {l1 : List Int} (hw1 : IsL 8 RInt w1' l1) {db sb mb tb wb : Nat} (ho : db < tb ∧ sb < tb ∧ mb < tb ∧ tb < wb) (S0 : T AV) (n : Nat) :
    ∀ (i : Nat) (F : List Int) (W : List Bool) (sy : List Sec) (fr : Frs) (s : T AV) (h : Heap) (k : List Fr) (Q : Ex → T AV → Heap → Prop), min l1.length 30 = i + n → Dk h db sb mb sy fr → sy.length = 16 → (∃ e v, h.get tb = some (.cells (cI F) e v)) → (∃ e v, h.get wb = some (.cells (W.map .bool) e v)) → F.length = 16 → W.length = 16 → (∀ j, j < 16 → now sy fr j = secC (F.getD j 0)) → (∀ j, j < 16 → (lk fr j).isSome = W.getD j false) → wb < h.next →
    sg s 1 = w1' → sg s 7 = .ptr db 0 → sg s 10 = .ptr tb 0 → sg s 11 = .ptr wb 0 → sg s 15 = .int .i64 i → (∀ t, t ∈ [5, 8, 9, 14] → sg s t = sg S0 t) →
    (∀ (s' : T AV) (h' : Heap) (F' : List Int) (W' : List Bool) (fr' : Frs), KB [db, mb, tb, wb] h h' → Dk h' db sb mb sy fr' → (∃ e v, h'.get tb = some (.cells (cI F') e v)) → (∃ e v, h'.get wb = some (.cells (W'.map .bool) e v)) → F'.length = 16 → W'.length = 16 → (∀ j, j < 16 → now sy fr' j = secC (F'.getD j 0)) → (∀ j, j < 16 → (lk fr' j).isSome = W'.getD j false) → sg s' 7 = .ptr db 0 → sg s' 10 = .ptr tb 0 → sg s' 11 = .ptr wb 0 → (∀ t, t ∈ [5, 8, 9, 14] → sg s' t = sg S0 t) → Un P k Q (.exit 2) s' h') → Lp P b5_1 s h (Un P k Q) := by
  induction n with
  | zero =>
    intro i F W sy fr s h k Q hn D hs gt gw hF hW hw hd hlt t1 t7 t10 t11 t15 tS hQ
    refine g.lpe b5_1.eq_1 ?_
    by_cases hl : i < l1.length
    · have c1 : (i : Int) < (l1.length : Int) := by omega
      have c2 : ¬ (i : Int) < 30 := by omega
      simp only [t1, t15, hw1.len, c1, c2, RX, VOp.fresh, bxC, bsC, un, most, callsOf, seval, Int.reducePow, ↓reduceIte, Nat.reduceEqDiff, reduceCtorEq]
      refine hQ _ _ F W fr (KB.refl _ _) D gt gw hF hW hw hd ?_ ?_ ?_ fun t ht => ?_
      · simp only [t7, sg_set, Nat.reduceEqDiff, ↓reduceIte]
      · simp only [t10, sg_set, Nat.reduceEqDiff, ↓reduceIte]
      · simp only [t11, sg_set, Nat.reduceEqDiff, ↓reduceIte]
      · rw [← tS t ht]
        simp only [List.mem_cons, List.not_mem_nil, or_false] at ht
        rcases ht with rfl | rfl | rfl | rfl <;> simp only [sg_set, Nat.reduceEqDiff, ↓reduceIte]
    · have c1 : ¬ (i : Int) < (l1.length : Int) := by omega
      simp only [t1, t15, hw1.len, c1, RX, VOp.fresh, bxC, bsC, un, most, callsOf, seval, Int.reducePow, ↓reduceIte, Nat.reduceEqDiff, reduceCtorEq]
      refine hQ _ _ F W fr (KB.refl _ _) D gt gw hF hW hw hd ?_ ?_ ?_ fun t ht => ?_
      · simp only [t7, sg_set, Nat.reduceEqDiff, ↓reduceIte]
      · simp only [t10, sg_set, Nat.reduceEqDiff, ↓reduceIte]
      · simp only [t11, sg_set, Nat.reduceEqDiff, ↓reduceIte]
      · rw [← tS t ht]
        simp only [List.mem_cons, List.not_mem_nil, or_false] at ht
        rcases ht with rfl | rfl | rfl | rfl <;> simp only [sg_set, Nat.reduceEqDiff, ↓reduceIte]
  | succ n ih =>
    intro i F W sy fr s h k Q hn D hs gt gw hF hW hw hd hlt t1 t7 t10 t11 t15 tS hQ
    refine g.lpe b5_1.eq_1 ?_
    have c1 : (i : Int) < (l1.length : Int) := by omega
    have c2 : (i : Int) < 30 := by omega
    have w1 : IntKind.i64.wrap ((i : Int) + 1) = ((i + 1 : Nat) : Int) := by rw [w64 (by omega) (by omega)]; push_cast; rfl
    obtain ⟨r1, _, g1⟩ := getI hw1 i (by omega)
    generalize l1.getD i 0 = x at *
    obtain ⟨K, hK, hKb⟩ : ∃ K : Nat, K < 16 ∧ bitsOf .and .i64 x 15 = (K : Int) := lowN x 4 (by decide)
    obtain ⟨Y0, hsh⟩ : ∃ Y0, bin .shr (.int .i64 x) (.int .u64 4) = some (.int .i64 Y0) := ⟨_, rfl⟩
    obtain ⟨Y, hY⟩ : ∃ Y, bitsOf .and .i64 Y0 255 = Y := ⟨_, rfl⟩
    obtain ⟨e3, v3, gl⟩ := gt
    obtain ⟨e4, v4, gv⟩ := gw
    have hiaK := fun bb kk hh => ia_arr (b := bb) (show K < 16 from hK) kk hh
    have hst := set_int gl (j := K) (by omega) Y
    have hLl : (F.set K Y).length = 16 := by rw [List.length_set]; exact hF
    have hWl : (W.set K true).length = 16 := by rw [List.length_set]; exact hW
    have hp := cI_part (F.set K Y) (k := K) (by omega)
    rw [getD_set _ _ _ (by omega), if_pos rfl] at hp
    have gv1 : (h.put tb (.cells (cI (F.set K Y)) e3 (v3 + 1))).get wb = some (.cells (W.map .bool) e4 v4) := by rw [Heap.get_put, if_neg (by omega)]; exact gv
    have hst2 := set_bool gv1 (j := K) (by omega) true
    have htw : ¬ tb = wb := by omega
    have hg1 : ((h.put tb (.cells (cI (F.set K Y)) e3 (v3 + 1))).put wb (.cells ((W.set K true).map .bool) e4 (v4 + 1))).get tb = some (.cells (cI (F.set K Y)) e3 (v3 + 1)) := by rw [Heap.get_put, if_neg htw, Heap.get_put, if_pos rfl]
    have hg2 : ((h.put tb (.cells (cI (F.set K Y)) e3 (v3 + 1))).put wb (.cells ((W.set K true).map .bool) e4 (v4 + 1))).get wb = some (.cells ((W.set K true).map .bool) e4 (v4 + 1)) := by rw [Heap.get_put, if_pos rfl]
    have kb1 : KB [tb, wb] h ((h.put tb (.cells (cI (F.set K Y)) e3 (v3 + 1))).put wb (.cells ((W.set K true).map .bool) e4 (v4 + 1))) := (KB.put (by simp) _).trans (KB.put (by simp) _)
    have D1 := D.frame kb1 (by simp; omega) (by simp; omega) (by simp; omega)
    simp only [t1, t7, t10, t11, t15, hw1.len, c1, c2, g1, hKb, hsh, hY, hiaK, hst, hst2, htw, hp, RX, VOp.fresh, bxC, bsC, un, most, callsOf, seval, Int.reducePow, ↓reduceIte, Nat.reduceEqDiff, reduceCtorEq]
    generalize (h.put tb (.cells (cI (F.set K Y)) e3 (v3 + 1))).put wb (.cells ((W.set K true).map .bool) e4 (v4 + 1)) = h1 at *
    refine (sector_pu g Y).cl (Fzs.refl rfl) fun v e => ?_
    subst e
    simp only [RX, VOp.fresh, bxC, bsC, un, most, callsOf, seval, Int.reducePow, ↓reduceIte, Nat.reduceEqDiff, reduceCtorEq]
    refine write_cl g D1 (K : Int) (secC Y) (fun c => absurd ⟨by omega, by omega, secC_len Y⟩ c) fun _ h2 kb2 D2 => ?_
    rw [Int.toNat_natCast] at D2
    have q1 := kb1.1
    have q2 := kb2.1
    have gl2 : h2.get tb = some (.cells (cI (F.set K Y)) e3 (v3 + 1)) := by rw [kb2.2 _ (by omega) (by simp; omega)]; exact hg1
    have gw2 : h2.get wb = some (.cells ((W.set K true).map .bool) e4 (v4 + 1)) := by rw [kb2.2 _ (by omega) (by simp; omega)]; exact hg2
    have kb3 : KB [db, mb, tb, wb] h h2 := ⟨by omega, fun b hb hbl => by simp at hbl; rw [kb2.2 b (by omega) (by simp; omega), kb1.2 b hb (by simp; omega)]⟩
    simp only [t15, w1, RX, VOp.fresh, bxC, bsC, un, most, callsOf, seval, Int.reducePow, ↓reduceIte, Nat.reduceEqDiff, reduceCtorEq]
    refine ih (i + 1) (F.set K Y) (W.set K true) sy (upd1 fr K (secC Y)) _ h2 k Q (by omega) D2 hs ⟨_, _, gl2⟩ ⟨_, _, gw2⟩ hLl hWl (fun j hj => ?_) (fun j hj => ?_) (by omega) ?_ ?_ ?_ ?_ ?_ (fun t ht => ?_) fun s' h' F' W' fr' x => hQ s' h' F' W' fr' (kb3.trans x)
    · rw [now_upd, getD_set _ _ _ (by omega)]
      by_cases e : j = K
      · rw [if_pos e, if_pos e]
      · rw [if_neg e, if_neg e]; exact hw j hj
    · rw [lk_upd1, getD_set _ _ _ (by omega)]
      by_cases e : j = K
      · rw [if_pos e, if_pos e]; rfl
      · rw [if_neg e, if_neg e]; exact hd j hj
    · simp only [t1, sg_set, Nat.reduceEqDiff, ↓reduceIte]
    · simp only [t7, sg_set, Nat.reduceEqDiff, ↓reduceIte]
    · simp only [t10, sg_set, Nat.reduceEqDiff, ↓reduceIte]
    · simp only [t11, sg_set, Nat.reduceEqDiff, ↓reduceIte]
    · simp only [sg_set, Nat.reduceEqDiff, ↓reduceIte]
    · rw [← tS t ht]
      simp only [List.mem_cons, List.not_mem_nil, or_false] at ht
      rcases ht with rfl | rfl | rfl | rfl <;> simp only [sg_set, Nat.reduceEqDiff, ↓reduceIte]
def cS8 (args : List AV) (h : Heap) : AV × Heap := match args with
  | [.int _ c] => (.str (secC c), h)
  | _ => (.undef, h)
theorem cS8_eq {h : Heap} {c : Int} {k : IntKind} : cS8 [.int k c] h = (.str (secC c), h) := rfl
theorem sec_take {x : Sec} {n : Nat} (hn : n ≤ x.length) : sliceS (.str x) none (some (.int .i64 (n : Int))) = some (.str (x.take n)) := by
  have hn := nat_of (k := .i64) (n := n) (y := x.length) hn
  simp [sliceS, bounds, hn]
theorem sec_drop {x : Sec} {n : Nat} (h : n ≤ x.length) : sliceS (.str x) (some (.int .i64 (n : Int))) none = some (.str (x.drop n)) := by
  have hn := nat_of (k := .i64) (n := n) (y := x.length) h
  simp only [sliceS, bounds, Option.isSome_none, Bool.false_eq_true, if_false, hn]
  rw [List.take_of_length_le (by rw [List.length_drop]; omega)]
theorem sec_cat {x y : Sec} (hx : x.length ≤ 64) (hy : y.length ≤ 64) : bin .add (.str x) (.str y) = some (.str (x ++ y)) := by
  simp only [bin, binStr]
  rw [if_pos (by omega)]
/-- the last rounds: every sector as it must be -/
theorem cr_loop2 (g : Pg P tab) {db sb mb ob tb wb cb : Nat} {O F : List Int} {W : List Bool} {keep torn : Int} {by' : Nat} (hby : by' ≤ 64) (hO : O.length = 16) (hF : F.length = 16) (hW : W.length = 16) {sc : List Sec} {h : Heap} (D : Dk h db sb mb sc []) (hs : sc.length = 16)
    (hsc : ∀ j, j < 16 → sc.getD j [] = crv keep torn by' (W.getD j false) (cntT (W.take j)) (secC (F.getD j 0)) (secC (O.getD j 0))) (go : ∃ e v, h.get ob = some (.cells (cI O) e v)) (gt : ∃ e v, h.get tb = some (.cells (cI F) e v)) (gw : ∃ e v, h.get wb = some (.cells (W.map .bool) e v)) (gc : ∃ e v, h.get cb = some (.cells [.int .i64 keep, .int .i64 torn, .int .i64 by'] e v)) (S0 : T AV) (n : Nat) :
    ∀ (i : Nat) (s : T AV) (k : List Fr) (Q : Ex → T AV → Heap → Prop), 16 = i + n → sg s 5 = .ptr cb 0 → sg s 7 = .ptr db 0 → sg s 9 = .ptr ob 0 → sg s 10 = .ptr tb 0 → sg s 11 = .ptr wb 0 → sg s 18 = .int .i64 (cntT (W.take i) : Int) → sg s 19 = .int .i64 i → (∀ t, t ∈ [8, 14, 17] → sg s t = sg S0 t) →
    (∀ s', sg s' 7 = .ptr db 0 → (∀ t, t ∈ [8, 14, 17] → sg s' t = sg S0 t) → Un P k Q (.exit 4) s' h) → Lp P b5_2 s h (Un P k Q) := by
  induction n with
  | zero =>
    intro i s k Q hn t5 t7 t9 t10 t11 t18 t19 tS hQ
    refine g.lpe b5_2.eq_1 ?_
    obtain rfl : i = 16 := by omega
    simp only [t19, RX, VOp.fresh, bxC, bsC, un, most, callsOf, seval, Int.reducePow, ↓reduceIte, Nat.reduceEqDiff, reduceCtorEq]
    refine hQ _ ?_ fun t ht => ?_
    · simp only [t7, sg_set, Nat.reduceEqDiff, ↓reduceIte]
    · rw [← tS t ht]
      simp only [List.mem_cons, List.not_mem_nil, or_false] at ht
      rcases ht with rfl | rfl | rfl <;> simp only [sg_set, Nat.reduceEqDiff, ↓reduceIte]
  | succ n ih =>
    intro i s k Q hn t5 t7 t9 t10 t11 t18 t19 tS hQ
    refine g.lpe b5_2.eq_1 ?_
    have c1 : (i : Int) < 16 := by omega
    have w1 : IntKind.i64.wrap ((i : Int) + 1) = ((i + 1 : Nat) : Int) := by rw [w64 (by omega) (by omega)]; push_cast; rfl
    have hia := fun bb kk hh => ia_arr (b := bb) (show i < 16 by omega) kk hh
    obtain ⟨e1, v1, go⟩ := go
    obtain ⟨e2, v2, gt⟩ := gt
    obtain ⟨e3, v3, gw⟩ := gw
    obtain ⟨e4, v4, gc⟩ := gc
    have hpo := cI_part O (k := i) (by omega)
    have hpt := cI_part F (k := i) (by omega)
    have hpw := cB_part W (k := i) (by omega)
    have hct := cntT_take (l := W) (i := i) (by omega)
    have hcl := cntT_le (W.take i)
    rw [List.length_take] at hcl
    have hsi := hsc i (by omega)
    have rd : rdV sc [] (i : Int) = .tup [.str (sc.getD i []), .int .i64 0] := by
      unfold rdV
      rw [if_pos ⟨by omega, by omega⟩, Int.toNat_natCast, now_nil]
    simp only [t7, t9, t19, c1, hia, go, hpo, RX, VOp.fresh, bxC, bsC, un, most, callsOf, seval, Int.reducePow, ↓reduceIte, Nat.reduceEqDiff, reduceCtorEq]
    refine (sector_pu g _).cl (Fzs.refl rfl) fun v e => ?_
    subst e
    generalize O.getD i 0 = o at *
    generalize F.getD i 0 = f at *
    cases hwi : W.getD i false with
    | false =>
      rw [hwi] at hpw hct hsi
      have hct2 : cntT (W.take (i + 1)) = cntT (W.take i) := hct
      have hsi2 : sc.getD i [] = secC o := hsi
      simp only [t7, t11, t19, hia, gw, hpw, RX, VOp.fresh, bxC, bsC, un, most, callsOf, seval, Int.reducePow, ↓reduceIte, Nat.reduceEqDiff, reduceCtorEq]
      refine read_cl g D (i : Int) ?_
      rw [rd, hsi2]
      simp only [RX, VOp.fresh, bxC, bsC, un, most, callsOf, seval, Int.reducePow, ↓reduceIte, Nat.reduceEqDiff, reduceCtorEq]
      refine (num_pu g _).cl (Fzs.refl rfl) fun v e => ?_
      subst e
      simp only [t19, w1, RX, VOp.fresh, bxC, bsC, un, most, callsOf, seval, Int.reducePow, ↓reduceIte, Nat.reduceEqDiff, reduceCtorEq]
      refine ih (i + 1) _ k Q (by omega) ?_ ?_ ?_ ?_ ?_ ?_ ?_ (fun t ht => ?_) hQ
      · simp only [t5, sg_set, Nat.reduceEqDiff, ↓reduceIte]
      · simp only [t7, sg_set, Nat.reduceEqDiff, ↓reduceIte]
      · simp only [t9, sg_set, Nat.reduceEqDiff, ↓reduceIte]
      · simp only [t10, sg_set, Nat.reduceEqDiff, ↓reduceIte]
      · simp only [t11, sg_set, Nat.reduceEqDiff, ↓reduceIte]
      · rw [hct2]; simp only [t18, sg_set, Nat.reduceEqDiff, ↓reduceIte]
      · simp only [sg_set, Nat.reduceEqDiff, ↓reduceIte]
      · rw [← tS t ht]
        simp only [List.mem_cons, List.not_mem_nil, or_false] at ht
        rcases ht with rfl | rfl | rfl <;> simp only [sg_set, Nat.reduceEqDiff, ↓reduceIte]
    | true =>
      rw [hwi] at hpw hct hsi
      have hct2 : cntT (W.take (i + 1)) = cntT (W.take i) + 1 := hct
      have hsi2 : sc.getD i [] = cval keep torn by' (cntT (W.take i)) (secC f) (secC o) := hsi
      generalize cntT (W.take i) = r at *
      have w2 : IntKind.i64.wrap ((r : Int) + 1) = ((r + 1 : Nat) : Int) := by rw [w64 (by omega) (by omega)]; push_cast; rfl
      unfold cval at hsi2
      by_cases c3 : (r : Int) = torn
      · rw [if_pos c3] at hsi2
        subst c3
        have sec1 : ∀ c h, OK P 11 [.int .i64 c] h (.str (secC c)) h := fun c h => (sector_pu g c).exact rfl
        have hlo := secC_len o
        have hlf := secC_len f
        have k1 := sec_take (x := secC f) (n := by') (by omega)
        have k2 := sec_drop (x := secC o) (n := by') (by omega)
        have k3 := sec_cat (x := (secC f).take by') (y := (secC o).drop by') (by rw [List.length_take]; omega) (by rw [List.length_drop]; omega)
        simp only [t5, t11, t18, t19, hia, gw, gc, hpw, RX, VOp.fresh, bxC, bsC, un, most, callsOf, seval, Int.reducePow, ↓reduceIte, Nat.reduceEqDiff, reduceCtorEq]
        refine EvD.same (fun _ => cS8) rfl ?_
        simp only [t5, t7, t9, t10, t18, t19, hia, go, gt, gc, hpo, hpt, cS8_eq, sec1, k1, k2, k3, w2, RX, VOp.fresh, bxC, bsC, un, most, callsOf, seval, Int.reducePow, ↓reduceIte, Nat.reduceEqDiff, reduceCtorEq]
        refine read_cl g D (i : Int) ?_
        rw [rd, hsi2]
        simp only [RX, VOp.fresh, bxC, bsC, un, most, callsOf, seval, Int.reducePow, ↓reduceIte, Nat.reduceEqDiff, reduceCtorEq]
        refine (num_pu g _).cl (Fzs.refl rfl) fun v e => ?_
        subst e
        simp only [t19, w1, RX, VOp.fresh, bxC, bsC, un, most, callsOf, seval, Int.reducePow, ↓reduceIte, Nat.reduceEqDiff, reduceCtorEq]
        refine ih (i + 1) _ k Q (by omega) ?_ ?_ ?_ ?_ ?_ ?_ ?_ (fun t ht => ?_) hQ
        · simp only [t5, sg_set, Nat.reduceEqDiff, ↓reduceIte]
        · simp only [t7, sg_set, Nat.reduceEqDiff, ↓reduceIte]
        · simp only [t9, sg_set, Nat.reduceEqDiff, ↓reduceIte]
        · simp only [t10, sg_set, Nat.reduceEqDiff, ↓reduceIte]
        · simp only [t11, sg_set, Nat.reduceEqDiff, ↓reduceIte]
        · rw [hct2]; simp only [sg_set, Nat.reduceEqDiff, ↓reduceIte]
        · simp only [sg_set, Nat.reduceEqDiff, ↓reduceIte]
        · rw [← tS t ht]
          simp only [List.mem_cons, List.not_mem_nil, or_false] at ht
          rcases ht with rfl | rfl | rfl <;> simp only [sg_set, Nat.reduceEqDiff, ↓reduceIte]
      · rw [if_neg c3] at hsi2
        have hsh := shr_bin keep r (by omega)
        by_cases c4 : keeps keep r
        · rw [if_pos c4] at hsi2
          have hb := c4.2
          simp only [t5, t10, t11, t18, t19, hia, gw, gt, gc, hpw, hpt, c3, hsh, hb, RX, VOp.fresh, bxC, bsC, un, most, callsOf, seval, Int.reducePow, ↓reduceIte, Nat.reduceEqDiff, reduceCtorEq]
          refine (sector_pu g _).cl (Fzs.refl rfl) fun v e => ?_
          subst e
          simp only [t7, t18, t19, w2, RX, VOp.fresh, bxC, bsC, un, most, callsOf, seval, Int.reducePow, ↓reduceIte, Nat.reduceEqDiff, reduceCtorEq]
          refine read_cl g D (i : Int) ?_
          rw [rd, hsi2]
          simp only [RX, VOp.fresh, bxC, bsC, un, most, callsOf, seval, Int.reducePow, ↓reduceIte, Nat.reduceEqDiff, reduceCtorEq]
          refine (num_pu g _).cl (Fzs.refl rfl) fun v e => ?_
          subst e
          simp only [t19, w1, RX, VOp.fresh, bxC, bsC, un, most, callsOf, seval, Int.reducePow, ↓reduceIte, Nat.reduceEqDiff, reduceCtorEq]
          refine ih (i + 1) _ k Q (by omega) ?_ ?_ ?_ ?_ ?_ ?_ ?_ (fun t ht => ?_) hQ
          · simp only [t5, sg_set, Nat.reduceEqDiff, ↓reduceIte]
          · simp only [t7, sg_set, Nat.reduceEqDiff, ↓reduceIte]
          · simp only [t9, sg_set, Nat.reduceEqDiff, ↓reduceIte]
          · simp only [t10, sg_set, Nat.reduceEqDiff, ↓reduceIte]
          · simp only [t11, sg_set, Nat.reduceEqDiff, ↓reduceIte]
          · rw [hct2]; simp only [sg_set, Nat.reduceEqDiff, ↓reduceIte]
          · simp only [sg_set, Nat.reduceEqDiff, ↓reduceIte]
          · rw [← tS t ht]
            simp only [List.mem_cons, List.not_mem_nil, or_false] at ht
            rcases ht with rfl | rfl | rfl <;> simp only [sg_set, Nat.reduceEqDiff, ↓reduceIte]
        · rw [if_neg c4] at hsi2
          have hb : ¬ bitsOf .and .i64 (keep.fdiv (2 ^ r)) 1 = 1 := fun e => c4 ⟨by omega, e⟩
          simp only [t5, t7, t10, t11, t18, t19, hia, gw, gt, gc, hpw, hpt, c3, hsh, hb, w2, RX, VOp.fresh, bxC, bsC, un, most, callsOf, seval, Int.reducePow, ↓reduceIte, Nat.reduceEqDiff, reduceCtorEq]
          refine read_cl g D (i : Int) ?_
          rw [rd, hsi2]
          simp only [RX, VOp.fresh, bxC, bsC, un, most, callsOf, seval, Int.reducePow, ↓reduceIte, Nat.reduceEqDiff, reduceCtorEq]
          refine (num_pu g _).cl (Fzs.refl rfl) fun v e => ?_
          subst e
          simp only [t19, w1, RX, VOp.fresh, bxC, bsC, un, most, callsOf, seval, Int.reducePow, ↓reduceIte, Nat.reduceEqDiff, reduceCtorEq]
          refine ih (i + 1) _ k Q (by omega) ?_ ?_ ?_ ?_ ?_ ?_ ?_ (fun t ht => ?_) hQ
          · simp only [t5, sg_set, Nat.reduceEqDiff, ↓reduceIte]
          · simp only [t7, sg_set, Nat.reduceEqDiff, ↓reduceIte]
          · simp only [t9, sg_set, Nat.reduceEqDiff, ↓reduceIte]
          · simp only [t10, sg_set, Nat.reduceEqDiff, ↓reduceIte]
          · simp only [t11, sg_set, Nat.reduceEqDiff, ↓reduceIte]
          · rw [hct2]; simp only [sg_set, Nat.reduceEqDiff, ↓reduceIte]
          · simp only [sg_set, Nat.reduceEqDiff, ↓reduceIte]
          · rw [← tS t ht]
            simp only [List.mem_cons, List.not_mem_nil, or_false] at ht
            rcases ht with rfl | rfl | rfl <;> simp only [sg_set, Nat.reduceEqDiff, ↓reduceIte]
theorem rep_getD {α : Type} (x d : α) {n j : Nat} (h : j < n) : (List.replicate n x).getD j d = x := by
  rw [List.getD_eq_getElem?_getD, List.getElem?_replicate, if_pos h]; rfl
theorem diskCrashes_pu (g : Pg P tab) (K : SrtK P 27 26 34 3) {w0 w1' : AV} {l0 l1 : List Int} (hw0 : IsL 8 RInt w0 l0) (hw1 : IsL 8 RInt w1' l1) (keep torn bytes : Int) : Pu P 5 [w0, w1', .agg [.int .i64 keep, .int .i64 torn, .int .i64 bytes]] (fun v => v = .bool true) := by
  refine g.pu (vf := v5) rfl rfl ?_
  simp only [v5, RX, VOp.fresh, bxC, bsC, un, most, callsOf, seval, Int.reducePow, ↓reduceIte, Nat.reduceEqDiff, reduceCtorEq]
  have gc0 : ((⟨0, .e⟩ : Heap).mk' 0 (.cells [.int .i64 keep, .int .i64 torn, .int .i64 bytes] 34 0)).get 0 = some (.cells [.int .i64 keep, .int .i64 torn, .int .i64 bytes] 34 0) := by rw [Heap.get_mk, if_pos rfl]
  have n0 : ((⟨0, .e⟩ : Heap).mk' 0 (.cells [.int .i64 keep, .int .i64 torn, .int .i64 bytes] 34 0)).next = 1 := rfl
  generalize (⟨0, .e⟩ : Heap).mk' 0 (.cells [.int .i64 keep, .int .i64 torn, .int .i64 bytes] 34 0) = h0 at *
  refine (awake8_pu g K).cl (Fzs.refl rfl) fun v e => ?_
  subst e
  simp only [RX, VOp.fresh, bxC, bsC, un, most, callsOf, seval, Int.reducePow, ↓reduceIte, Nat.reduceEqDiff, reduceCtorEq]
  refine new_cl g 16 (fun c => absurd (by omega) c) fun _ h1 db sb mb x1 f1 D => ?_
  obtain ⟨zs, hzs⟩ : ∃ zs, zs = cI (List.replicate 16 0) := ⟨_, rfl⟩
  obtain ⟨zb, hzb⟩ : ∃ zb, zb = (List.replicate 16 false).map AV.bool := ⟨_, rfl⟩
  have hzsL : zs = [.int .i64 0, .int .i64 0, .int .i64 0, .int .i64 0, .int .i64 0, .int .i64 0, .int .i64 0, .int .i64 0, .int .i64 0, .int .i64 0, .int .i64 0, .int .i64 0, .int .i64 0, .int .i64 0, .int .i64 0, .int .i64 0] := hzs
  have hzbL : zb = [.bool false, .bool false, .bool false, .bool false, .bool false, .bool false, .bool false, .bool false, .bool false, .bool false, .bool false, .bool false, .bool false, .bool false, .bool false, .bool false] := hzb
  simp only [RX, VOp.fresh, bxC, bsC, un, most, callsOf, seval, Int.reducePow, ↓reduceIte, Nat.reduceEqDiff, reduceCtorEq]
  rw [← hzsL, ← hzbL]
  obtain ⟨H, hH⟩ : ∃ H, H = ((h1.mk' h1.next (.cells zs 51 0)).mk' (h1.next + 1) (.cells zs 51 0)).mk' (h1.next + 2) (.cells zb 52 0) := ⟨_, rfl⟩
  have nH : H.next = h1.next + 3 := by rw [hH, mk_next, mk_next, mk_next]; omega
  have go : H.get h1.next = some (.cells zs 51 0) := by rw [hH, Heap.get_mk, if_neg (by omega), Heap.get_mk, if_neg (by omega), Heap.get_mk, if_pos rfl]
  have gt : H.get (h1.next + 1) = some (.cells zs 51 0) := by rw [hH, Heap.get_mk, if_neg (by omega), Heap.get_mk, if_pos rfl]
  have gw : H.get (h1.next + 2) = some (.cells zb 52 0) := by rw [hH, Heap.get_mk, if_pos rfl]
  have xH : Ext h1 H := ⟨by omega, fun b hb => by rw [hH, Heap.get_mk, if_neg (by omega), Heap.get_mk, if_neg (by omega), Heap.get_mk, if_neg (by omega)]⟩
  rw [← hH]
  clear hH
  subst hzs hzb
  clear hzsL hzbL
  have dl := D.lt
  have y1 := x1.1
  have s16 : (List.replicate (Int.toNat 16) zSec).length = 16 := rfl
  have hz0 : ∀ j, j < 16 → now (List.replicate (Int.toNat 16) zSec) [] j = secC ((List.replicate 16 (0 : Int)).getD j 0) := fun j hj => by
    rw [now_nil]
    rw [rep_getD _ _ (show j < Int.toNat 16 from hj), rep_getD _ _ hj]; rfl
  generalize List.replicate (Int.toNat 16) zSec = sy0 at *
  have D0 := D.frame (xH.kb (L := [])) (by simp) (by simp) (by simp)
  have gcH : H.get 0 = some (.cells [.int .i64 keep, .int .i64 torn, .int .i64 bytes] 34 0) := by rw [xH.2 _ (by omega), x1.2 _ (by omega)]; exact gc0
  generalize hst : (T.set _ _ _) = st
  have u0 : sg st 0 = w0 := by rw [← hst]; simp only [sg_set, Nat.reduceEqDiff, ↓reduceIte]
  have u1 : sg st 1 = w1' := by rw [← hst]; simp only [sg_set, Nat.reduceEqDiff, ↓reduceIte]
  have u5 : sg st 5 = .ptr 0 0 := by rw [← hst]; simp only [sg_set, Nat.reduceEqDiff, ↓reduceIte]
  have u7 : sg st 7 = .ptr db 0 := by rw [← hst]; simp only [sg_set, Nat.reduceEqDiff, ↓reduceIte]
  have u8 : sg st 8 = .int .i64 0 := by rw [← hst]; simp only [sg_set, Nat.reduceEqDiff, ↓reduceIte]
  have u9 : sg st 9 = .ptr h1.next 0 := by rw [← hst]; simp only [sg_set, Nat.reduceEqDiff, ↓reduceIte]
  have u10 : sg st 10 = .ptr (h1.next + 1) 0 := by rw [← hst]; simp only [sg_set, Nat.reduceEqDiff, ↓reduceIte]
  have u11 : sg st 11 = .ptr (h1.next + 2) 0 := by rw [← hst]; simp only [sg_set, Nat.reduceEqDiff, ↓reduceIte]
  have u12 : sg st 12 = .int .i64 (0 : Nat) := by rw [← hst]; simp only [sg_set, Nat.reduceEqDiff, ↓reduceIte]; rfl
  clear hst
  refine cr_loop0 g hw0 (db := db) (sb := sb) (mb := mb) (ob := h1.next) (N := 0) (by omega) st (min l0.length 30) 0 (List.replicate 16 0) sy0 [] st H _ _ (by omega) D0 s16 ⟨_, _, go⟩ (by simp) hz0 (by omega) (by omega) u0 u7 u9 u12 (fun _ _ => rfl) fun s2 h2 O fr2 kb2 D2 go2 hO hw2 t7 t9 tS => ?_
  have t1 := tS 1 (by decide)
  have t5 := tS 5 (by decide)
  have t8 := tS 8 (by decide)
  have t10 := tS 10 (by decide)
  have t11 := tS 11 (by decide)
  rw [u1] at t1
  rw [u5] at t5
  rw [u8] at t8
  rw [u10] at t10
  rw [u11] at t11
  clear u0 u1 u5 u7 u8 u9 u10 u11 u12 tS
  obtain ⟨eo, vo, go2⟩ := go2
  have gt2 : h2.get (h1.next + 1) = some (.cells (cI (List.replicate 16 0)) 51 0) := by rw [kb2.2 _ (by omega) (by simp; omega)]; exact gt
  have gw2 : h2.get (h1.next + 2) = some (.cells ((List.replicate 16 false).map .bool) 52 0) := by rw [kb2.2 _ (by omega) (by simp; omega)]; exact gw
  have gc2 : h2.get 0 = some (.cells [.int .i64 keep, .int .i64 torn, .int .i64 bytes] 34 0) := by rw [kb2.2 _ (by omega) (by simp; omega)]; exact gcH
  simp only [t7, RX, VOp.fresh, bxC, bsC, un, most, callsOf, seval, Int.reducePow, ↓reduceIte, Nat.reduceEqDiff, reduceCtorEq]
  refine sync_cl g D2 fun h3 kb3 D3 => ?_
  have q2 := kb2.1
  have q3 := kb3.1
  have go3 : h3.get h1.next = some (.cells (cI O) eo vo) := by rw [kb3.2 _ (by omega) (by simp; omega)]; exact go2
  have gt3 : h3.get (h1.next + 1) = some (.cells (cI (List.replicate 16 0)) 51 0) := by rw [kb3.2 _ (by omega) (by simp; omega)]; exact gt2
  have gw3 : h3.get (h1.next + 2) = some (.cells ((List.replicate 16 false).map .bool) 52 0) := by rw [kb3.2 _ (by omega) (by simp; omega)]; exact gw2
  have gc3 : h3.get 0 = some (.cells [.int .i64 keep, .int .i64 torn, .int .i64 bytes] 34 0) := by rw [kb3.2 _ (by omega) (by simp; omega)]; exact gc2
  have hs3 : (allNow sy0 fr2).length = 16 := by rw [allNow_len]; exact s16
  have hw3 : ∀ j, j < 16 → (allNow sy0 fr2).getD j [] = secC (O.getD j 0) := fun j hj => by rw [allNow_get _ _ (by omega)]; exact hw2 j hj
  generalize allNow sy0 fr2 = sy3 at *
  have pall : part true (cI O) 0 16 = some (.agg (cI O)) := by
    have : (cI O).length = 16 := by simp [hO]
    have h2 : (cI O).take 16 = cI O := List.take_of_length_le (by omega)
    simp [part, cut, this, h2]
  have wall : writeAt h3 (h1.next + 1) 0 (cI O) = some (h3.put (h1.next + 1) (.cells (cI O) 51 1)) := by
    rw [writeAt_go, gt3, wrB_some, if_pos ⟨by simp [hO], by simp [cI, AV.one]⟩]
    simp [hO]
  have hcil : (cI O).length = 16 := by simp [hO]
  simp only [t9, t10, go3, pall, wall, hcil, RX, VOp.fresh, bxC, bsC, un, most, callsOf, seval, Int.reducePow, ↓reduceIte, Nat.reduceEqDiff, reduceCtorEq]
  have kb4 : KB [h1.next + 1] h3 (h3.put (h1.next + 1) (.cells (cI O) 51 1)) := KB.put (by simp) _
  have gt4 : (h3.put (h1.next + 1) (.cells (cI O) 51 1)).get (h1.next + 1) = some (.cells (cI O) 51 1) := by rw [Heap.get_put, if_pos rfl]
  generalize h3.put (h1.next + 1) (.cells (cI O) 51 1) = h4 at *
  have q4 := kb4.1
  have D4 := D3.frame kb4 (by simp; omega) (by simp; omega) (by simp; omega)
  have go4 : h4.get h1.next = some (.cells (cI O) eo vo) := by rw [kb4.2 _ (by omega) (by simp)]; exact go3
  have gw4 : h4.get (h1.next + 2) = some (.cells ((List.replicate 16 false).map .bool) 52 0) := by rw [kb4.2 _ (by omega) (by simp)]; exact gw3
  have gc4 : h4.get 0 = some (.cells [.int .i64 keep, .int .i64 torn, .int .i64 bytes] 34 0) := by rw [kb4.2 _ (by omega) (by simp)]; exact gc3
  generalize hst : (T.set _ _ _) = st2
  have u1 : sg st2 1 = w1' := by rw [← hst]; simp only [t1, sg_set, Nat.reduceEqDiff, ↓reduceIte]
  have u5 : sg st2 5 = .ptr 0 0 := by rw [← hst]; simp only [t5, sg_set, Nat.reduceEqDiff, ↓reduceIte]
  have u7 : sg st2 7 = .ptr db 0 := by rw [← hst]; simp only [t7, sg_set, Nat.reduceEqDiff, ↓reduceIte]
  have u8 : sg st2 8 = .int .i64 0 := by rw [← hst]; simp only [t8, sg_set, Nat.reduceEqDiff, ↓reduceIte]
  have u9 : sg st2 9 = .ptr h1.next 0 := by rw [← hst]; simp only [t9, sg_set, Nat.reduceEqDiff, ↓reduceIte]
  have u10 : sg st2 10 = .ptr (h1.next + 1) 0 := by rw [← hst]; simp only [t10, sg_set, Nat.reduceEqDiff, ↓reduceIte]
  have u11 : sg st2 11 = .ptr (h1.next + 2) 0 := by rw [← hst]; simp only [t11, sg_set, Nat.reduceEqDiff, ↓reduceIte]
  have u14 : sg st2 14 = .int .i64 0 := by rw [← hst]; simp only [sg_set, Nat.reduceEqDiff, ↓reduceIte]
  have u15 : sg st2 15 = .int .i64 (0 : Nat) := by rw [← hst]; simp only [sg_set, Nat.reduceEqDiff, ↓reduceIte]; rfl
  clear hst
  refine cr_loop1 g hw1 (db := db) (sb := sb) (mb := mb) (tb := h1.next + 1) (wb := h1.next + 2) (by omega) st2 (min l1.length 30) 0 O (List.replicate 16 false) sy3 [] st2 h4 _ _ (by omega) D4 hs3 ⟨_, _, gt4⟩ ⟨_, _, gw4⟩ hO (by simp) (fun j hj => by rw [now_nil]; exact hw3 j hj) (fun j hj => by rw [rep_getD _ _ hj]; rfl) (by omega) u1 u7 u10 u11 u15 (fun _ _ => rfl) fun s5 h5 F W fr5 kb5 D5 gt5 gw5 hF hW hw5 hd5 v7 v10 v11 vS => ?_
  have v5 := vS 5 (by decide)
  have v8 := vS 8 (by decide)
  have v9 := vS 9 (by decide)
  have v14 := vS 14 (by decide)
  rw [u5] at v5
  rw [u8] at v8
  rw [u9] at v9
  rw [u14] at v14
  clear u1 u5 u7 u8 u9 u10 u11 u14 u15 vS
  have q5 := kb5.1
  have go5 : h5.get h1.next = some (.cells (cI O) eo vo) := by rw [kb5.2 _ (by omega) (by simp; omega)]; exact go4
  have gc5 : h5.get 0 = some (.cells [.int .i64 keep, .int .i64 torn, .int .i64 bytes] 34 0) := by rw [kb5.2 _ (by omega) (by simp; omega)]; exact gc4
  obtain ⟨et, vt, gt5⟩ := gt5
  obtain ⟨ew, vw, gw5⟩ := gw5
  simp only [v5, v7, gc5, RX, VOp.fresh, bxC, bsC, un, most, callsOf, seval, Int.reducePow, ↓reduceIte, Nat.reduceEqDiff, reduceCtorEq]
  refine crash_cl g K D5 keep torn bytes (fun hb h6 x6 => ?_) fun hb h6 kb6 D6 => ?_
  · have gc6 : h6.get 0 = some (.cells [.int .i64 keep, .int .i64 torn, .int .i64 bytes] 34 0) := by rw [x6.2 _ (by omega)]; exact gc5
    by_cases b1 : bytes < 0
    · simp only [v5, gc6, b1, RX, VOp.fresh, bxC, bsC, un, most, callsOf, seval, Int.reducePow, ↓reduceIte, Nat.reduceEqDiff, reduceCtorEq]
      refine (num_pu g _).cl (Fzs.refl rfl) fun v e => ?_
      subst e
      simp only [RX, VOp.fresh, bxC, bsC, un, most, callsOf, seval, Int.reducePow, ↓reduceIte, Nat.reduceEqDiff, reduceCtorEq]
    · have b2 : 64 < bytes := by omega
      simp only [v5, gc6, b1, b2, RX, VOp.fresh, bxC, bsC, un, most, callsOf, seval, Int.reducePow, ↓reduceIte, Nat.reduceEqDiff, reduceCtorEq]
      refine (num_pu g _).cl (Fzs.refl rfl) fun v e => ?_
      subst e
      simp only [RX, VOp.fresh, bxC, bsC, un, most, callsOf, seval, Int.reducePow, ↓reduceIte, Nat.reduceEqDiff, reduceCtorEq]
  · have b1 : ¬ bytes < 0 := by omega
    have b2 : ¬ 64 < bytes := by omega
    obtain ⟨by', rfl⟩ := Int.eq_ofNat_of_zero_le hb.1
    rw [Int.toNat_natCast] at D6
    have q6 := kb6.1
    have gc6 : h6.get 0 = some (.cells [.int .i64 keep, .int .i64 torn, .int .i64 by'] 34 0) := by rw [kb6.2 _ (by omega) (by simp; omega)]; exact gc5
    have go6 : h6.get h1.next = some (.cells (cI O) eo vo) := by rw [kb6.2 _ (by omega) (by simp; omega)]; exact go5
    have gt6 : h6.get (h1.next + 1) = some (.cells (cI F) et vt) := by rw [kb6.2 _ (by omega) (by simp; omega)]; exact gt5
    have gw6 : h6.get (h1.next + 2) = some (.cells (W.map .bool) ew vw) := by rw [kb6.2 _ (by omega) (by simp; omega)]; exact gw5
    have hsc : ∀ j, j < 16 → (crashed sy3 fr5 keep torn by').getD j [] = crv keep torn by' (W.getD j false) (cntT (W.take j)) (secC (F.getD j 0)) (secC (O.getD j 0)) := fun j hj => by
      rw [crashed_get (by omega), hd5 j hj, hw5 j hj, hw3 j hj, rank_cnt (di := W) (fun i hi => hd5 i (by omega)) (by omega)]
    have hsl : (crashed sy3 fr5 keep torn by').length = 16 := by rw [crashed_len]; exact hs3
    generalize crashed sy3 fr5 keep torn by' = sc at *
    simp only [v5, gc6, b1, b2, RX, VOp.fresh, bxC, bsC, un, most, callsOf, seval, Int.reducePow, ↓reduceIte, Nat.reduceEqDiff, reduceCtorEq]
    generalize hst : (T.set _ _ _) = st3
    have u5 : sg st3 5 = .ptr 0 0 := by rw [← hst]; simp only [v5, sg_set, Nat.reduceEqDiff, ↓reduceIte]
    have u7 : sg st3 7 = .ptr db 0 := by rw [← hst]; simp only [v7, sg_set, Nat.reduceEqDiff, ↓reduceIte]
    have u8 : sg st3 8 = .int .i64 0 := by rw [← hst]; simp only [v8, sg_set, Nat.reduceEqDiff, ↓reduceIte]
    have u9 : sg st3 9 = .ptr h1.next 0 := by rw [← hst]; simp only [v9, sg_set, Nat.reduceEqDiff, ↓reduceIte]
    have u10 : sg st3 10 = .ptr (h1.next + 1) 0 := by rw [← hst]; simp only [v10, sg_set, Nat.reduceEqDiff, ↓reduceIte]
    have u11 : sg st3 11 = .ptr (h1.next + 2) 0 := by rw [← hst]; simp only [v11, sg_set, Nat.reduceEqDiff, ↓reduceIte]
    have u14 : sg st3 14 = .int .i64 0 := by rw [← hst]; simp only [v14, sg_set, Nat.reduceEqDiff, ↓reduceIte]
    have u17 : sg st3 17 = .int .i64 0 := by rw [← hst]; simp only [sg_set, Nat.reduceEqDiff, ↓reduceIte]
    have u18 : sg st3 18 = .int .i64 (cntT (W.take 0) : Int) := by rw [← hst]; simp only [sg_set, Nat.reduceEqDiff, ↓reduceIte]; rfl
    have u19 : sg st3 19 = .int .i64 (0 : Nat) := by rw [← hst]; simp only [sg_set, Nat.reduceEqDiff, ↓reduceIte]; rfl
    clear hst
    refine cr_loop2 g (cb := 0) (ob := h1.next) (tb := h1.next + 1) (wb := h1.next + 2) (by omega) hO hF hW D6 hsl hsc ⟨_, _, go6⟩ ⟨_, _, gt6⟩ ⟨_, _, gw6⟩ ⟨_, _, gc6⟩ st3 16 0 st3 _ _ (by omega) u5 u7 u9 u10 u11 u18 u19 (fun _ _ => rfl) fun s7 z7 zS => ?_
    have z8 := zS 8 (by decide)
    have z14 := zS 14 (by decide)
    have z17 := zS 17 (by decide)
    rw [u8] at z8
    rw [u14] at z14
    rw [u17] at z17
    simp only [z8, RX, VOp.fresh, bxC, bsC, un, most, callsOf, seval, Int.reducePow, ↓reduceIte, Nat.reduceEqDiff, reduceCtorEq]
    refine (num_pu g _).cl (Fzs.refl rfl) fun v e => ?_
    subst e
    simp only [z14, RX, VOp.fresh, bxC, bsC, un, most, callsOf, seval, Int.reducePow, ↓reduceIte, Nat.reduceEqDiff, reduceCtorEq]
    refine (num_pu g _).cl (Fzs.refl rfl) fun v e => ?_
    subst e
    simp only [z17, RX, VOp.fresh, bxC, bsC, un, most, callsOf, seval, Int.reducePow, ↓reduceIte, Nat.reduceEqDiff, reduceCtorEq]
    refine (num_pu g _).cl (Fzs.refl rfl) fun v e => ?_
    subst e
    simp only [z7, RX, VOp.fresh, bxC, bsC, un, most, callsOf, seval, Int.reducePow, ↓reduceIte, Nat.reduceEqDiff, reduceCtorEq]
    refine dirty_cl g D6 ?_
    simp only [RX, VOp.fresh, bxC, bsC, un, most, callsOf, seval, Int.reducePow, ↓reduceIte, Nat.reduceEqDiff, reduceCtorEq]
end
end Go.Proofs.Ytlemediphmnffaa.VM
