/- Part of a proof: what stands for the program, and its walk. No condition. -/
import Derived.Below
import Derived.ChangeArms
import Derived.ChangeMaps5
import Derived.Deep.DeepAppendWide
import Derived.Laws.Cells
import Derived.Laws.IdiomCopy
import Derived.MapKept
import Derived.OrdersIn
import Derived.RangeFuncLeaves
import Derived.RangeFuncRecord
import Derived.Shelf.GgSortFunc.RowK
import Derived.Shelf.SlSortCmp.NoneTotal
import Derived.Shelf.SlSortCmp.WholeK
import Derived.Shelf.SortM.Plain
import Derived.Shelf.SortM.SortNone
import Derived.Shelf.Spec.SlicesInsertGrow
import Derived.SizedLaws
import Derived.WalkKit
import Derived.WalkLawsBesides
import GoSem.Claim
import Derived.Test.YtpfpngmfooagiaaGreatMNd
set_option linter.unusedSimpArgs false
set_option linter.unusedVariables false
set_option linter.defProp false
set_option maxHeartbeats 1000000
namespace Go.Proofs.YtpfpngmfooagiaaGreat.VM
attribute [local irreducible] Af Nx EvO Ev Un Gd Cd EvR EvQ EvC Nc Gc Lp EvM NxM AfM GdM EvMR EvMQ EvMD EvMC Nm Gm
section
variable {P : Program}
theorem clonePts_cl (g : Pg P tab) {r : List Pt} {w : AV} (hw : IsL 16 RPt w r) {h : Heap} {Q : AV → Heap → Prop}
    (q : ∀ v t h', Lv h' (h.next ≤ ·) v t → IsL 16 RPt t r → v.cells = some [v] → v.one = true → Ext h h' → Q v h') : Cl P 79 [w] h Q := by
  refine g.cl (vf := v79) rfl rfl ?_
  have hx := hw
  obtain ⟨hb, ⟨rfl, hl⟩ | ⟨c, rfl, hc⟩⟩ := hw
  · have e : eqv .sl .nils .nils = some true := rfl
    simp only [v79, HE, e, RX, VOp.fresh, bxC, bsC, un, most, callsOf, seval, Int.reducePow, ↓reduceIte, Nat.reduceEqDiff, reduceCtorEq]
    exact q .nils .nils _ .nils ⟨hb, .inl ⟨rfl, hl⟩⟩ rfl rfl (Ext.refl h)
  · have e : eqv .sl (.rs c r.length) .nils = some false := rfl
    have x1 := Ext.mk (h := h) (.cells [] 27 0)
    have n1 : (h.mk' h.next (.cells [] 27 0)).next = h.next + 1 := by rw [mk_next]; omega
    obtain ⟨v, h', t, a1, a2, a3, a4, a5, a6, a7⟩ := app_copy (bytes := 16) plainPt hx (h := h.mk' h.next (.cells [] 27 0)) (b := h.next) (by rw [Heap.get_mk, if_pos rfl]) 27
    rw [n1] at a2 a3 a4
    simp only [v79, HE, e, a1, RX, VOp.fresh, bxC, bsC, un, most, callsOf, seval, Int.reducePow, ↓reduceIte, Nat.reduceEqDiff, reduceCtorEq]
    exact q v t h' (a4.weak fun c hc _ => by omega) a5 a6 a7 ⟨by omega, fun b hb => (a3 b (by omega) (by omega)).trans (x1.2 b hb)⟩
theorem fcopy_loop (g : Pg P tab) {rs : List (List Pt)} {w : AV} (hw : IsL 24 RRing w rs) {R : Nat} (n : Nat) :
    ∀ (i : Nat) (A U : List AV) (s : T AV) (h : Heap) (k : List Fr) (Q : Ex → T AV → Heap → Prop), i + n = rs.length → R < h.next → (∃ e ver, h.get R = some (.cells (A ++ List.replicate n .nils) e ver)) → A.length = i → A.all AV.one = true → Lvs h (R < ·) A U → Cat RRing (rs.take i) U →
    sg s 3 = .sl R 0 rs.length rs.length 1 → sg s 11 = w → sg s 12 = .int .i64 rs.length → sg s 13 = .int .i64 i →
    (∀ s' h' A' U', (∃ e ver, h'.get R = some (.cells A' e ver)) → A'.length = rs.length → A'.all AV.one = true → Lvs h' (R < ·) A' U' → Cat RRing rs U' → (∀ b, b < h.next → b ≠ R → h'.get b = h.get b) → h.next ≤ h'.next → (∀ j, j < 4 → sg s' j = sg s j) → Un P k Q (.exit 0) s' h') → Lp P b47_0 s h (Un P k Q) := by
  have hbd := hw.bound (by decide)
  induction n with
  | zero =>
    intro i A U s h k Q hi hR ⟨e, ver, hg⟩ hA ho lv hc t3 t11 t12 t13 hQ
    refine g.lpe b47_0.eq_1 ?_
    have c1 : ¬ ((i : Int) < (rs.length : Int)) := by omega
    simp only [t3, t11, t12, t13, c1, RX, VOp.fresh, bxC, bsC, un, most, callsOf, seval, Int.reducePow, ↓reduceIte, Nat.reduceEqDiff, reduceCtorEq]
    have hi' : i = rs.length := by omega
    subst hi'
    rw [List.take_length] at hc
    rw [List.replicate_zero, List.append_nil] at hg
    exact hQ _ _ A U ⟨e, ver, hg⟩ hA ho lv hc (fun _ _ _ => rfl) (Nat.le_refl _) fun j hj => by simp only [sg_set]; repeat rw [if_neg (by omega)]
  | succ n ih =>
    intro i A U s h k Q hi hR ⟨e, ver, hg⟩ hA ho lv hc t3 t11 t12 t13 hQ
    refine g.lpe b47_0.eq_1 ?_
    have c1 : ((i : Int) < (rs.length : Int)) := by omega
    have w1 : IntKind.i64.wrap ((i : Int) + 1) = ((i + 1 : Nat) : Int) := by rw [w64 (by omega) (by omega)]; push_cast; rfl
    obtain ⟨ci, rr, ⟨va, rfl, hr⟩, hat⟩ := hw.at (fun a c ⟨v, e, _⟩ => by rw [e]; rfl) i (by omega)
    simp only [t3, t11, t12, t13, c1, hat, RX, VOp.fresh, bxC, bsC, un, most, callsOf, seval, Int.reducePow, ↓reduceIte, Nat.reduceEqDiff, reduceCtorEq]
    refine clonePts_cl g hr fun v t h1 lv1 is1 cl1 on1 x1 => ?_
    have hg1 := (x1.2 R hR).trans hg
    have hia : ∀ (hh : Heap) (q : IntKind), iaV hh 1 none (.sl R 0 rs.length rs.length 1) (.int q (i : Int)) = .val (.ptr R i) hh := fun hh q => by
      have : 0 ≤ (i : Int) ∧ (i : Int) < (rs.length : Int) ∧ 1 = 1 := ⟨by omega, by omega, rfl⟩
      simp only [iaV, this, and_self, if_true, Int.toNat_natCast, Nat.zero_add, Nat.mul_one]
    have hwr := wr_at hg1 (show i < (A ++ List.replicate (n + 1) AV.nils).length by rw [List.length_append, hA, List.length_replicate]; omega) on1
    have hset : (A ++ List.replicate (n + 1) AV.nils).set i v = (A ++ [v]) ++ List.replicate n AV.nils := by
      rw [List.set_append, if_neg (by omega), hA, Nat.sub_self, List.replicate_succ, List.set_cons_zero, List.append_assoc]; rfl
    rw [hset] at hwr
    have kp : ∀ c, c ≠ R → (h1.put R (.cells ((A ++ [v]) ++ List.replicate n AV.nils) e (ver + 1))).get c = h1.get c := fun c hc => by rw [Heap.get_put, if_neg hc]
    simp only [t3, t11, t12, t13, hia, hwr, cl1, w1, RW, RX, VOp.fresh, bxC, bsC, un, most, callsOf, seval, Int.reducePow, ↓reduceIte, Nat.reduceEqDiff, reduceCtorEq]
    refine ih (i + 1) (A ++ [v]) (U ++ [t]) _ _ k Q (by omega) (by rw [put_next]; exact Nat.lt_of_lt_of_le hR x1.1) ⟨e, ver + 1, by rw [Heap.get_put, if_pos rfl]⟩ (by rw [List.length_append, hA]; rfl) (by rw [List.all_append, ho]; simp [on1]) ?_ (hc.take (by omega) ⟨t, rfl, is1⟩) ?_ ?_ ?_ ?_ fun s' h' A' U' q1 q2 q3 q4 q5 q6 q7 q8 => ?_
    · have l1 : Lvs h1 (R < ·) (A ++ [v]) (U ++ [t]) := (lv.frame x1.1 fun b _ hb => x1.2 b hb).app (.cons (lv1.weak fun b hb _ => by omega) .nil)
      exact l1.frame (by rw [put_next]; exact Nat.le_refl _) fun b hb _ => kp b (by omega)
    · simp only [t3, sg_set, Nat.reduceEqDiff, ↓reduceIte]
    · simp only [t11, sg_set, Nat.reduceEqDiff, ↓reduceIte]
    · simp only [t12, sg_set, Nat.reduceEqDiff, ↓reduceIte]
    · simp only [sg_set, Nat.reduceEqDiff, ↓reduceIte]
    · refine hQ s' h' A' U' q1 q2 q3 q4 q5 (fun b hb hne => ?_) (by rw [put_next] at q7; exact Nat.le_trans x1.1 q7) fun j hj => ?_
      · rw [q6 b (by rw [put_next]; exact Nat.lt_of_lt_of_le hb x1.1) hne, kp b hne]; exact x1.2 b hb
      · rw [q8 j hj]; simp only [sg_set]; repeat rw [if_neg (by omega)]
theorem fcopy_cl (g : Pg P tab) {f : Feat} {c : List AV} (hf : RFeat f c) {h : Heap} {Q : AV → Heap → Prop}
    (q : ∀ c' t h', Lvs h' (h.next ≤ ·) c' t → RFeat f t → c'.length = 3 → c'.all AV.one = true → Ext h h' → Q (.agg c') h') : Cl P 47 [.agg c] h Q := by
  obtain ⟨w, rfl, h1, h2, hw⟩ := hf
  refine g.cl (vf := v47) rfl rfl ?_
  have hbd := hw.bound (by decide)
  have mS : ∀ (H : Heap) (nm : Nat), mkS H nm [.nils] 87 24 (.int .i64 (f.rings.length : Int)) (.int .i64 (f.rings.length : Int)) = .val (.sl nm 0 f.rings.length f.rings.length 1) (H.mk' nm (.cells (List.replicate f.rings.length .nils) 87 0)) := fun H nm => by
    have := hw.1
    rw [reach_eq] at this
    rw [mkS_ok (by omega) (by rw [Int.toNat_natCast]; omega) (by rw [Int.toNat_natCast]; omega), Int.toNat_natCast]
    have : (List.replicate f.rings.length [AV.nils]).flatten = List.replicate f.rings.length AV.nils := by simp
    rw [this]; rfl
  have ow := isL_one hw
  simp only [v47, HN, hw.len, mS, RW, RX, VOp.fresh, bxC, bsC, un, most, callsOf, seval, Int.reducePow, ↓reduceIte, Nat.reduceEqDiff, reduceCtorEq]
  have g0 : ∀ (X : Blk), (((h.mk' h.next (.cells [.int .i64 f.id, .int .i64 f.shape, w] 49 0)).mk' (h.next + 1) (.cells [.int .i64 0, .int .i64 0, .nils] 49 0)).mk' (h.next + 2) X).get h.next = some (.cells [.int .i64 f.id, .int .i64 f.shape, w] 49 0) := fun X => by
    rw [Heap.get_mk, if_neg (by omega), Heap.get_mk, if_neg (by omega), Heap.get_mk, if_pos rfl]
  have g1 : ∀ (X : Blk), (((h.mk' h.next (.cells [.int .i64 f.id, .int .i64 f.shape, w] 49 0)).mk' (h.next + 1) (.cells [.int .i64 0, .int .i64 0, .nils] 49 0)).mk' (h.next + 2) X).get (h.next + 1) = some (.cells [.int .i64 0, .int .i64 0, .nils] 49 0) := fun X => by
    rw [Heap.get_mk, if_neg (by omega), Heap.get_mk, if_pos rfl]
  have g2 : ∀ (X : Blk), (((h.mk' h.next (.cells [.int .i64 f.id, .int .i64 f.shape, w] 49 0)).mk' (h.next + 1) (.cells [.int .i64 0, .int .i64 0, .nils] 49 0)).mk' (h.next + 2) X).get (h.next + 2) = some X := fun X => by
    rw [Heap.get_mk, if_pos rfl]
  have n0 : ∀ (X : Blk), (((h.mk' h.next (.cells [.int .i64 f.id, .int .i64 f.shape, w] 49 0)).mk' (h.next + 1) (.cells [.int .i64 0, .int .i64 0, .nils] 49 0)).mk' (h.next + 2) X).next = h.next + 3 := fun X => by rw [mk_next, mk_next, mk_next]; omega
  have x0 : ∀ (X : Blk), Ext h (((h.mk' h.next (.cells [.int .i64 f.id, .int .i64 f.shape, w] 49 0)).mk' (h.next + 1) (.cells [.int .i64 0, .int .i64 0, .nils] 49 0)).mk' (h.next + 2) X) := fun X => ((Ext.refl h).mkn (Nat.le_refl _) _ |>.mkn (by omega) _).mkn (by omega) _
  have g0' := g0 (.cells (List.replicate f.rings.length .nils) 87 0)
  have g1' := g1 (.cells (List.replicate f.rings.length .nils) 87 0)
  have g2' := g2 (.cells (List.replicate f.rings.length .nils) 87 0)
  have n0' := n0 (.cells (List.replicate f.rings.length .nils) 87 0)
  have x0' := x0 (.cells (List.replicate f.rings.length .nils) 87 0)
  generalize ((h.mk' h.next (.cells [.int .i64 f.id, .int .i64 f.shape, w] 49 0)).mk' (h.next + 1) (.cells [.int .i64 0, .int .i64 0, .nils] 49 0)).mk' (h.next + 2) (.cells (List.replicate f.rings.length .nils) 87 0) = H at *
  clear g0 g1 g2 n0 x0
  refine fcopy_loop g hw (R := h.next + 2) f.rings.length 0 [] [] _ H _ _ (by omega) (by omega) ⟨87, 0, g2'⟩ rfl rfl .nil .nil ?_ ?_ ?_ ?_ fun s' h' A U ⟨e, ver, hA⟩ hl ho lv hc kp hn ks => ?_
  · simp only [sg_set, Nat.reduceEqDiff, ↓reduceIte]
  · simp only [sg_set, Nat.reduceEqDiff, ↓reduceIte]
  · simp only [sg_set, Nat.reduceEqDiff, ↓reduceIte]
  · simp only [sg_set, Nat.reduceEqDiff, ↓reduceIte]
    rfl
  have t1 : sg s' 1 = .ptr h.next 0 := (ks 1 (by decide)).trans (by simp only [sg_set, Nat.reduceEqDiff, ↓reduceIte])
  have t2 : sg s' 2 = .ptr (h.next + 1) 0 := (ks 2 (by decide)).trans (by simp only [sg_set, Nat.reduceEqDiff, ↓reduceIte])
  have t3 : sg s' 3 = .sl (h.next + 2) 0 f.rings.length f.rings.length 1 := (ks 3 (by decide)).trans (by simp only [sg_set, Nat.reduceEqDiff, ↓reduceIte])
  have gb := (kp h.next (by omega) (by omega)).trans g0'
  have gc := (kp (h.next + 1) (by omega) (by omega)).trans g1'
  simp only [t1, t2, t3, gb, gc, HN, RW, RX, VOp.fresh, bxC, bsC, un, most, callsOf, seval, Int.reducePow, ↓reduceIte, Nat.reduceEqDiff, reduceCtorEq]
  obtain ⟨tv, lr, ir⟩ : ∃ tv, Lv h' (h.next + 2 ≤ ·) (.sl (h.next + 2) 0 f.rings.length f.rings.length 1) tv ∧ IsL 24 RRing tv f.rings := by
    by_cases z : f.rings.length = 0
    · have z' : f.rings = [] := List.eq_nil_of_length_eq_zero z
      rw [z]
      exact ⟨.rs [] 0, ⟨[], .sl0, rfl, Own.nil, fun b hb => by simp at hb⟩, hw.1, .inr ⟨[], by rw [z], by rw [z']; exact .nil⟩⟩
    · refine ⟨.rs U f.rings.length, ?_, hw.1, .inr ⟨U, rfl, hc⟩⟩
      have := LR.lv (h := h') (B := (h.next + 2 ≤ ·)) (v := .sl (h.next + 2) 0 f.rings.length f.rings.length 1) (sz := 1) (t := U) (n := f.rings.length) ⟨A, .inr ⟨_, e, ver, rfl, by omega, by omega, by rw [hl, Nat.mul_one], hA⟩, lv.weak fun b hb _ => ⟨by omega, by simp [blkOf]; omega⟩, fun b hb => by simp [blkOf] at hb; omega⟩
      rwa [cRow_s _ (by omega)] at this
  refine q [.int .i64 f.id, .int .i64 f.shape, .sl (h.next + 2) 0 f.rings.length f.rings.length 1] [.int .i64 f.id, .int .i64 f.shape, tv] _ (((Lvs.cons .int (.cons .int (.cons lr .nil))).put (by omega) _ |>.put (by omega) _).weak fun c hc _ => by omega) ⟨tv, rfl, h1, h2, ir⟩ rfl rfl ⟨by simp only [put_next]; omega, fun b hb => ?_⟩
  rw [Heap.get_put, if_neg (by omega), Heap.get_put, if_neg (by omega), kp b (by omega) (by omega)]
  exact x0'.2 b hb
end
end Go.Proofs.YtpfpngmfooagiaaGreat.VM
namespace Go.Proofs.YtpfpngmfooagiaaGreat.VM
attribute [local irreducible] Af Nx EvO Ev Un Gd Cd EvR EvQ EvC Nc Gc Lp EvM NxM AfM GdM EvMR EvMQ EvMD EvMC Nm Gm
def bxOk (a b c d : Int) : Prop := 0 ≤ a ∧ a ≤ 4294967295 ∧ 0 ≤ b ∧ b ≤ 4294967295 ∧ 0 ≤ c ∧ c ≤ 4294967295 ∧ 0 ≤ d ∧ d ≤ 4294967295 ∧ a ≤ c ∧ b ≤ d
instance (a b c d : Int) : Decidable (bxOk a b c d) := by unfold bxOk; infer_instance
section
variable {P : Program}
theorem coord6_pu (g : Pg P tab) (a : Int) : Pu P 83 [.int .i64 a] (fun v => v = .bool (decide (0 ≤ a ∧ a ≤ 4294967295))) := by
  refine g.pu (vf := v83) rfl rfl ?_
  simp +contextual (maxSteps := 2000000) (disch := omega) only [v83, RX, VOp.fresh, bxC, bsC, un, most, callsOf, seval, Int.reducePow, ↓reduceIte, Nat.reduceEqDiff, reduceCtorEq]
theorem boxMay_pu (g : Pg P tab) (a b c d : Int) : Pu P 52 [.agg [.int .i64 a, .int .i64 b, .int .i64 c, .int .i64 d]] (fun v => v = .bool (decide (bxOk a b c d))) := by
  refine g.pu (vf := v52) rfl rfl ?_
  simp only [v52, RX, VOp.fresh, bxC, bsC, un, most, callsOf, seval, Int.reducePow, ↓reduceIte, Nat.reduceEqDiff, reduceCtorEq]
  refine (coord6_pu g _).go rfl ?_
  rintro v rfl
  by_cases h1 : 0 ≤ a ∧ a ≤ 4294967295
  · simp only [h1, RX, VOp.fresh, bxC, bsC, un, most, callsOf, seval, Int.reducePow, ↓reduceIte, Nat.reduceEqDiff, reduceCtorEq]
    refine (coord6_pu g _).go rfl ?_
    rintro v rfl
    by_cases h2 : 0 ≤ b ∧ b ≤ 4294967295
    · simp only [h2, RX, VOp.fresh, bxC, bsC, un, most, callsOf, seval, Int.reducePow, ↓reduceIte, Nat.reduceEqDiff, reduceCtorEq]
      refine (coord6_pu g _).go rfl ?_
      rintro v rfl
      by_cases h3 : 0 ≤ c ∧ c ≤ 4294967295
      · simp only [h3, RX, VOp.fresh, bxC, bsC, un, most, callsOf, seval, Int.reducePow, ↓reduceIte, Nat.reduceEqDiff, reduceCtorEq]
        refine (coord6_pu g _).go rfl ?_
        rintro v rfl
        by_cases h4 : 0 ≤ d ∧ d ≤ 4294967295
        · simp +contextual (maxSteps := 2000000) only [h4, bxOk, h1, h2, h3, RX, VOp.fresh, bxC, bsC, un, most, callsOf, seval, Int.reducePow, ↓reduceIte, Nat.reduceEqDiff, reduceCtorEq]
        · have f : ¬ bxOk a b c d := fun z => by unfold bxOk at z; omega
          simp only [h4, f, RX, VOp.fresh, bxC, bsC, un, most, callsOf, seval, Int.reducePow, ↓reduceIte, Nat.reduceEqDiff, reduceCtorEq]
      · have f : ¬ bxOk a b c d := fun z => by unfold bxOk at z; omega
        simp only [h3, f, RX, VOp.fresh, bxC, bsC, un, most, callsOf, seval, Int.reducePow, ↓reduceIte, Nat.reduceEqDiff, reduceCtorEq]
    · have f : ¬ bxOk a b c d := fun z => by unfold bxOk at z; omega
      simp only [h2, f, RX, VOp.fresh, bxC, bsC, un, most, callsOf, seval, Int.reducePow, ↓reduceIte, Nat.reduceEqDiff, reduceCtorEq]
  · have f : ¬ bxOk a b c d := fun z => by unfold bxOk at z; omega
    simp only [h1, f, RX, VOp.fresh, bxC, bsC, un, most, callsOf, seval, Int.reducePow, ↓reduceIte, Nat.reduceEqDiff, reduceCtorEq]
end
end Go.Proofs.YtpfpngmfooagiaaGreat.VM
namespace Go.Proofs.YtpfpngmfooagiaaGreat.VM
attribute [local irreducible] Af Nx EvO Ev Un Gd Cd EvR EvQ EvC Nc Gc Lp EvM NxM AfM GdM EvMR EvMQ EvMD EvMC Nm Gm
section
variable {P : Program}
def aPt (p : Pt) : AV := .agg [.int .i64 p.x, .int .i64 p.y]
/-- what lay there lies there still -/
theorem pt_loop (g : Pg P tab) {ring : List Pt} {rv : AV} (hv : IsL 16 RPt rv ring) {yb : Nat} {J : List Pt → Heap → Prop} {Jx : Heap → Prop} (hJ : ∀ {pre h h'}, J pre h → Ext h h' → J pre h') (pre : List Pt)
    (hY : ∀ i h, i < ring.length → J (pre ++ ring.take i) h → Cl P (yf yb) [aPt (ring.getD i ⟨0, 0⟩)] h fun w h' => (w = .bool true ∧ J (pre ++ ring.take (i + 1)) h') ∨ (w = .bool false ∧ Jx h')) {v10 : AV} {i12 : Int} {n11 : Int} (n : Nat) :
    ∀ (j : Nat) (s : T AV) (h : Heap) (k : List Fr) (Q : Ex → T AV → Heap → Prop), j + n = ring.length → sg s 0 = .yld yb → sg s 16 = rv → sg s 17 = .int .i64 ring.length → sg s 18 = .int .i64 j → sg s 10 = v10 → sg s 11 = .int .i64 n11 → sg s 12 = .int .i64 i12 →
    J (pre ++ ring.take j) h →
    (∀ s' h', sg s' 0 = .yld yb → sg s' 10 = v10 → sg s' 11 = .int .i64 n11 → sg s' 12 = .int .i64 i12 → J (pre ++ ring) h' → Un P k Q (.exit 2) s' h') → (∀ s' h', Jx h' → Un P k Q .ret s' h') → Lp P b131_0 s h (Un P k Q) := by
  have hbd := hv.bound (by decide)
  induction n with
  | zero =>
    intro j s h k Q hn t0 t16 t17 t18 t10 t11 t12 hj hK hR
    refine g.lpe b131_0.eq_1 ?_
    have c1 : ¬ ((j : Int) < (ring.length : Int)) := by omega
    simp only [t17, t18, c1, RX, VOp.fresh, bxC, bsC, un, most, callsOf, seval, Int.reducePow, ↓reduceIte, Nat.reduceEqDiff, reduceCtorEq]
    rw [List.take_of_length_le (by omega)] at hj
    refine hK _ _ ?_ ?_ ?_ ?_ hj
    · simp only [t0, sg_set, Nat.reduceEqDiff, ↓reduceIte]
    · simp only [t10, sg_set, Nat.reduceEqDiff, ↓reduceIte]
    · simp only [t11, sg_set, Nat.reduceEqDiff, ↓reduceIte]
    · simp only [t12, sg_set, Nat.reduceEqDiff, ↓reduceIte]
  | succ n ih =>
    intro j s h k Q hn t0 t16 t17 t18 t10 t11 t12 hj hK hR
    refine g.lpe b131_0.eq_1 ?_
    have c1 : (j : Int) < (ring.length : Int) := by omega
    have w1 : IntKind.i64.wrap ((j : Int) + 1) = ((j + 1 : Nat) : Int) := by rw [w64 (by omega) (by omega)]; push_cast; rfl
    obtain ⟨r1, _, g1⟩ := getPt hv j (by omega)
    simp only [t0, t16, t17, t18, c1, g1, RW, RX, VOp.fresh, bxC, bsC, un, most, callsOf, seval, Int.reducePow, ↓reduceIte, Nat.reduceEqDiff, reduceCtorEq]
    have x1 : Ext h ((h.mk' h.next (.cells [.int .i64 0, .int .i64 0] 27 0)).put h.next (.cells [.int .i64 (ring.getD j ⟨0, 0⟩).x, .int .i64 (ring.getD j ⟨0, 0⟩).y] 27 1)) := ⟨by rw [put_next, mk_next]; omega, fun b hb => by rw [Heap.get_put, if_neg (by omega), Heap.get_mk, if_neg (by omega)]⟩
    refine (hY j _ (by omega) (hJ hj x1)).mono ?_
    rintro w h2 (⟨rfl, hj2⟩ | ⟨rfl, hx⟩)
    · simp only [t18, w1, RX, VOp.fresh, bxC, bsC, un, most, callsOf, seval, Int.reducePow, ↓reduceIte, Nat.reduceEqDiff, reduceCtorEq]
      refine ih (j + 1) _ _ k Q (by omega) ?_ ?_ ?_ ?_ ?_ ?_ ?_ hj2 hK hR
      · simp only [t0, sg_set, Nat.reduceEqDiff, ↓reduceIte]
      · simp only [t16, sg_set, Nat.reduceEqDiff, ↓reduceIte]
      · simp only [t17, sg_set, Nat.reduceEqDiff, ↓reduceIte]
      · simp only [sg_set, Nat.reduceEqDiff, ↓reduceIte]
      · simp only [t10, sg_set, Nat.reduceEqDiff, ↓reduceIte]
      · simp only [t11, sg_set, Nat.reduceEqDiff, ↓reduceIte]
      · simp only [t12, sg_set, Nat.reduceEqDiff, ↓reduceIte]
    · simp only [RX, VOp.fresh, bxC, bsC, un, most, callsOf, seval, Int.reducePow, ↓reduceIte, Nat.reduceEqDiff, reduceCtorEq]
      exact hR _ _ hx
theorem pts_loop (g : Pg P tab) {rs : List (List Pt)} {v : AV} (hv : IsL 24 RRing v rs) {yb : Nat} {J : List Pt → Heap → Prop} {Jx : Heap → Prop} (hJ : ∀ {pre h h'}, J pre h → Ext h h' → J pre h')
    (hY : ∀ pre p h, pre ++ [p] <+: rs.flatten → J pre h → Cl P (yf yb) [aPt p] h fun w h' => (w = .bool true ∧ J (pre ++ [p]) h') ∨ (w = .bool false ∧ Jx h')) (n : Nat) :
    ∀ (i : Nat) (s : T AV) (h : Heap) (k : List Fr) (Q : Ex → T AV → Heap → Prop), i + n = rs.length → sg s 0 = .yld yb → sg s 10 = v → sg s 11 = .int .i64 rs.length → sg s 12 = .int .i64 i →
    J (rs.take i).flatten h → (∀ s' h', J rs.flatten h' → Un P k Q (.exit 0) s' h') → (∀ s' h', Jx h' → Un P k Q .ret s' h') → Lp P b131_1 s h (Un P k Q) := by
  have hbd := hv.bound (by decide)
  induction n with
  | zero =>
    intro i s h k Q hn t0 t10 t11 t12 hj hK hR
    refine g.lpe b131_1.eq_1 ?_
    have c1 : ¬ ((i : Int) < (rs.length : Int)) := by omega
    simp only [t11, t12, c1, RX, VOp.fresh, bxC, bsC, un, most, callsOf, seval, Int.reducePow, ↓reduceIte, Nat.reduceEqDiff, reduceCtorEq]
    rw [List.take_of_length_le (by omega)] at hj
    exact hK _ _ hj
  | succ n ih =>
    intro i s h k Q hn t0 t10 t11 t12 hj hK hR
    refine g.lpe b131_1.eq_1 ?_
    have c1 : (i : Int) < (rs.length : Int) := by omega
    have w1 : IntKind.i64.wrap ((i : Int) + 1) = ((i + 1 : Nat) : Int) := by rw [w64 (by omega) (by omega)]; push_cast; rfl
    obtain ⟨rv, r1, hrv, _, g1⟩ := getRing hv i (by omega)
    have hi : i < rs.length := by omega
    have e1 : rs.getD i [] = rs[i] := getD_ring hi
    have ef : (rs.take (i + 1)).flatten = (rs.take i).flatten ++ rs.getD i [] := by
      rw [List.take_succ_eq_append_getElem hi, List.flatten_append, e1]; simp
    have eg : rs.flatten = (rs.take (i + 1)).flatten ++ (rs.drop (i + 1)).flatten := by
      rw [← List.flatten_append, List.take_append_drop]
    simp only [t0, t10, t11, t12, c1, g1, hrv.len, RX, VOp.fresh, bxC, bsC, un, most, callsOf, seval, Int.reducePow, ↓reduceIte, Nat.reduceEqDiff, reduceCtorEq]
    refine pt_loop g hrv (yb := yb) (J := J) (Jx := Jx) hJ (rs.take i).flatten (v10 := v) (i12 := i) (n11 := rs.length) (fun j h hjl hj => ?_) (rs.getD i []).length 0 _ _ _ _ (by omega) ?_ ?_ ?_ ?_ ?_ ?_ ?_ (by simpa using hj) (fun s' h' u0 u10 u11 u12 hj' => ?_) (fun s' h' hx => ?_)
    · have et : (rs.getD i []).take (j + 1) = (rs.getD i []).take j ++ [(rs.getD i []).getD j ⟨0, 0⟩] := by
        rw [List.take_succ_eq_append_getElem hjl, getP hjl]
      rw [et, ← List.append_assoc]
      refine hY _ _ h ?_ hj
      rw [List.append_assoc, ← et, eg, ef]
      exact ⟨(rs.getD i []).drop (j + 1) ++ (rs.drop (i + 1)).flatten, by rw [List.append_assoc, ← List.append_assoc ((rs.getD i []).take (j + 1)), List.take_append_drop, List.append_assoc]⟩
    · simp only [t0, sg_set, Nat.reduceEqDiff, ↓reduceIte]
    · simp only [sg_set, Nat.reduceEqDiff, ↓reduceIte]
    · simp only [sg_set, Nat.reduceEqDiff, ↓reduceIte]
    · simp only [sg_set, Nat.reduceEqDiff, ↓reduceIte]
      rfl
    · simp only [t10, sg_set, Nat.reduceEqDiff, ↓reduceIte]
    · simp only [t11, sg_set, Nat.reduceEqDiff, ↓reduceIte]
    · simp only [t12, sg_set, Nat.reduceEqDiff, ↓reduceIte]
    · simp only [u12, w1, RX, VOp.fresh, bxC, bsC, un, most, callsOf, seval, Int.reducePow, ↓reduceIte, Nat.reduceEqDiff, reduceCtorEq]
      refine ih (i + 1) _ _ k Q (by omega) ?_ ?_ ?_ ?_ (by rw [ef]; exact hj') hK hR
      · simp only [u0, sg_set, Nat.reduceEqDiff, ↓reduceIte]
      · simp only [u10, sg_set, Nat.reduceEqDiff, ↓reduceIte]
      · simp only [u11, sg_set, Nat.reduceEqDiff, ↓reduceIte]
      · simp only [sg_set, Nat.reduceEqDiff, ↓reduceIte]
    · simp only [RX, VOp.fresh, bxC, bsC, un, most, callsOf, seval, Int.reducePow, ↓reduceIte, Nat.reduceEqDiff, reduceCtorEq]
      exact hR _ _ hx
/-- the iterator over all points -/
theorem pts_cl (g : Pg P tab) {rs : List (List Pt)} {v a0 a1 : AV} (hv : IsL 24 RRing v rs) {yb bb fb e1 e2 n1 n2 : Nat} {J : List Pt → Heap → Prop} {Jx : Heap → Prop} (hJ : ∀ {pre h h'}, J pre h → Ext h h' → J pre h')
    (hY : ∀ pre p h, pre ++ [p] <+: rs.flatten → J pre h → Cl P (yf yb) [aPt p] h fun w h' => (w = .bool true ∧ J (pre ++ [p]) h') ∨ (w = .bool false ∧ Jx h'))
    {h : Heap} (g1 : h.get bb = some (.cells [.ptr fb 0] e1 n1)) (g2 : h.get fb = some (.cells [a0, a1, v] e2 n2)) (hj : J [] h) :
    Cl P 131 [.yld yb, .ptr bb 0] h fun _ h' => J rs.flatten h' ∨ Jx h' := by
  refine g.cl (vf := v131) rfl rfl ?_
  simp only [v131, g1, g2, hv.len, RX, VOp.fresh, bxC, bsC, un, most, callsOf, seval, Int.reducePow, ↓reduceIte, Nat.reduceEqDiff, reduceCtorEq]
  refine pts_loop g hv (J := J) (Jx := Jx) hJ hY rs.length 0 _ _ _ _ (by omega) ?_ ?_ ?_ ?_ (by simpa using hj) (fun s' h' hj' => ?_) (fun s' h' hx => ?_)
  · simp only [sg_set, Nat.reduceEqDiff, ↓reduceIte]
  · simp only [sg_set, Nat.reduceEqDiff, ↓reduceIte]
  · simp only [sg_set, Nat.reduceEqDiff, ↓reduceIte]
  · simp only [sg_set, Nat.reduceEqDiff, ↓reduceIte]
    rfl
  · simp only [v131, RX, VOp.fresh, bxC, bsC, un, most, callsOf, seval, Int.reducePow, ↓reduceIte, Nat.reduceEqDiff, reduceCtorEq]
    exact .inl hj'
  · simp only [v131, RX, VOp.fresh, bxC, bsC, un, most, callsOf, seval, Int.reducePow, ↓reduceIte, Nat.reduceEqDiff, reduceCtorEq]
    exact .inr hx
theorem pts_mk (g : Pg P tab) {fb : Nat} {h : Heap} : Cl P 84 [.ptr fb 0] h fun w h' => w = .fn 131 [.ptr h.next 0] ∧ h' = h.mk' h.next (.cells [.ptr fb 0] 150 0) := by
  refine g.cl (vf := v84) rfl rfl ?_
  simp only [v84, RX, VOp.fresh, bxC, bsC, un, most, callsOf, seval, Int.reducePow, ↓reduceIte, Nat.reduceEqDiff, reduceCtorEq]
end
end Go.Proofs.YtpfpngmfooagiaaGreat.VM
namespace Go.Proofs.YtpfpngmfooagiaaGreat.VM
attribute [local irreducible] Af Nx EvO Ev Un Gd Cd EvR EvQ EvC Nc Gc Lp EvM NxM AfM GdM EvMR EvMQ EvMD EvMC Nm Gm
def aBx (b : Bx) : AV := .agg [.int .i64 b.x0, .int .i64 b.y0, .int .i64 b.x1, .int .i64 b.y1]
def imn (x y : Int) : Int := if y < x then y else x
def imx (x y : Int) : Int := if y > x then y else x
def bxPt (p : Pt) : Bx := ⟨p.x, p.y, p.x, p.y⟩
def bxJ (a b : Bx) : Bx := ⟨imn a.x0 b.x0, imn a.y0 b.y0, imx a.x1 b.x1, imx a.y1 b.y1⟩
def bxAll (l : List Pt) (b : Bx) : Bx := l.foldl (fun b p => bxJ b (bxPt p)) b
def fPts (f : Feat) : List Pt := f.rings.flatten
def fBox (f : Feat) : Bx := bxAll (fPts f) (bxPt ((f.rings.getD 0 []).getD 0 ⟨0, 0⟩))
def bOk (b : Bx) : Prop := bxOk b.x0 b.y0 b.x1 b.y1
instance (b : Bx) : Decidable (bOk b) := by unfold bOk; infer_instance
theorem imn_le (x y : Int) : imn x y ≤ x ∧ imn x y ≤ y ∧ (imn x y = x ∨ imn x y = y) := by unfold imn; split <;> omega
theorem imx_le (x y : Int) : x ≤ imx x y ∧ y ≤ imx x y ∧ (imx x y = x ∨ imx x y = y) := by unfold imx; split <;> omega
theorem bxJ_ok {a b : Bx} (h : bOk a) (k : bOk b) : bOk (bxJ a b) := by
  unfold bOk bxOk at *
  have h1 := imn_le a.x0 b.x0
  have h2 := imn_le a.y0 b.y0
  have h3 := imx_le a.x1 b.x1
  have h4 := imx_le a.y1 b.y1
  simp only [bxJ]
  omega
theorem bxPt_ok {p : Pt} (h : ptOk p) : bOk (bxPt p) := by
  unfold bOk bxOk bxPt
  unfold ptOk coordOk at h
  simp only
  omega
theorem featOk.first {f : Feat} (h : featOk f) : 0 < f.rings.length ∧ 0 < (f.rings.getD 0 []).length := by
  obtain ⟨_, _, h1, _, h2⟩ := h
  refine ⟨by omega, ?_⟩
  rcases h2 with ⟨_, _, h3, _⟩ | ⟨_, _, h3⟩ | ⟨_, h3⟩
  · omega
  · have := h3.1; omega
  · have := (h3 0 (by omega)).1; omega
theorem featOk.pts {f : Feat} (h : featOk f) : ∀ p ∈ fPts f, ptOk p := by
  intro p hp
  obtain ⟨_, _, h1, _, h2⟩ := h
  obtain ⟨r, hr, hp⟩ := List.mem_flatten.1 hp
  obtain ⟨i, hi, rfl⟩ := List.getElem_of_mem hr
  obtain ⟨j, hj, rfl⟩ := List.getElem_of_mem hp
  have e : f.rings.getD i [] = f.rings[i] := getD_ring hi
  rcases h2 with ⟨_, h3, h4, h5⟩ | ⟨_, h3, h4⟩ | ⟨_, h3⟩
  · obtain rfl : i = 0 := by omega
    rw [e] at h4 h5
    obtain rfl : j = 0 := by omega
    rwa [getP hj] at h5
  · obtain rfl : i = 0 := by omega
    rw [e] at h4
    have := (h4.2.2 j hj).1
    rwa [getP hj] at this
  · have h4 := h3 i hi
    rw [e] at h4
    have := (h4.2.2 j hj).1
    rwa [getP hj] at this
theorem fmin {k : IntKind} {x y : Int} : foldO min2 (.int k x) [.int k y] = some (.int k (imn x y)) := rfl
theorem fmax {k : IntKind} {x y : Int} : foldO max2 (.int k x) [.int k y] = some (.int k (imx x y)) := rfl
section
variable {P : Program}
theorem between_pu (g : Pg P tab) (p q : Pt) : Pu P 147 [aPt p, aPt q] (fun v => v = aBx ⟨imn p.x q.x, imn p.y q.y, imx p.x q.x, imx p.y q.y⟩) := by
  refine g.pu (vf := v147) rfl rfl ?_
  simp only [v147, aPt, aBx, fmin, fmax, RW, RX, VOp.fresh, bxC, bsC, un, most, callsOf, seval, Int.reducePow, ↓reduceIte, Nat.reduceEqDiff, reduceCtorEq]
  exact ⟨_, .agg (scals_fz rfl), rfl⟩
theorem join_pu (g : Pg P tab) (a b : Bx) : Pu P 148 [aBx a, aBx b] (fun v => v = if bOk a ∧ bOk b then .tup [aBx (bxJ a b), .int .i64 0] else .tup [aBx ⟨0, 0, 0, 0⟩, .int .i64 300]) := by
  refine g.pu (vf := v148) rfl rfl ?_
  simp only [v148, aBx, RW, RX, VOp.fresh, bxC, bsC, un, most, callsOf, seval, Int.reducePow, ↓reduceIte, Nat.reduceEqDiff, reduceCtorEq]
  refine (boxMay_pu g a.x0 a.y0 a.x1 a.y1).go rfl ?_
  rintro _ rfl
  by_cases ha : bOk a
  · have ha' : decide (bxOk a.x0 a.y0 a.x1 a.y1) = true := decide_eq_true ha
    rw [ha']
    simp only [RX, VOp.fresh, bxC, bsC, un, most, callsOf, seval, Int.reducePow, ↓reduceIte, Nat.reduceEqDiff, reduceCtorEq]
    refine (boxMay_pu g b.x0 b.y0 b.x1 b.y1).go rfl ?_
    rintro _ rfl
    by_cases hb : bOk b
    · have hb' : decide (bxOk b.x0 b.y0 b.x1 b.y1) = true := decide_eq_true hb
      rw [hb']
      simp only [fmin, fmax, bxJ, ha, hb, RW, RX, VOp.fresh, bxC, bsC, un, most, callsOf, seval, Int.reducePow, ↓reduceIte, Nat.reduceEqDiff, reduceCtorEq]
      exact ⟨_, .tup (.cons (.agg (scals_fz rfl)) (.cons (.int _ _) .nil)), rfl⟩
    · have hb' : decide (bxOk b.x0 b.y0 b.x1 b.y1) = false := decide_eq_false hb
      rw [hb']
      simp only [ha, hb, RW, RX, VOp.fresh, bxC, bsC, un, most, callsOf, seval, Int.reducePow, ↓reduceIte, Nat.reduceEqDiff, reduceCtorEq]
      exact ⟨_, .tup (.cons (.agg (scals_fz rfl)) (.cons (.int _ _) .nil)), rfl⟩
  · have ha' : decide (bxOk a.x0 a.y0 a.x1 a.y1) = false := decide_eq_false ha
    rw [ha']
    simp only [ha, RW, RX, VOp.fresh, bxC, bsC, un, most, callsOf, seval, Int.reducePow, ↓reduceIte, Nat.reduceEqDiff, reduceCtorEq]
    exact ⟨_, .tup (.cons (.agg (scals_fz rfl)) (.cons (.int _ _) .nil)), rfl⟩
theorem bxAll_ok : ∀ {l : List Pt} {b : Bx}, (∀ p ∈ l, ptOk p) → bOk b → bOk (bxAll l b)
  | [], _, _, h => h
  | p :: l, b, hl, h => bxAll_ok (l := l) (fun q hq => hl q (.tail _ hq)) (bxJ_ok h (bxPt_ok (hl p (.head _))))
theorem bxAll_snoc (l : List Pt) (p : Pt) (b : Bx) : bxAll (l ++ [p]) b = bxJ (bxAll l b) (bxPt p) := by simp [bxAll]
/-- where the rounds stand -/
structure BoxJ (r : LoopB) (N ob tb : Nat) (b0 : Bx) (pre : List Pt) (h : Heap) : Prop where
  lt : N < h.next ∧ ob < N ∧ tb < N ∧ ob ≠ tb
  lp : h.get N = some (.loop r)
  out : ∃ ver, h.get ob = some (.cells [.int .i64 0, .int .i64 0, .int .i64 0, .int .i64 0] 25 ver)
  box : ∃ ver, h.get tb = some (.cells [.int .i64 (bxAll pre b0).x0, .int .i64 (bxAll pre b0).y0, .int .i64 (bxAll pre b0).x1, .int .i64 (bxAll pre b0).y1] 25 ver)
theorem BoxJ.ext {r : LoopB} {N ob tb : Nat} {b0 : Bx} {pre : List Pt} {h h' : Heap} (j : BoxJ r N ob tb b0 pre h) (x : Ext h h') : BoxJ r N ob tb b0 pre h' := by
  obtain ⟨h1, h2, h3, h4⟩ := j.lt
  refine ⟨⟨Nat.lt_of_lt_of_le h1 x.1, h2, h3, h4⟩, by rw [x.2 _ h1]; exact j.lp, ?_, ?_⟩
  · obtain ⟨v, e⟩ := j.out
    exact ⟨v, by rw [x.2 _ (by omega)]; exact e⟩
  · obtain ⟨v, e⟩ := j.box
    exact ⟨v, by rw [x.2 _ (by omega)]; exact e⟩
theorem box_round (g : Pg P tab) {s : T AV} {N ob tb : Nat} (t4 : sg s 4 = .ptr tb 0) {b0 : Bx} (hb0 : bOk b0) {pre : List Pt} {p : Pt} (hpre : ∀ q ∈ pre, ptOk q) (hp : ptOk p) {r : LoopB} (hr : r = ⟨P, s, [24], b95_0, b95_1, 0, none⟩) {h : Heap} (j : BoxJ r N ob tb b0 pre h) :
    Cl P (yf N) [aPt p] h fun w h' => (w = .bool true ∧ BoxJ r N ob tb b0 (pre ++ [p]) h') ∨ (w = .bool false ∧ False) := by
  obtain ⟨l1, l2, l3, l4⟩ := j.lt
  refine yield_cl g.hm j.lp (by rw [hr]) (by rw [hr]) (by rw [hr]) (by rw [hr]; rfl) (by rw [hr]; rfl) (by rw [hr]; rfl) ?_
  rw [show r.asg = b95_0 by rw [hr], show r.body = b95_1 by rw [hr], show setps r.ps [aPt p] r.s = s.set 24 (aPt p) by rw [hr]; rfl]
  simp only [b95_0, aPt, RW, RX, VOp.fresh, bxC, bsC, un, most, callsOf, seval, Int.reducePow, ↓reduceIte, Nat.reduceEqDiff, reduceCtorEq]
  have e1 : ¬ N = h.next := by omega
  have e2 : ¬ tb = h.next := by omega
  have e3 : ¬ tb = N := by omega
  have e4 : ¬ h.next = N := by omega
  obtain ⟨vo, go⟩ := j.out
  obtain ⟨vb, gb⟩ := j.box
  refine ⟨by simp only [e1, if_false]; exact j.lp, ?_⟩
  obtain ⟨h1, eh1⟩ : ∃ h1, h1 = (((h.mk' h.next (.cells [.int .i64 0, .int .i64 0] 27 0)).put h.next (.cells [.int .i64 p.x, .int .i64 p.y] 27 1)).put N (.loop r.busy)) := ⟨_, rfl⟩
  have k1 : h1.get h.next = some (.cells [.int .i64 p.x, .int .i64 p.y] 27 1) := by rw [eh1, Heap.get_put, if_neg e4, Heap.get_put, if_pos rfl]
  have k2 : h1.get tb = h.get tb := by rw [eh1, Heap.get_put, if_neg e3, Heap.get_put, if_neg e2, Heap.get_mk, if_neg e2]
  have k3 : h1.get N = some (.loop r.busy) := by rw [eh1, Heap.get_put, if_pos rfl]
  rw [← eh1]
  have ie : ∀ x : Int, imn x x = x ∧ imx x x = x := fun x => by unfold imn imx; constructor <;> split <;> rfl
  have hB := bxAll_ok hpre hb0
  generalize hBe : bxAll pre b0 = B at gb hB
  have o89 : OK P 147 [.agg [.int .i64 p.x, .int .i64 p.y], .agg [.int .i64 p.x, .int .i64 p.y]] h1 (.agg [.int .i64 p.x, .int .i64 p.y, .int .i64 p.x, .int .i64 p.y]) h1 := by
    have := (between_pu g p p).exact (h := h1) rfl
    rwa [(ie p.x).1, (ie p.x).2, (ie p.y).1, (ie p.y).2] at this
  have o91 : OK P 148 [.agg [.int .i64 B.x0, .int .i64 B.y0, .int .i64 B.x1, .int .i64 B.y1], .agg [.int .i64 p.x, .int .i64 p.y, .int .i64 p.x, .int .i64 p.y]] h1 (.tup [.agg [.int .i64 (bxJ B (bxPt p)).x0, .int .i64 (bxJ B (bxPt p)).y0, .int .i64 (bxJ B (bxPt p)).x1, .int .i64 (bxJ B (bxPt p)).y1], .int .i64 0]) h1 := by
    have := (join_pu g B (bxPt p)).exact (h := h1) rfl
    rwa [if_pos ⟨hB, bxPt_ok hp⟩] at this
  obtain ⟨c, c1, c2⟩ : ∃ c : Nat → List AV → Heap → AV × Heap, (∀ a h, c 147 a h = (.agg [.int .i64 p.x, .int .i64 p.y, .int .i64 p.x, .int .i64 p.y], h)) ∧ (∀ a h, c 148 a h = (.tup [.agg [.int .i64 (bxJ B (bxPt p)).x0, .int .i64 (bxJ B (bxPt p)).y0, .int .i64 (bxJ B (bxPt p)).x1, .int .i64 (bxJ B (bxPt p)).y1], .int .i64 0], h)) :=
    ⟨fun f _ h => if f = 147 then (.agg [.int .i64 p.x, .int .i64 p.y, .int .i64 p.x, .int .i64 p.y], h) else (.tup [.agg [.int .i64 (bxJ B (bxPt p)).x0, .int .i64 (bxJ B (bxPt p)).y0, .int .i64 (bxJ B (bxPt p)).x1, .int .i64 (bxJ B (bxPt p)).y1], .int .i64 0], h), fun _ _ => rfl, fun _ _ => rfl⟩
  simp only [b95_1, RW, RX, VOp.fresh, bxC, bsC, un, most, callsOf, seval, Int.reducePow, ↓reduceIte, Nat.reduceEqDiff, reduceCtorEq]
  refine EvD.sameN 5 c rfl ?_
  simp only [t4, k1, k2, gb, c1, c2, o89, o91, RW, RX, VOp.fresh, bxC, bsC, un, most, callsOf, seval, Int.reducePow, ↓reduceIte, Nat.reduceEqDiff, reduceCtorEq]
  have hn1 : h1.next = h.next + 1 := by rw [eh1, put_next, put_next, mk_next]; omega
  have ko : h1.get ob = h.get ob := by rw [eh1, Heap.get_put, if_neg (by omega), Heap.get_put, if_neg (by omega), Heap.get_mk, if_neg (by omega)]
  refine ⟨by rw [if_neg (fun e => e3 e.symm)]; exact k3, .inl ⟨rfl, ⟨?_, ?_, ⟨vo, ?_⟩, ⟨vb + 1, ?_⟩⟩⟩⟩
  · rw [put_next, put_next, hn1]; omega
  · rw [Heap.get_put, if_pos rfl]
  · rw [Heap.get_put, if_neg (by omega), Heap.get_put, if_neg l4, ko]; exact go
  · rw [Heap.get_put, if_neg e3, Heap.get_put, if_pos rfl, bxAll_snoc, hBe]
theorem box_go (g : Pg P tab) {f : Feat} {v a0 a1 : AV} (hv : IsL 24 RRing v f.rings) (ho : featOk f) {s : T AV} {N M fb ob tb e1 n1 e2 n2 n3 n4 : Nat} (t4 : sg s 4 = .ptr tb 0) {h : Heap} (hN : h.next = N) (gM : h.get M = some (.cells [.ptr fb 0] e1 n1)) (gf : h.get fb = some (.cells [a0, a1, v] e2 n2))
    (l0 : M < N ∧ fb < N ∧ ob < N ∧ tb < N ∧ ob ≠ tb) (go1 : h.get ob = some (.cells [.int .i64 0, .int .i64 0, .int .i64 0, .int .i64 0] 25 n3)) {b0 : Bx} (hb0 : bOk b0) (gb : h.get tb = some (.cells [.int .i64 b0.x0, .int .i64 b0.y0, .int .i64 b0.x1, .int .i64 b0.y1] 25 n4)) {Q : Ex → T AV → Heap → Prop}
    (hQ : ∀ h' v1 v2, h'.get ob = some (.cells [.int .i64 0, .int .i64 0, .int .i64 0, .int .i64 0] 25 v1) → h'.get tb = some (.cells [.int .i64 (bxAll (fPts f) b0).x0, .int .i64 (bxAll (fPts f) b0).y0, .int .i64 (bxAll (fPts f) b0).x1, .int .i64 (bxAll (fPts f) b0).y1] 25 v2) → Q .normal s h') :
    131 < YB ∧ Cl P 131 [.yld N, .ptr M 0] (h.mk' N (.loop ⟨P, s, [24], b95_0, b95_1, 0, none⟩)) fun _ h2 => LoopEnd N s h2 Q := by
  obtain ⟨q1, q2, q3, q4, q5⟩ := l0
  refine ⟨by decide, ?_⟩
  obtain ⟨r, hr⟩ : ∃ r : LoopB, r = ⟨P, s, [24], b95_0, b95_1, 0, none⟩ := ⟨_, rfl⟩
  rw [← hr]
  refine (pts_cl g hv (bb := M) (fb := fb) (e1 := e1) (n1 := n1) (e2 := e2) (n2 := n2) (a0 := a0) (a1 := a1) (J := BoxJ r N ob tb b0) (Jx := fun _ => False) (fun j x => j.ext x) (fun pre p h hpre j => ?_) ?_ ?_ ?_).mono fun _ h2 hj => ?_
  · have hm : ∀ q ∈ pre ++ [p], ptOk q := fun q hq => ho.pts q (hpre.subset hq)
    exact box_round g t4 hb0 (fun q hq => hm q (List.mem_append_left _ hq)) (hm p (by simp)) hr j
  · rw [Heap.get_mk, if_neg (by omega)]; exact gM
  · rw [Heap.get_mk, if_neg (by omega)]; exact gf
  · refine ⟨⟨by rw [← hN, mk_next]; omega, q3, q4, q5⟩, by rw [Heap.get_mk, if_pos rfl], ⟨n3, ?_⟩, ⟨n4, ?_⟩⟩
    · rw [Heap.get_mk, if_neg (by omega)]; exact go1
    · rw [Heap.get_mk, if_neg (by omega)]; exact gb
  · rcases hj with j | hf
    · unfold LoopEnd
      rw [j.lp]
      obtain ⟨v1, g1⟩ := j.out
      obtain ⟨v2, g2⟩ := j.box
      have hfin : Q .normal s (h2.put N .dead) := hQ _ v1 v2 (by rw [Heap.get_put, if_neg (by omega)]; exact g1) (by rw [Heap.get_put, if_neg (by omega)]; exact g2)
      rw [hr]
      exact ⟨rfl, hfin⟩
    · exact hf.elim
/-- the rounds: each point joined -/
theorem box_pu (g : Pg P tab) {f : Feat} {v : AV} (hv : IsL 24 RRing v f.rings) : Pu P 95 [.agg [.int .i64 f.id, .int .i64 f.shape, v]] (fun w => (¬ featOk f ∧ w = .tup [aBx ⟨0, 0, 0, 0⟩, .int .i64 400]) ∨ (featOk f ∧ w = .tup [aBx (fBox f), .int .i64 0])) := by
  refine g.pu (vf := v95) rfl rfl ?_
  simp only [v95, RW, RX, VOp.fresh, bxC, bsC, un, most, callsOf, seval, Int.reducePow, ↓reduceIte, Nat.reduceEqDiff, reduceCtorEq]
  refine (shapeMay_pu g hv).go (by simp [AV.tolds, AV.told, hv.told tRing]) ?_
  rintro _ ⟨b, rfl, hb⟩
  cases b with
  | false =>
    have ho : ¬ featOk f := fun h => by have := hb.2 h; cases this
    simp only [RW, RX, VOp.fresh, bxC, bsC, un, most, callsOf, seval, Int.reducePow, ↓reduceIte, Nat.reduceEqDiff, reduceCtorEq]
    exact ⟨_, .tup (.cons (.agg (scals_fz rfl)) (.cons (.int _ _) .nil)), .inl ⟨ho, rfl⟩⟩
  | true =>
    have ho : featOk f := hb.1 rfl
    obtain ⟨h0, h1⟩ := ho.first
    obtain ⟨rv, r1, hrv, t1, g1⟩ := getRing hv 0 h0
    obtain ⟨r2, t2, g2⟩ := getPt hrv 0 h1
    simp only [Int.natCast_zero, Int.ofNat_zero, Int.ofNat_eq_natCast] at g1 g2
    simp only [g1, g2, RW, RX, VOp.fresh, bxC, bsC, un, most, callsOf, seval, Int.reducePow, ↓reduceIte, Nat.reduceEqDiff, reduceCtorEq]
    obtain ⟨p0, hp0⟩ : ∃ p0, (f.rings.getD 0 []).getD 0 ⟨0, 0⟩ = p0 := ⟨_, rfl⟩
    rw [hp0]
    refine (between_pu g p0 p0).go rfl ?_
    rintro _ rfl
    have ie : ∀ x : Int, imn x x = x ∧ imx x x = x := fun x => by unfold imn imx; constructor <;> split <;> rfl
    simp only [(ie p0.x).1, (ie p0.x).2, (ie p0.y).1, (ie p0.y).2, aBx]
    simp only [RW, RX, VOp.fresh, bxC, bsC, un, most, callsOf, seval, Int.reducePow, ↓reduceIte, Nat.reduceEqDiff, reduceCtorEq]
    refine (pts_mk g).mono ?_
    rintro _ _ ⟨rfl, rfl⟩
    simp only [RW, RX, VOp.fresh, bxC, bsC, un, most, callsOf, seval, Int.reducePow, ↓reduceIte, Nat.reduceEqDiff, reduceCtorEq]
    refine box_go g (f := f) (a0 := .int .i64 f.id) (a1 := .int .i64 f.shape) (ob := 1) (tb := 15) (fb := 0) (b0 := bxPt p0) hv ho ?_ ?_ (e1 := 150) (n1 := 0) ?_ (e2 := 49) (n2 := 0) ?_ (by decide) (n3 := 0) ?_ (bxPt_ok (ho.pts p0 ?_)) (n4 := 1) ?_ fun h' v1 v2 k1 k2 => ?_
    · simp only [sg_set, Nat.reduceEqDiff, ↓reduceIte]
    · rfl
    · rfl
    · rfl
    · rfl
    · rw [← hp0]
      exact List.mem_flatten.2 ⟨f.rings.getD 0 [], by rw [getD_ring h0]; exact List.getElem_mem h0, by rw [getP h1]; exact List.getElem_mem h1⟩
    · rfl
    · simp only [k1, k2, RW, RX, VOp.fresh, bxC, bsC, un, most, callsOf, seval, Int.reducePow, ↓reduceIte, Nat.reduceEqDiff, reduceCtorEq]
      exact ⟨_, .tup (.cons (.agg (scals_fz rfl)) (.cons (.int _ _) .nil)), .inr ⟨ho, by unfold fBox; rw [hp0]⟩⟩
end
end Go.Proofs.YtpfpngmfooagiaaGreat.VM
namespace Go.Proofs.YtpfpngmfooagiaaGreat.VM
attribute [local irreducible] Af Nx EvO Ev Un Gd Cd EvR EvQ EvC Nc Gc Lp EvM NxM AfM GdM EvMR EvMQ EvMD EvMC Nm Gm
def upAt (l : List Feat) (i : Nat) : Prop := featOk (l.getD i feat0) ∧ (0 < i → (l.getD (i - 1) feat0).id < (l.getD i feat0).id)
def featsUp (l : List Feat) : Prop := ∀ i, i < l.length → upAt l i
theorem featsUp_lt {l : List Feat} (u : featsUp l) : ∀ (j i : Nat), i < j → j < l.length → (l.getD i feat0).id < (l.getD j feat0).id
  | j + 1, i, hi, hj => by
    have h := (u (j + 1) hj).2 (by omega)
    rw [Nat.add_sub_cancel] at h
    by_cases e : i = j
    · rw [e]; exact h
    · have := featsUp_lt u j i (by omega) (by omega); omega
theorem featsUp_ge {l : List Feat} (u : featsUp l) : ∀ i, i < l.length → (i : Int) + 1 ≤ (l.getD i feat0).id
  | 0, h => by have := (u 0 h).1.1; omega
  | i + 1, h => by
    have h1 := featsUp_ge u i (by omega)
    have h2 := (u (i + 1) h).2 (by omega)
    rw [Nat.add_sub_cancel] at h2
    push_cast; omega
theorem featsUp_len {l : List Feat} (u : featsUp l) : l.length ≤ 65535 := by
  by_cases h : 0 < l.length
  · have h1 := featsUp_ge u (l.length - 1) (by omega)
    have h2 := (u (l.length - 1) (by omega)).1.2.1
    omega
  · omega
section
variable {P : Program}
theorem rising_loop (g : Pg P tab) {l : List Feat} {w : AV} (hw : IsL 32 RFeat w l) (n : Nat) :
    ∀ (i : Nat) (s : T AV) (hh : Heap) (k : List Fr) (Q : Ex → T AV → Heap → Prop), i + n = l.length → (∀ j, j < i → upAt l j) → sg s 0 = w → sg s 5 = w → sg s 6 = .int .i64 l.length → sg s 7 = .int .i64 i →
    (∀ s' h', featsUp l → Un P k Q (.exit 0) s' h') → (∀ s' h', ¬ featsUp l → sg s' 2 = .bool false → Un P k Q .ret s' h') → Lp P b40_0 s hh (Un P k Q) := by
  have hbd := hw.bound (by decide)
  induction n with
  | zero =>
    intro i s hh k Q hi hu h0 h5 h6 h7 hK _
    refine g.lpe b40_0.eq_1 ?_
    have c1 : ¬ ((i : Int) < (l.length : Int)) := by omega
    simp only [h0, h5, h6, h7, c1, RX, VOp.fresh, bxC, bsC, un, most, callsOf, seval, Int.reducePow, ↓reduceIte, Nat.reduceEqDiff, reduceCtorEq]
    exact hK _ _ fun j hj => hu j (by omega)
  | succ n ih =>
    intro i s hh k Q hi hu h0 h5 h6 h7 hK hN
    refine g.lpe b40_0.eq_1 ?_
    have c1 : (i : Int) < (l.length : Int) := by omega
    obtain ⟨x1, r1, i4, i2, i3, _, g1⟩ := getFeat hw i (by omega)
    have w1 : IntKind.i64.wrap ((i : Int) + 1) = ((i + 1 : Nat) : Int) := by rw [w64 (by omega) (by omega)]; push_cast; rfl
    have o1 := isL_one i4
    simp only [h5, h6, h7, c1, g1, o1, HN, RW, RX, VOp.fresh, bxC, bsC, un, most, callsOf, seval, Int.reducePow, ↓reduceIte, Nat.reduceEqDiff, reduceCtorEq]
    refine (shapeMay_pu g (f := l.getD i feat0) i4).go (by simp [AV.tolds, AV.told, i4.told tRing]) ?_
    rintro _ ⟨b, rfl, hb⟩
    cases b with
    | false =>
      simp only [HN, RW, RX, VOp.fresh, bxC, bsC, un, most, callsOf, seval, Int.reducePow, ↓reduceIte, Nat.reduceEqDiff, reduceCtorEq]
      refine hN _ _ (fun u => ?_) ?_
      · have := hb.2 (u i (by omega)).1; cases this
      · simp only [sg_set, Nat.reduceEqDiff, ↓reduceIte]
    | true =>
      by_cases hi0 : 0 < i
      · have c2 : (0 : Int) < (i : Int) := by omega
        obtain ⟨y1, r2, _, _, _, _, g2⟩ := getFeat hw (i - 1) (by omega)
        have w2 : IntKind.i64.wrap ((i : Int) - 1) = ((i - 1 : Nat) : Int) := by rw [w64 (by omega) (by omega)]; omega
        by_cases c3 : (l.getD i feat0).id ≤ (l.getD (i - 1) feat0).id
        · simp only [h0, h7, c2, w2, g2, c3, HN, RW, RX, VOp.fresh, bxC, bsC, un, most, callsOf, seval, Int.reducePow, ↓reduceIte, Nat.reduceEqDiff, reduceCtorEq]
          refine hN _ _ (fun u => ?_) ?_
          · have := (u i (by omega)).2 hi0; omega
          · simp only [sg_set, Nat.reduceEqDiff, ↓reduceIte]
        · simp only [h0, h7, c2, w2, g2, c3, w1, HN, RW, RX, VOp.fresh, bxC, bsC, un, most, callsOf, seval, Int.reducePow, ↓reduceIte, Nat.reduceEqDiff, reduceCtorEq]
          refine ih (i + 1) _ _ k Q (by omega) (fun j hj => ?_) ?_ ?_ ?_ ?_ hK hN
          · by_cases e : j = i
            · rw [e]; exact ⟨hb.1 rfl, fun _ => by omega⟩
            · exact hu j (by omega)
          · simp only [h0, sg_set, Nat.reduceEqDiff, ↓reduceIte]
          · simp only [h5, sg_set, Nat.reduceEqDiff, ↓reduceIte]
          · simp only [h6, sg_set, Nat.reduceEqDiff, ↓reduceIte]
          · simp only [sg_set, Nat.reduceEqDiff, ↓reduceIte]
      · obtain rfl : i = 0 := by omega
        simp only [h0, h7, w1, HN, RW, RX, VOp.fresh, bxC, bsC, un, most, callsOf, seval, Int.reducePow, ↓reduceIte, Nat.reduceEqDiff, reduceCtorEq]
        refine ih 1 _ _ k Q (by omega) (fun j hj => ?_) ?_ ?_ ?_ ?_ hK hN
        · obtain rfl : j = 0 := by omega
          exact ⟨hb.1 rfl, fun c => absurd c (by omega)⟩
        · simp only [h0, sg_set, Nat.reduceEqDiff, ↓reduceIte]
        · simp only [h5, sg_set, Nat.reduceEqDiff, ↓reduceIte]
        · simp only [h6, sg_set, Nat.reduceEqDiff, ↓reduceIte]
        · simp only [sg_set, Nat.reduceEqDiff, ↓reduceIte]
          rfl
theorem rising_pu (g : Pg P tab) {l : List Feat} {w : AV} (hw : IsL 32 RFeat w l) : Pu P 40 [w] (IsB (featsUp l)) := by
  refine g.pu (vf := v40) rfl rfl ?_
  simp only [v40, hw.len, RX, VOp.fresh, bxC, bsC, un, most, callsOf, seval, Int.reducePow, ↓reduceIte, Nat.reduceEqDiff, reduceCtorEq]
  refine rising_loop g hw l.length 0 _ _ _ _ (by omega) (fun j hj => absurd hj (by omega)) ?_ ?_ ?_ ?_ (fun s' h' u => ?_) fun s' h' u t2 => ?_
  · simp only [sg_set, Nat.reduceEqDiff, ↓reduceIte]
  · simp only [sg_set, Nat.reduceEqDiff, ↓reduceIte]
  · simp only [sg_set, Nat.reduceEqDiff, ↓reduceIte]
  · simp only [sg_set, Nat.reduceEqDiff, ↓reduceIte]
    rfl
  · simp only [RX, VOp.fresh, bxC, bsC, un, most, callsOf, seval, Int.reducePow, ↓reduceIte, Nat.reduceEqDiff, reduceCtorEq]
    exact u
  · simp only [t2, RX, VOp.fresh, bxC, bsC, un, most, callsOf, seval, Int.reducePow, ↓reduceIte, Nat.reduceEqDiff, reduceCtorEq]
    exact u
end
end Go.Proofs.YtpfpngmfooagiaaGreat.VM
namespace Go.Proofs.YtpfpngmfooagiaaGreat.VM
attribute [local irreducible] Af Nx EvO Ev Un Gd Cd EvR EvQ EvC Nc Gc Lp EvM NxM AfM GdM EvMR EvMQ EvMD EvMC Nm Gm
def cmpI (a b : Int) : Int := if a < b then -1 else if b < a then 1 else 0
end Go.Proofs.YtpfpngmfooagiaaGreat.VM
namespace Go.Proofs.YtpfpngmfooagiaaGreat.VM
attribute [local irreducible] Af Nx EvO Ev Un Gd Cd EvR EvQ EvC Nc Gc Lp EvM NxM AfM GdM EvMR EvMQ EvMD EvMC Nm Gm
theorem trFeat : Tr RFeat 3 := ⟨zFeat, fun a c ⟨v, e, _, _, hv⟩ => by rw [e]; simp [List.all_cons, isL_one hv, one_int], tFeat⟩
theorem Cat.cut {α : Type} {R : α → List AV → Prop} : ∀ {l1 l2 : List α} {t : List AV}, Cat R (l1 ++ l2) t → ∃ t1 t2, t = t1 ++ t2 ∧ Cat R l1 t1 ∧ Cat R l2 t2
  | [], _, t, c => ⟨[], t, rfl, .nil, c⟩
  | _ :: l1, _, _, .cons (c := c) h r => by
    obtain ⟨t1, t2, rfl, a, b⟩ := r.cut (l1 := l1)
    exact ⟨c ++ t1, t2, (List.append_assoc _ _ _).symm, .cons h a, b⟩
theorem Cat.all_one {α : Type} {R : α → List AV → Prop} (ho : ∀ a c, R a c → c.all AV.one = true) : ∀ {l : List α} {t : List AV}, Cat R l t → t.all AV.one = true
  | _, _, .nil => rfl
  | _, _, .cons h r => by rw [List.all_append, ho _ _ h, r.all_one ho]; rfl
section
variable {h : Heap} {B : Nat → Prop}
theorem Lvs.uncons {cs k : List AV} {y : AV} (l : Lvs h B cs (y :: k)) : ∃ x c', cs = x :: c' ∧ Lv h B x y ∧ Lvs h B c' k := by
  obtain ⟨D, f, hb, own, i⟩ := l
  match f with
  | .cons (x := x) (l := c') f1 t =>
    simp only [AV.bares, Bool.and_eq_true] at hb
    exact ⟨x, c', rfl, ⟨_, f1, hb.1, fun b hb => own b (List.mem_append_left _ hb), fun b hb => i b (List.mem_append_left _ hb)⟩, ⟨_, t, hb.2, fun b hb => own b (List.mem_append_right _ hb), fun b hb => i b (List.mem_append_right _ hb)⟩⟩
theorem Lvs.split {k2 : List AV} : ∀ {k1 cs : List AV}, Lvs h B cs (k1 ++ k2) → ∃ c1 c2, cs = c1 ++ c2 ∧ Lvs h B c1 k1 ∧ Lvs h B c2 k2 ∧ c1.length = k1.length
  | [], cs, l => ⟨[], cs, rfl, .nil, l, rfl⟩
  | y :: k1, cs, l => by
    obtain ⟨x, c', rfl, lx, lt⟩ := l.uncons
    obtain ⟨c1, c2, rfl, a, b, e⟩ := lt.split
    exact ⟨x :: c1, c2, rfl, .cons lx a, b, by simp [e]⟩
theorem Fds.ones {h : Heap} : ∀ {x y : List AV} {D : List Nat}, Fds h x y D → y.all AV.one = true → x.all AV.one = true
  | _, _, _, .nil, _ => rfl
  | _, _, _, .cons f t, e => by
    simp only [List.all_cons, Bool.and_eq_true] at e ⊢
    refine ⟨?_, t.ones e.2⟩
    cases f with
    | told => exact e.1
    | sl => rfl
    | sl0 => rfl
    | ptr => rfl
    | agg => cases e.1
    | tup => cases e.1
theorem Lvs.ones {x y : List AV} (l : Lvs h B x y) (e : y.all AV.one = true) : x.all AV.one = true := let ⟨_, f, _⟩ := l; f.ones e
theorem Lvs.bares {x y : List AV} (l : Lvs h B x y) : AV.bares x = true := let ⟨_, _, b, _⟩ := l; b
end
def OutR (h : Heap) (N : Nat) (v : AV) (l : List Feat) : Prop :=
  (v = .nils ∧ l = []) ∨ ∃ b cap C Z e ver t, v = .sl b 0 l.length cap 3 ∧ cap * 3 = (C ++ Z).length ∧ h.get b = some (.cells (C ++ Z) e ver) ∧ b < h.next ∧ N ≤ b ∧ Z.all AV.one = true ∧ AV.bares Z = true ∧ Lvs h (fun d => N ≤ d ∧ d ≠ b) C t ∧ Cat RFeat l t
section
variable {h h' : Heap} {N : Nat} {v : AV} {l : List Feat}
theorem OutR.of {t : List AV} (r : LR h (N ≤ ·) v 3 t l.length) (c : Cat RFeat l t) : OutR h N v l := by
  obtain ⟨cs, row, lv, i⟩ := r
  rcases row with ⟨rfl, e, _⟩ | ⟨b, e, ver, rfl, hn, hb, hl, hg⟩
  · exact .inl ⟨rfl, List.eq_nil_of_length_eq_zero e⟩
  · exact .inr ⟨b, l.length, cs, [], e, ver, t, rfl, by rw [List.append_nil, hl], by rw [List.append_nil]; exact hg, hb, i b (by simp [blkOf]), rfl, rfl, lv.weak fun d hd _ => ⟨hd.1, by simpa [blkOf] using hd.2⟩, c⟩
theorem OutR.lv (r : OutR h N v l) (hs : l.length ≤ 1000000) : ∃ t, Lv h (N ≤ ·) v t ∧ IsL 32 RFeat t l := by
  rcases r with ⟨rfl, rfl⟩ | ⟨b, cap, C, Z, e, ver, t, rfl, hc, hg, hb, hN, hZ, hZb, lv, c⟩
  · exact ⟨.nils, .nils, isL_nil _ _⟩
  · have hC : C.length = l.length * 3 := by rw [← lv.length, c.length zFeat]
    have hbd : l.length * 32 ≤ reachBytes := by rw [reach_eq]; omega
    have hbr := lv.bares
    by_cases h0 : l.length = 0
    · obtain rfl : l = [] := List.eq_nil_of_length_eq_zero h0
      exact ⟨.rs [] 0, ⟨[], .sl0, rfl, Own.nil, fun b hb => by simp at hb⟩, by simp, .inr ⟨[], rfl, .nil⟩⟩
    · obtain ⟨D, fd, _, own, i⟩ := lv
      refine ⟨.rs t l.length, ⟨b :: D, .sl (by omega) hb hg (by rw [cut_eq, List.drop_zero, ← hC, List.take_left' rfl, if_pos rfl]) fd, rfl, fun d hd => ?_, fun d hd => ?_⟩, isL_rs c hbd⟩
      · rcases List.mem_cons.1 hd with rfl | hd
        · exact ⟨_, e, ver, hg, by rw [bares_app, hbr, hZb]; rfl⟩
        · exact own d hd
      · rcases List.mem_cons.1 hd with rfl | hd
        · exact hN
        · exact (i d hd).1
theorem OutR.frame (r : OutR h N v l) (hn : h.next ≤ h'.next) (k : ∀ b, N ≤ b → b < h.next → h'.get b = h.get b) : OutR h' N v l := by
  rcases r with r | ⟨b, cap, C, Z, e, ver, t, rfl, hc, hg, hb, hN, hZ, hZb, lv, c⟩
  · exact .inl r
  · exact .inr ⟨b, cap, C, Z, e, ver, t, rfl, hc, (k b hN hb).trans hg, by omega, hN, hZ, hZb, lv.frame hn fun d hd hl => k d hd.1 hl, c⟩
theorem OutR.one (r : OutR h N v l) : v.one = true := by rcases r with ⟨rfl, _⟩ | ⟨b, cap, C, Z, e, ver, t, rfl, _⟩ <;> rfl
theorem OutR.cells (r : OutR h N v l) : v.cells = some [v] := by rcases r with ⟨rfl, _⟩ | ⟨b, cap, C, Z, e, ver, t, rfl, _⟩ <;> rfl
theorem OutR.lt (r : OutR h N v l) : ∀ b ∈ blkOf v, b < h.next := by
  rcases r with ⟨rfl, _⟩ | ⟨b, cap, C, Z, e, ver, t, rfl, _, _, hb, _⟩
  · intro b hb; simp [blkOf] at hb
  · intro d hd; simp only [blkOf, List.mem_singleton] at hd; rw [hd]; exact hb
end
abbrev z3F : List AV := [.int .i64 0, .int .i64 0, .nils]
theorem del_cells {A B C z y : List AV} (hb : B.length = y.length) : (((A ++ B ++ C ++ z).take A.length ++ C ++ (A ++ B ++ C ++ z).drop (A.length + C.length)).take (A.length + C.length) ++ y ++ ((A ++ B ++ C ++ z).take A.length ++ C ++ (A ++ B ++ C ++ z).drop (A.length + C.length)).drop (A.length + C.length + y.length)) = A ++ C ++ (y ++ z) := by
  have e1 : (A ++ B ++ C ++ z).take A.length = A := by rw [List.append_assoc, List.append_assoc, List.take_left' rfl]
  rw [e1]
  have e2 : (A ++ C ++ (A ++ B ++ C ++ z).drop (A.length + C.length)).take (A.length + C.length) = A ++ C := List.take_left' (by rw [List.length_append])
  rw [e2]
  have e3 : (A ++ C ++ (A ++ B ++ C ++ z).drop (A.length + C.length)).drop (A.length + C.length + y.length) = z := by
    rw [← List.drop_drop, List.drop_left' (by rw [List.length_append]), List.drop_drop, show A.length + C.length + y.length = (A ++ B ++ C).length by simp only [List.length_append]; omega, List.drop_left' rfl]
  rw [e3, List.append_assoc]
section
variable {P : Program}
theorem delF_cl (g : Pg P tab) {h : Heap} {b cap n i e ver : Nat} {A B C Z : List AV} (hA : A.length = i * 3) (hB : B.length = 3) (hC : C.length = (n - (i + 1)) * 3) (hi : i < n) (hn : n ≤ 1000000) (hc : n ≤ cap) (hg : h.get b = some (.cells (A ++ B ++ C ++ Z) e ver)) (oC : C.all AV.one = true) {Q : AV → Heap → Prop}
    (q : ∀ h' ver', h'.next = h.next → (∀ c, c ≠ b → h'.get c = h.get c) → h'.get b = some (.cells (A ++ C ++ (z3F ++ Z)) e ver') → Q (.sl b 0 (n - 1) cap 3) h') : Cl P 45 [.sl b 0 n cap 3, .int .i64 i, .int .i64 ((i + 1 : Nat) : Int)] h Q := by
  refine g.cl (vf := v45) rfl rfl ?_
  have s1 := slV3 (b := b) (off := 0) (len := n) (cap := cap) (sz := 3) (k1 := .i64) (k2 := .i64) (k3 := .i64) (show i ≤ i + 1 by omega) (show i + 1 ≤ n by omega) (show n ≤ cap by omega)
  have s2 := slVhi (b := b) (off := 0) (len := n) (cap := cap) (sz := 3) (k2 := .i64) (hi := i) (by omega)
  have s3 := slVlo (b := b) (off := 0) (len := n) (cap := cap) (sz := 3) (k1 := .i64) (lo := i + 1) (by omega)
  have s4 := slV2 (b := b) (off := 0) (len := n - 1) (cap := cap) (sz := 3) (k1 := .i64) (k2 := .i64) (lo := n - 1) (hi := n) (by omega) (by omega)
  have n1 : ¬ ((i : Int) = ((i + 1 : Nat) : Int)) := by omega
  have hcc : cellsOf h 3 (n - (i + 1)) (.sl b (0 + (i + 1) * 3) (n - (i + 1)) (cap - (i + 1)) 3) = some C := by
    simp only [cellsOf, Nat.le_refl, if_true, hg]
    have : (A ++ B ++ C ++ Z).drop (0 + (i + 1) * 3) = C ++ Z := by
      rw [List.append_assoc (A ++ B), List.drop_left' (by rw [List.length_append, hA, hB]; omega)]
    rw [cut_eq, this, ← hC, List.take_left' rfl, if_pos rfl]
  have hw : writeAt h b (0 + i * 3) C = some (h.put b (.cells ((A ++ B ++ C ++ Z).take A.length ++ C ++ (A ++ B ++ C ++ Z).drop (A.length + C.length)) e (ver + 1))) := by
    rw [writeAt_go, hg, wrB_some, if_pos ⟨by simp only [List.length_append]; omega, oC⟩, show 0 + i * 3 = A.length by omega]
  have ha : appendV h 3 40 49 (.sl b 0 i cap 3) (.sl b (0 + (i + 1) * 3) (n - (i + 1)) (cap - (i + 1)) 3) = some (.sl b 0 (n - 1) cap 3, h.put b (.cells ((A ++ B ++ C ++ Z).take A.length ++ C ++ (A ++ B ++ C ++ Z).drop (A.length + C.length)) e (ver + 1))) := by
    have e3 : i + (n - (i + 1)) = n - 1 := by omega
    have e4 : n - 1 ≤ cap := by omega
    simp only [appendV, lenV, hcc, hC, oC, and_self, if_true, Nat.beq_refl, cond_true, hw, e3, e4]
  have hw2 : writeAt (h.put b (.cells ((A ++ B ++ C ++ Z).take A.length ++ C ++ (A ++ B ++ C ++ Z).drop (A.length + C.length)) e (ver + 1))) b (0 + (n - 1) * 3) z3F = some ((h.put b (.cells ((A ++ B ++ C ++ Z).take A.length ++ C ++ (A ++ B ++ C ++ Z).drop (A.length + C.length)) e (ver + 1))).put b (.cells (A ++ C ++ (z3F ++ Z)) e (ver + 1 + 1))) := by
    rw [writeAt_go, Heap.get_put, if_pos rfl, wrB_some, if_pos ⟨by simp only [List.length_append, List.length_take, List.length_drop]; simp; omega, by rfl⟩, show 0 + (n - 1) * 3 = A.length + C.length by omega, del_cells (by rw [hB]; rfl)]
  have hcl : n - (n - 1) = 1 := by omega
  rw [Nat.zero_add] at ha hw2 s1 s3 s4
  rw [hcl] at s4
  have hcs := clS_go (z := z3F) (b := b) (off := (n - 1) * 3) (len := 1) (cap := cap - (n - 1)) (sz := 3) (by decide) ((by rw [List.replicate_one, List.flatten_singleton]; exact hw2 : writeAt _ b ((n - 1) * 3) (List.replicate 1 z3F).flatten = _))
  simp only [v45, s1, s2, s3, s4, n1, ha, vop_clearS, hcs, RX, VOp.fresh, bxC, bsC, un, most, callsOf, seval, Int.reducePow, ↓reduceIte, Nat.reduceEqDiff, reduceCtorEq]
  exact q _ (ver + 1 + 1) rfl (fun c hc => by rw [Heap.get_put, if_neg hc, Heap.get_put, if_neg hc]) (by rw [Heap.get_put, if_pos rfl]; rfl)
theorem OutR.del (g : Pg P tab) {h : Heap} {N : Nat} {v : AV} {l1 l2 : List Feat} {x : Feat} (r : OutR h N v (l1 ++ x :: l2)) (hs : (l1 ++ x :: l2).length ≤ 1000000) {Q : AV → Heap → Prop}
    (q : ∀ v' h', OutR h' N v' (l1 ++ l2) → h'.next = h.next → (∀ c, c < N → h'.get c = h.get c) → Q v' h') : Cl P 45 [v, .int .i64 l1.length, .int .i64 ((l1.length + 1 : Nat) : Int)] h Q := by
  rcases r with ⟨_, e⟩ | ⟨b, cap, C0, Z, e, ver, t, rfl, hc, hg, hb, hN, hZ, hZb, lv, c⟩
  · cases l1 <;> cases e
  obtain ⟨t1, t2, rfl, q1, q2⟩ := c.cut
  obtain ⟨c1, c2, rfl, lv1, lv2, _⟩ := lv.split
  cases q2 with | cons hx q3 =>
  rename_i tx t3
  obtain ⟨cx, c3, rfl, lvx, lv3, _⟩ := lv2.split
  have L1 : c1.length = l1.length * 3 := by rw [← lv1.length, q1.length zFeat]
  have L2 : cx.length = 3 := by rw [← lvx.length, zFeat _ _ hx]
  have L3 : c3.length = l2.length * 3 := by rw [← lv3.length, q3.length zFeat]
  have ll : (l1 ++ x :: l2).length = l1.length + 1 + l2.length := by simp; omega
  rw [← List.append_assoc c1] at hg hc
  refine delF_cl g (A := c1) (B := cx) (C := c3) (Z := Z) (i := l1.length) L1 L2 (by rw [ll, L3]; omega) (by rw [ll]; omega) hs (by simp only [List.length_append] at hc; omega) hg (lv3.ones (q3.all_one trFeat.one)) fun h' ver' n' k' g' => ?_
  have fr : ∀ {x y}, Lvs h (fun d => N ≤ d ∧ d ≠ b) x y → Lvs h' (fun d => N ≤ d ∧ d ≠ b) x y := fun lv => lv.frame (by omega) fun d hd _ => k' d hd.2
  refine q _ h' (.inr ⟨b, cap, c1 ++ c3, z3F ++ Z, e, ver', t1 ++ t3, ?_, ?_, g', by omega, hN, by rw [List.all_append, hZ]; rfl, by rw [bares_app, hZb]; rfl, fr (lv1.app lv3), q1.append q3⟩) n' fun d hd => k' d (by omega)
  · have : (l1 ++ x :: l2).length - 1 = (l1 ++ l2).length := by simp
    rw [this]
  · simp only [List.length_append] at hc ⊢
    simp only [List.length_cons, List.length_nil]
    omega
end
end Go.Proofs.YtpfpngmfooagiaaGreat.VM
namespace Go.Proofs.YtpfpngmfooagiaaGreat.VM
attribute [local irreducible] Af Nx EvO Ev Un Gd Cd EvR EvQ EvC Nc Gc Lp EvM NxM AfM GdM EvMR EvMQ EvMD EvMC Nm Gm
section
variable {P : Program}
theorem copyAll_loop (g : Pg P tab) {l : List Feat} {w : AV} (hw : IsL 32 RFeat w l) (hs : l.length ≤ 70000) {h0 : Heap} (n : Nat) :
    ∀ (i : Nat) (t : List AV) (s : T AV) (h : Heap) (k : List Fr) (Q : Ex → T AV → Heap → Prop), i + n = l.length → Ext h0 h → LR h (h0.next ≤ ·) (sg s 3) 3 t i → Cat RFeat (l.take i) t → sg s 6 = w → sg s 7 = .int .i64 l.length → sg s 8 = .int .i64 i →
    (∀ s' h' t', Ext h0 h' → LR h' (h0.next ≤ ·) (sg s' 3) 3 t' l.length → Cat RFeat l t' → Un P k Q (.exit 0) s' h') → Lp P b42_0 s h (Un P k Q) := by
  induction n with
  | zero =>
    intro i t s h k Q hn x0 r c t6 t7 t8 hQ
    refine g.lpe b42_0.eq_1 ?_
    obtain rfl : i = l.length := by omega
    have c1 : ¬ ((l.length : Int) < (l.length : Int)) := by omega
    simp only [t6, t7, t8, c1, RX, VOp.fresh, bxC, bsC, un, most, callsOf, seval, Int.reducePow, ↓reduceIte, Nat.reduceEqDiff, reduceCtorEq]
    rw [List.take_length] at c
    refine hQ _ _ t x0 ?_ c
    simp only [sg_set, Nat.reduceEqDiff, ↓reduceIte]
    exact r
  | succ n ih =>
    intro i t s h k Q hn x0 r c t6 t7 t8 hQ
    refine g.lpe b42_0.eq_1 ?_
    have c1 : (i : Int) < (l.length : Int) := by omega
    obtain ⟨x1, r1, i4, i2, i3, _, g1⟩ := getFeat hw i (by omega)
    have hgi : l.getD i feat0 = l[i] := by simp [List.getD_eq_getElem?_getD, List.getElem?_eq_getElem (show i < l.length by omega)]
    have w1 : IntKind.i64.wrap ((i : Int) + 1) = ((i + 1 : Nat) : Int) := by rw [w64 (by omega) (by omega)]; push_cast; rfl
    have o1 := isL_one i4
    simp only [t6, t7, t8, c1, g1, o1, HN, RW, RX, VOp.fresh, bxC, bsC, un, most, callsOf, seval, Int.reducePow, ↓reduceIte, Nat.reduceEqDiff, reduceCtorEq]
    have y1 := Ext.new (h := h) (o := .cells [.int .i64 0, .int .i64 0, .nils] 49 0) (o' := .cells [.int .i64 (l.getD i feat0).id, .int .i64 (l.getD i feat0).shape, x1] 49 1)
    refine fcopy_cl g (f := l.getD i feat0) ⟨x1, rfl, i2, i3, i4⟩ fun c' t1 h2 lv rf hl ho x2 => ?_
    obtain ⟨a1, a2, a3, rfl⟩ := len3 hl
    have ho1 : a1.one = true := by simp at ho; exact ho.1
    have ho2 : a2.one = true := by simp at ho; exact ho.2.1
    have ho3 : a3.one = true := by simp at ho; exact ho.2.2
    have y2 := y1.trans x2
    have y3 := Ext.mk (h := h2) (.cells [a1, a2, a3] 49 0)
    have n3 : (h2.mk' h2.next (.cells [a1, a2, a3] 49 0)).next = h2.next + 1 := by rw [mk_next]; omega
    have hn0 : h0.next ≤ h2.next := Nat.le_trans x0.1 y2.1
    have r3 : LR (h2.mk' h2.next (.cells [a1, a2, a3] 49 0)) (h0.next ≤ ·) (sg s 3) 3 t i := r.frame (Nat.le_trans y2.1 y3.1) fun b _ hb => (y3.2 b (Nat.lt_of_lt_of_le hb y2.1)).trans (y2.2 b hb)
    have yn := y1.1
    obtain ⟨h4, p4, r4, n4, k4⟩ := r3.push (nb := h2.next) (eb := 49) (vb := 0) (c := [a1, a2, a3]) (t1 := t1) (by rw [Heap.get_mk, if_pos rfl]) rfl ho ((lv.frame y3.1 fun b _ hb => y3.2 b hb).weak fun b hb hl2 => ⟨by have := x0.1; omega, fun hc => by have := r.lt b hc; omega⟩) (by rw [n3]; omega) (bytes := 40) (by unfold most2; omega) 49
    rw [n3] at p4 r4 n4 k4
    have x4 : Ext h0 h4 := ⟨by omega, fun b hb => by
      have hb' := Nat.lt_of_lt_of_le hb x0.1
      rw [k4 b (fun hc => by have := r.inB b hc; omega) (by omega), y3.2 b (by omega), y2.2 b hb']
      exact x0.2 b hb⟩
    simp only [t8, ho1, ho2, ho3, p4, w1, HN, RW, RX, VOp.fresh, bxC, bsC, un, most, callsOf, seval, Int.reducePow, ↓reduceIte, Nat.reduceEqDiff, reduceCtorEq]
    refine ih (i + 1) (t ++ t1) _ h4 k Q (by omega) x4 ?_ ?_ ?_ ?_ ?_ hQ
    · simp only [sg_set, Nat.reduceEqDiff, ↓reduceIte]
      exact r4
    · exact c.take (by omega) (by rw [← hgi]; exact rf)
    · simp only [t6, sg_set, Nat.reduceEqDiff, ↓reduceIte]
    · simp only [t7, sg_set, Nat.reduceEqDiff, ↓reduceIte]
    · simp only [sg_set, Nat.reduceEqDiff, ↓reduceIte]
theorem copyAll_cl (g : Pg P tab) {l : List Feat} {w : AV} (hw : IsL 32 RFeat w l) (hs : l.length ≤ 70000) {h : Heap} {Q : AV → Heap → Prop} (q : ∀ v h', OutR h' h.next v l → Ext h h' → Q v h') : Cl P 42 [w] h Q := by
  refine g.cl (vf := v42) rfl rfl ?_
  simp only [v42, hw.len, RX, VOp.fresh, bxC, bsC, un, most, callsOf, seval, Int.reducePow, ↓reduceIte, Nat.reduceEqDiff, reduceCtorEq]
  refine copyAll_loop g hw hs (h0 := h) l.length 0 [] _ h _ _ (by omega) (Ext.refl h) ?_ .nil ?_ ?_ ?_ fun s' h' t' x r c => ?_
  · simp only [sg_set, Nat.reduceEqDiff, ↓reduceIte]
    exact LR.nil _ _ _
  · simp only [sg_set, Nat.reduceEqDiff, ↓reduceIte]
  · simp only [sg_set, Nat.reduceEqDiff, ↓reduceIte]
  · simp only [sg_set, Nat.reduceEqDiff, ↓reduceIte]
    rfl
  simp only [RX, VOp.fresh, bxC, bsC, un, most, callsOf, seval, Int.reducePow, ↓reduceIte, Nat.reduceEqDiff, reduceCtorEq]
  exact q _ _ (OutR.of r c) x
end
end Go.Proofs.YtpfpngmfooagiaaGreat.VM
namespace Go.Proofs.YtpfpngmfooagiaaGreat.VM
attribute [local irreducible] Af Nx EvO Ev Un Gd Cd EvR EvQ EvC Nc Gc Lp EvM NxM AfM GdM EvMR EvMQ EvMD EvMC Nm Gm
def inB (p : Pt) (b : Bx) : Prop := b.x0 ≤ p.x ∧ p.x ≤ b.x1 ∧ b.y0 ≤ p.y ∧ p.y ≤ b.y1
instance (p : Pt) (b : Bx) : Decidable (inB p b) := by unfold inB; infer_instance
section
variable {P : Program}
theorem within_pu (g : Pg P tab) {p : Pt} {b : Bx} (hp : ptOk p) (hb : bOk b) : Pu P 85 [aPt p, aBx b] (fun v => v = .bool (decide (inB p b))) := by
  refine g.pu (vf := v85) rfl rfl ?_
  simp only [v85, aPt, aBx, HN, RW, RX, VOp.fresh, bxC, bsC, un, most, callsOf, seval, Int.reducePow, ↓reduceIte, Nat.reduceEqDiff, reduceCtorEq]
  refine (pointMay_pu g p).go rfl ?_
  rintro _ rfl
  have hp' : decide (ptOk p) = true := decide_eq_true hp
  rw [hp']
  simp only [HN, RW, RX, VOp.fresh, bxC, bsC, un, most, callsOf, seval, Int.reducePow, ↓reduceIte, Nat.reduceEqDiff, reduceCtorEq]
  refine (boxMay_pu g b.x0 b.y0 b.x1 b.y1).go rfl ?_
  rintro _ rfl
  have hb' : decide (bxOk b.x0 b.y0 b.x1 b.y1) = true := decide_eq_true hb
  rw [hb']
  by_cases c1 : b.x0 ≤ p.x
  · by_cases c2 : p.x ≤ b.x1
    · by_cases c3 : b.y0 ≤ p.y
      · by_cases c4 : p.y ≤ b.y1
        · simp only [c1, c2, c3, c4, inB, HN, RW, RX, VOp.fresh, bxC, bsC, un, most, callsOf, seval, Int.reducePow, ↓reduceIte, Nat.reduceEqDiff, reduceCtorEq]
        · simp only [c1, c2, c3, c4, inB, HN, RW, RX, VOp.fresh, bxC, bsC, un, most, callsOf, seval, Int.reducePow, ↓reduceIte, Nat.reduceEqDiff, reduceCtorEq]
      · simp only [c1, c2, c3, inB, HN, RW, RX, VOp.fresh, bxC, bsC, un, most, callsOf, seval, Int.reducePow, ↓reduceIte, Nat.reduceEqDiff, reduceCtorEq]
    · simp only [c1, c2, inB, HN, RW, RX, VOp.fresh, bxC, bsC, un, most, callsOf, seval, Int.reducePow, ↓reduceIte, Nat.reduceEqDiff, reduceCtorEq]
  · simp only [c1, inB, HN, RW, RX, VOp.fresh, bxC, bsC, un, most, callsOf, seval, Int.reducePow, ↓reduceIte, Nat.reduceEqDiff, reduceCtorEq]
/-- where the rounds over the places stand -/
structure MtJ (r : LoopB) (N fb bb qb ib : Nat) (fc : List AV) (b : Bx) (h : Heap) : Prop where
  lt : N < h.next ∧ fb < N ∧ bb < N ∧ qb < N ∧ ib < N ∧ fb ≠ qb ∧ fb ≠ ib ∧ bb ≠ qb ∧ bb ≠ ib ∧ qb ≠ ib
  lp : h.get N = some (.loop r)
  f : ∃ ver, h.get fb = some (.cells fc 49 ver)
  bx : ∃ ver, h.get bb = some (.cells [.int .i64 b.x0, .int .i64 b.y0, .int .i64 b.x1, .int .i64 b.y1] 25 ver)
  q : ∃ ver, h.get qb = some (.cells [.bool false] 4 ver)
  i : ∃ ver, h.get ib = some (.cells [.int .i64 0] 30 ver)
theorem MtJ.ext {r : LoopB} {N fb bb qb ib : Nat} {fc : List AV} {b : Bx} {h h' : Heap} (j : MtJ r N fb bb qb ib fc b h) (x : Ext h h') : MtJ r N fb bb qb ib fc b h' := by
  obtain ⟨h1, h2, h3, h4, h5, h6⟩ := j.lt
  refine ⟨⟨Nat.lt_of_lt_of_le h1 x.1, h2, h3, h4, h5, h6⟩, by rw [x.2 _ h1]; exact j.lp, ?_, ?_, ?_, ?_⟩
  · obtain ⟨v, e⟩ := j.f
    exact ⟨v, by rw [x.2 _ (by omega)]; exact e⟩
  · obtain ⟨v, e⟩ := j.bx
    exact ⟨v, by rw [x.2 _ (by omega)]; exact e⟩
  · obtain ⟨v, e⟩ := j.q
    exact ⟨v, by rw [x.2 _ (by omega)]; exact e⟩
  · obtain ⟨v, e⟩ := j.i
    exact ⟨v, by rw [x.2 _ (by omega)]; exact e⟩
def MtX (r : LoopB) (N qb ib : Nat) (h : Heap) : Prop := h.get N = some (.loop (r.left .ret)) ∧ (∃ ver, h.get qb = some (.cells [.bool true] 4 ver)) ∧ ∃ ver, h.get ib = some (.cells [.int .i64 0] 30 ver)
theorem meets_round (g : Pg P tab) {s : T AV} {N fb bb qb ib : Nat} (t3 : sg s 3 = .ptr bb 0) (t4 : sg s 4 = .ptr qb 0) (t5 : sg s 5 = .ptr ib 0) {fc : List AV} {b : Bx} (hb : bOk b) {p : Pt} (hp : ptOk p) {r : LoopB} (hr : r = ⟨P, s, [20], b53_0, b53_1, 0, none⟩) {h : Heap} (j : MtJ r N fb bb qb ib fc b h) :
    Cl P (yf N) [aPt p] h fun w h' => (w = .bool true ∧ MtJ r N fb bb qb ib fc b h' ∧ ¬ inB p b) ∨ (w = .bool false ∧ MtX r N qb ib h' ∧ inB p b) := by
  obtain ⟨l1, l2, l3, l4, l5, l6, l7, l8, l9, l10⟩ := j.lt
  refine yield_cl g.hm j.lp (by rw [hr]) (by rw [hr]) (by rw [hr]) (by rw [hr]; rfl) (by rw [hr]; rfl) (by rw [hr]; rfl) ?_
  rw [show r.asg = b53_0 by rw [hr], show r.body = b53_1 by rw [hr], show setps r.ps [aPt p] r.s = s.set 20 (aPt p) by rw [hr]; rfl]
  simp only [b53_0, aPt, RW, RX, VOp.fresh, bxC, bsC, un, most, callsOf, seval, Int.reducePow, ↓reduceIte, Nat.reduceEqDiff, reduceCtorEq]
  have e1 : ¬ N = h.next := by omega
  have e4 : ¬ h.next = N := by omega
  obtain ⟨vf, gf⟩ := j.f
  obtain ⟨vb, gb⟩ := j.bx
  obtain ⟨vq, gq⟩ := j.q
  obtain ⟨vi, gi⟩ := j.i
  refine ⟨by simp only [e1, if_false]; exact j.lp, ?_⟩
  obtain ⟨h1, eh1⟩ : ∃ h1, h1 = (((h.mk' h.next (.cells [.int .i64 0, .int .i64 0] 27 0)).put h.next (.cells [.int .i64 p.x, .int .i64 p.y] 27 1)).put N (.loop r.busy)) := ⟨_, rfl⟩
  have k1 : h1.get h.next = some (.cells [.int .i64 p.x, .int .i64 p.y] 27 1) := by rw [eh1, Heap.get_put, if_neg e4, Heap.get_put, if_pos rfl]
  have kk : ∀ d, d < N → h1.get d = h.get d := fun d hd => by rw [eh1, Heap.get_put, if_neg (by omega), Heap.get_put, if_neg (by omega), Heap.get_mk, if_neg (by omega)]
  have k3 : h1.get N = some (.loop r.busy) := by rw [eh1, Heap.get_put, if_pos rfl]
  have hn1 : h1.next = h.next + 1 := by rw [eh1, put_next, put_next, mk_next]; omega
  have gb1 := (kk bb l3).trans gb
  have gq1 := (kk qb l4).trans gq
  have gi1 := (kk ib l5).trans gi
  have gf1 := (kk fb l2).trans gf
  have hqi : ¬ ib = qb := fun e => l10 e.symm
  have n1 : ¬ N = qb := by omega
  have n2 : ¬ N = ib := by omega
  rw [← eh1]
  simp only [b53_1, t3, k1, gb1, RW, RX, VOp.fresh, bxC, bsC, un, most, callsOf, seval, Int.reducePow, ↓reduceIte, Nat.reduceEqDiff, reduceCtorEq]
  refine (within_pu g hp hb).go rfl ?_
  rintro _ rfl
  by_cases hi : inB p b
  · simp only [hi, t4, t5, gq1, gi1, hqi, RW, RX, VOp.fresh, bxC, bsC, un, most, callsOf, seval, Int.reducePow, ↓reduceIte, Nat.reduceEqDiff, reduceCtorEq]
    refine ⟨by rw [if_neg n2, if_neg n1]; exact k3, .inr ⟨rfl, by rw [Heap.get_put, if_pos rfl], ⟨vq + 1, ?_⟩, ⟨vi + 1, ?_⟩⟩⟩
    · rw [Heap.get_put, if_neg (fun e => n1 e.symm), Heap.get_put, if_neg l10, Heap.get_put, if_pos rfl]
    · rw [Heap.get_put, if_neg (fun e => n2 e.symm), Heap.get_put, if_pos rfl]
  · simp only [hi, RW, RX, VOp.fresh, bxC, bsC, un, most, callsOf, seval, Int.reducePow, ↓reduceIte, Nat.reduceEqDiff, reduceCtorEq]
    refine ⟨k3, .inl ⟨rfl, ⟨by rw [put_next, hn1]; omega, l2, l3, l4, l5, l6, l7, l8, l9, l10⟩, by rw [Heap.get_put, if_pos rfl], ⟨vf, ?_⟩, ⟨vb, ?_⟩, ⟨vq, ?_⟩, ⟨vi, ?_⟩⟩⟩
    · rw [Heap.get_put, if_neg (by omega)]; exact gf1
    · rw [Heap.get_put, if_neg (by omega)]; exact gb1
    · rw [Heap.get_put, if_neg (by omega)]; exact gq1
    · rw [Heap.get_put, if_neg (by omega)]; exact gi1
/-- the rounds over the places -/
theorem meets_go (g : Pg P tab) {f : Feat} {v a0 a1 : AV} (hv : IsL 24 RRing v f.rings) (ho : featOk f) {s : T AV} {N M fb bb qb ib e1 n1 n2 n3 n4 n5 : Nat} (t3 : sg s 3 = .ptr bb 0) (t4 : sg s 4 = .ptr qb 0) (t5 : sg s 5 = .ptr ib 0) {h : Heap} (hN : h.next = N) (gM : h.get M = some (.cells [.ptr fb 0] e1 n1)) (gf : h.get fb = some (.cells [a0, a1, v] 49 n2))
    (l0 : M < N ∧ fb < N ∧ bb < N ∧ qb < N ∧ ib < N ∧ fb ≠ qb ∧ fb ≠ ib ∧ bb ≠ qb ∧ bb ≠ ib ∧ qb ≠ ib) {b : Bx} (hb : bOk b) (gb : h.get bb = some (.cells [.int .i64 b.x0, .int .i64 b.y0, .int .i64 b.x1, .int .i64 b.y1] 25 n3)) (gq : h.get qb = some (.cells [.bool false] 4 n4)) (gi : h.get ib = some (.cells [.int .i64 0] 30 n5)) {Q : Ex → T AV → Heap → Prop}
    (qN : ∀ h' v1 v2 v3 v4, N ≤ h'.next → h'.get fb = some (.cells [a0, a1, v] 49 v1) → h'.get bb = some (.cells [.int .i64 b.x0, .int .i64 b.y0, .int .i64 b.x1, .int .i64 b.y1] 25 v2) → h'.get qb = some (.cells [.bool false] 4 v3) → h'.get ib = some (.cells [.int .i64 0] 30 v4) → (∀ p ∈ fPts f, ¬ inB p b) → Q .normal s h')
    (qR : ∀ h' v1 v2, h'.get qb = some (.cells [.bool true] 4 v1) → h'.get ib = some (.cells [.int .i64 0] 30 v2) → (∃ p ∈ fPts f, inB p b) → Q .ret s h') :
    131 < YB ∧ Cl P 131 [.yld N, .ptr M 0] (h.mk' N (.loop ⟨P, s, [20], b53_0, b53_1, 0, none⟩)) fun _ h2 => LoopEnd N s h2 Q := by
  obtain ⟨q1, q2, q3, q4, q5, q6⟩ := l0
  refine ⟨by decide, ?_⟩
  obtain ⟨r, hr⟩ : ∃ r : LoopB, r = ⟨P, s, [20], b53_0, b53_1, 0, none⟩ := ⟨_, rfl⟩
  rw [← hr]
  refine (pts_cl g hv (bb := M) (fb := fb) (e1 := e1) (n1 := n1) (e2 := 49) (n2 := n2) (a0 := a0) (a1 := a1) (J := fun pre h => MtJ r N fb bb qb ib [a0, a1, v] b h ∧ ∀ p ∈ pre, ¬ inB p b) (Jx := fun h => MtX r N qb ib h ∧ ∃ p ∈ fPts f, inB p b) (fun j x => ⟨j.1.ext x, j.2⟩) (fun pre p h hpre j => ?_) ?_ ?_ ?_).mono fun _ h2 hj => ?_
  · have hm : p ∈ fPts f := hpre.subset (by simp)
    refine (meets_round g t3 t4 t5 hb (ho.pts p hm) hr j.1).mono ?_
    rintro w h' (⟨rfl, j', hi⟩ | ⟨rfl, jx, hi⟩)
    · refine .inl ⟨rfl, j', fun q hq => ?_⟩
      rcases List.mem_append.1 hq with hq | hq
      · exact j.2 q hq
      · rw [List.mem_singleton.1 hq]; exact hi
    · exact .inr ⟨rfl, jx, p, hm, hi⟩
  · rw [Heap.get_mk, if_neg (by omega)]; exact gM
  · rw [Heap.get_mk, if_neg (by omega)]; exact gf
  · refine ⟨⟨⟨by rw [← hN, mk_next]; omega, q2, q3, q4, q5, q6⟩, by rw [Heap.get_mk, if_pos rfl], ⟨n2, ?_⟩, ⟨n3, ?_⟩, ⟨n4, ?_⟩, ⟨n5, ?_⟩⟩, fun p hp => by simp at hp⟩
    · rw [Heap.get_mk, if_neg (by omega)]; exact gf
    · rw [Heap.get_mk, if_neg (by omega)]; exact gb
    · rw [Heap.get_mk, if_neg (by omega)]; exact gq
    · rw [Heap.get_mk, if_neg (by omega)]; exact gi
  · rcases hj with ⟨j, hno⟩ | ⟨⟨x1, ⟨v1, x2⟩, ⟨v2, x3⟩⟩, hyes⟩
    · unfold LoopEnd
      rw [j.lp]
      obtain ⟨v1, g1⟩ := j.f
      obtain ⟨v2, g2⟩ := j.bx
      obtain ⟨v3, g3⟩ := j.q
      obtain ⟨v4, g4⟩ := j.i
      have hfin : Q .normal s (h2.put N .dead) := qN _ v1 v2 v3 v4 (by rw [put_next]; have := j.lt.1; omega) (by rw [Heap.get_put, if_neg (by omega)]; exact g1) (by rw [Heap.get_put, if_neg (by omega)]; exact g2) (by rw [Heap.get_put, if_neg (by omega)]; exact g3) (by rw [Heap.get_put, if_neg (by omega)]; exact g4) hno
      rw [hr]
      exact ⟨rfl, hfin⟩
    · unfold LoopEnd
      rw [x1]
      have hfin : Q .ret s (h2.put N .dead) := qR _ v1 v2 (by rw [Heap.get_put, if_neg (by omega)]; exact x2) (by rw [Heap.get_put, if_neg (by omega)]; exact x3) hyes
      exact ⟨rfl, hfin⟩
theorem str_mk (g : Pg P tab) {fb : Nat} {h : Heap} : Cl P 87 [.ptr fb 0] h fun w h' => w = .fn 132 [.ptr h.next 0] ∧ h' = h.mk' h.next (.cells [.ptr fb 0] 150 0) := by
  refine g.cl (vf := v87) rfl rfl ?_
  simp only [v87, RX, VOp.fresh, bxC, bsC, un, most, callsOf, seval, Int.reducePow, ↓reduceIte, Nat.reduceEqDiff, reduceCtorEq]
/-- one place has no stretch -/
theorem str1_cl (g : Pg P tab) {p : Pt} {v a0 : AV} (hv : IsL 24 RRing v [[p]]) {yb M fb e1 n1 e2 n2 : Nat} {h : Heap} (gM : h.get M = some (.cells [.ptr fb 0] e1 n1)) (gf : h.get fb = some (.cells [a0, .int .i64 0, v] e2 n2)) :
    Cl P 132 [.yld yb, .ptr M 0] h fun _ h' => h' = h := by
  refine g.cl (vf := v132) rfl rfl ?_
  obtain ⟨rv, r1, hrv, _, g1⟩ := getRing hv 0 (by simp)
  have hl : ∀ hh, lnV hh v = .val (.int .i64 1) hh := hv.len
  have hl2 : ∀ hh, lnV hh rv = .val (.int .i64 1) hh := hrv.len
  have g1' := fun hh => g1 hh .i64
  simp only [Int.natCast_zero, Int.ofNat_zero, Int.cast_ofNat_Int] at g1'
  simp only [v132, gM, gf, hl, RX, VOp.fresh, bxC, bsC, un, most, callsOf, seval, Int.reducePow, ↓reduceIte, Nat.reduceEqDiff, reduceCtorEq]
  refine g.lpe b132_1.eq_1 ?_
  simp only [g1', RX, VOp.fresh, bxC, bsC, un, most, callsOf, seval, Int.reducePow, ↓reduceIte, Nat.reduceEqDiff, reduceCtorEq]
  refine g.lpe b132_0.eq_1 ?_
  simp only [hl2, gM, gf, HN, RW, RX, VOp.fresh, bxC, bsC, un, most, callsOf, seval, Int.reducePow, ↓reduceIte, Nat.reduceEqDiff, reduceCtorEq]
  refine EvD.same (fun _ _ h => (.undef, h)) rfl ?_
  simp only [gM, gf, RW, RX, VOp.fresh, bxC, bsC, un, most, callsOf, seval, Int.reducePow, ↓reduceIte, Nat.reduceEqDiff, reduceCtorEq]
  refine g.lpe b132_1.eq_1 ?_
  simp only [v132, RX, VOp.fresh, bxC, bsC, un, most, callsOf, seval, Int.reducePow, ↓reduceIte, Nat.reduceEqDiff, reduceCtorEq]
theorem loopEnd_fresh {N : Nat} {s : T AV} {h : Heap} {r : LoopB} {Q : Ex → T AV → Heap → Prop} (hp : r.pend = none) (h0 : r.state = 0) (q : ∀ h2, (∀ d, d < N → h2.get d = h.get d) → Q .normal s h2) : LoopEnd N s (h.mk' N (.loop r)) Q := by
  unfold LoopEnd
  rw [Heap.get_mk, if_pos rfl]
  simp only [hp]
  exact ⟨h0, q _ fun d hd => by rw [Heap.get_put, if_neg (by omega), Heap.get_mk, if_neg (by omega)]⟩
theorem corners_pu (g : Pg P tab) (b : Bx) : Pu P 86 [aBx b] (fun w => w = .agg [.int .i64 b.x0, .int .i64 b.y0, .int .i64 b.x1, .int .i64 b.y0, .int .i64 b.x1, .int .i64 b.y1, .int .i64 b.x0, .int .i64 b.y1]) := by
  refine g.pu (vf := v86) rfl rfl ?_
  simp only [v86, aBx, HN, RW, RX, VOp.fresh, bxC, bsC, un, most, callsOf, seval, Int.reducePow, ↓reduceIte, Nat.reduceEqDiff, reduceCtorEq]
  exact ⟨_, .agg (scals_fz rfl), rfl⟩
theorem meets1_pu (g : Pg P tab) {id : Int} {p : Pt} {b : Bx} {v : AV} (hv : IsL 24 RRing v [[p]]) (ho : featOk ⟨id, 0, [[p]]⟩) (hb : bOk b) : Pu P 53 [.agg [.int .i64 id, .int .i64 0, v], aBx b] (fun w => w = .tup [.bool (decide (inB p b)), .int .i64 0]) := by
  refine g.pu (vf := v53) rfl rfl ?_
  simp only [v53, aBx, RW, RX, VOp.fresh, bxC, bsC, un, most, callsOf, seval, Int.reducePow, ↓reduceIte, Nat.reduceEqDiff, reduceCtorEq]
  refine (shapeMay_pu g (f := ⟨id, 0, [[p]]⟩) hv).go (by simp [AV.tolds, AV.told, hv.told tRing]) ?_
  rintro _ ⟨q, rfl, hq⟩
  obtain rfl : q = true := hq.2 ho
  simp only [RW, RX, VOp.fresh, bxC, bsC, un, most, callsOf, seval, Int.reducePow, ↓reduceIte, Nat.reduceEqDiff, reduceCtorEq]
  refine (boxMay_pu g b.x0 b.y0 b.x1 b.y1).go rfl ?_
  rintro _ rfl
  have hb' : decide (bxOk b.x0 b.y0 b.x1 b.y1) = true := decide_eq_true hb
  rw [hb']
  simp only [RW, RX, VOp.fresh, bxC, bsC, un, most, callsOf, seval, Int.reducePow, ↓reduceIte, Nat.reduceEqDiff, reduceCtorEq]
  refine (pts_mk g).mono ?_
  rintro _ _ ⟨rfl, rfl⟩
  simp only [RW, RX, VOp.fresh, bxC, bsC, un, most, callsOf, seval, Int.reducePow, ↓reduceIte, Nat.reduceEqDiff, reduceCtorEq]
  refine meets_go g (f := ⟨id, 0, [[p]]⟩) (a0 := .int .i64 id) (a1 := .int .i64 0) (fb := 0) (bb := 1) (qb := 2) (ib := 3) (M := 4) hv ho (b := b) ?_ ?_ ?_ ?_ (e1 := 150) (n1 := 0) ?_ (n2 := 0) ?_ (by decide) hb (n3 := 0) ?_ (n4 := 0) ?_ (n5 := 0) ?_ (fun h' v1 v2 v3 v4 k0 k1 k2 k3 k4 hno => ?_) fun h' v1 v2 k1 k2 hyes => ?_
  · simp only [sg_set, Nat.reduceEqDiff, ↓reduceIte]
  · simp only [sg_set, Nat.reduceEqDiff, ↓reduceIte]
  · simp only [sg_set, Nat.reduceEqDiff, ↓reduceIte]
  · rfl
  · rfl
  · rfl
  · rfl
  · rfl
  · rfl
  · have hi : ¬ inB p b := hno p (by simp [fPts])
    simp only [k1, k2, k3, k4, RW, RX, VOp.fresh, bxC, bsC, un, most, callsOf, seval, Int.reducePow, ↓reduceIte, Nat.reduceEqDiff, reduceCtorEq]
    refine (corners_pu g b).go rfl ?_
    rintro _ rfl
    simp only [k1, k2, k3, k4, HN, RW, RX, VOp.fresh, bxC, bsC, un, most, callsOf, seval, Int.reducePow, ↓reduceIte, Nat.reduceEqDiff, reduceCtorEq]
    refine (str_mk g).mono ?_
    rintro _ _ ⟨rfl, rfl⟩
    simp only [RW, RX, VOp.fresh, bxC, bsC, un, most, callsOf, seval, Int.reducePow, ↓reduceIte, Nat.reduceEqDiff, reduceCtorEq]
    have hn : 5 ≤ h'.next := k0
    obtain ⟨H0, eH0⟩ : ∃ H0, H0 = ((h'.mk' h'.next (.cells [.int .i64 0, .int .i64 0, .int .i64 0, .int .i64 0, .int .i64 0, .int .i64 0, .int .i64 0, .int .i64 0] 152 0)).put h'.next (.cells [.int .i64 b.x0, .int .i64 b.y0, .int .i64 b.x1, .int .i64 b.y0, .int .i64 b.x1, .int .i64 b.y1, .int .i64 b.x0, .int .i64 b.y1] 152 1)).mk' (h'.next + 1) (.cells [.ptr 0 0] 150 0) := ⟨_, rfl⟩
    have kp : ∀ d, d < h'.next → H0.get d = h'.get d := fun d hd => by rw [eH0, Heap.get_mk, if_neg (by omega), Heap.get_put, if_neg (by omega), Heap.get_mk, if_neg (by omega)]
    have kM : H0.get (h'.next + 1) = some (.cells [.ptr 0 0] 150 0) := by rw [eH0, Heap.get_mk, if_pos rfl]
    rw [← eH0]
    refine ⟨by decide, (str1_cl g hv (M := h'.next + 1) (fb := 0) (e1 := 150) (n1 := 0) (e2 := 49) (n2 := v1) (a0 := .int .i64 id) ?_ ?_).mono fun _ h2 e => ?_⟩
    · rw [Heap.get_mk, if_neg (by omega)]; exact kM
    · rw [Heap.get_mk, if_neg (by omega), kp _ (by omega)]; exact k1
    rw [e]
    refine loopEnd_fresh rfl rfl fun H1 kq => ?_
    have j0 : H1.get 0 = some (.cells [.int .i64 id, .int .i64 0, v] 49 v1) := by rw [kq _ (by omega), kp _ (by omega)]; exact k1
    have j2 : H1.get 2 = some (.cells [.bool false] 4 v3) := by rw [kq _ (by omega), kp _ (by omega)]; exact k3
    have j3 : H1.get 3 = some (.cells [.int .i64 0] 30 v4) := by rw [kq _ (by omega), kp _ (by omega)]; exact k4
    simp only [j0, j2, j3, hi, HN, RW, RX, VOp.fresh, bxC, bsC, un, most, callsOf, seval, Int.reducePow, ↓reduceIte, Nat.reduceEqDiff, reduceCtorEq]
    exact ⟨_, .tup (.cons (.bool _) (.cons (.int _ _) .nil)), rfl⟩
  · obtain ⟨q, hq, hi⟩ := hyes
    obtain rfl : q = p := by simpa [fPts] using hq
    simp only [k1, k2, hi, RW, RX, VOp.fresh, bxC, bsC, un, most, callsOf, seval, Int.reducePow, ↓reduceIte, Nat.reduceEqDiff, reduceCtorEq]
    exact ⟨_, .tup (.cons (.bool _) (.cons (.int _ _) .nil)), rfl⟩
end
end Go.Proofs.YtpfpngmfooagiaaGreat.VM
namespace Go.Proofs.YtpfpngmfooagiaaGreat.VM
attribute [local irreducible] Af Nx EvO Ev Un Gd Cd EvR EvQ EvC Nc Gc Lp EvM NxM AfM GdM EvMR EvMQ EvMD EvMC Nm Gm
/-- slices.Insert, told -/
def insFX : Told := fun f args h => bif Nat.beq f 46 then
    match args with
    | [.sl b 0 n _ 3, .int .i64 (.ofNat i), .sl vb 0 1 1 3] => match h.get b, h.get vb with
      | some (.cells C _ _), some (.cells x _ _) => bif Nat.ble (n * 3) C.length && C.all AV.one && Nat.beq x.length 3 && x.all AV.one && Nat.ble i n && !(Nat.beq vb b) && Nat.ble n 999999 then
          some (.sl h.next 0 (n + 1) (n + 1) 3, (h.put b .dead).mk' h.next (.cells ((C.take (n * 3)).take (i * 3) ++ x ++ (C.take (n * 3)).drop (i * 3)) 49 0)) else none
      | _, _ => none
    | [.nils, .int .i64 (.ofNat 0), .sl vb 0 1 1 3] => match h.get vb with
      | some (.cells x _ _) => bif Nat.beq x.length 3 && x.all AV.one then some (.sl h.next 0 1 1 3, h.mk' h.next (.cells x 49 0)) else none
      | _ => none
    | _ => none
  else none
theorem insFX_ok {P : Program} (hins : InsF P 46 49) : CallOk P insFX := by
  intro f args h v h' e
  unfold insFX at e
  rw [T.beq_dec] at e
  by_cases hf : f = 46
  · rw [decide_eq_true hf, cond_true] at e
    subst hf
    split at e
    · split at e
      · rename_i b n cap i vb _ _ C e1 w1 x e2 w2 g1 g2
        cases hc : (Nat.ble (n * 3) C.length && C.all AV.one && Nat.beq x.length 3 && x.all AV.one && Nat.ble i n && !(Nat.beq vb b) && Nat.ble n 999999) with
        | false => rw [hc, cond_false] at e; cases e
        | true =>
          rw [hc, cond_true] at e
          cases e
          simp only [Bool.and_eq_true, Bool.not_eq_true', Nat.beq_eq, Nat.ble_eq] at hc
          obtain ⟨⟨⟨⟨⟨⟨a1, a2⟩, a3⟩, a4⟩, a5⟩, a6⟩, a7⟩ := hc
          obtain ⟨_, hh⟩ := hins a3 a4 g2
          exact hh g1 a1 a2 a5 (fun e => by rw [e, Nat.beq_refl] at a6; cases a6) (by omega)
      · cases e
    · split at e
      · rename_i vb _ x e2 w2 g2
        cases hc : (Nat.beq x.length 3 && x.all AV.one) with
        | false => rw [hc, cond_false] at e; cases e
        | true =>
          rw [hc, cond_true] at e
          cases e
          simp only [Bool.and_eq_true, Nat.beq_eq] at hc
          exact (hins hc.1 hc.2 g2).1
      · cases e
    · cases e
  · rw [decide_eq_false hf, cond_false] at e; cases e
def okI (x : Int) : Bool := decide (0 ≤ x) && decide (x ≤ 4294967295)
def okD (x : Int) : Bool := decide (1 ≤ x) && decide (x ≤ 65535)
/-- the box of a place, and whether a box has a place, told -/
def x24 : Told := fun f args h => bif Nat.beq f 95 then (match args with
    | [a] => (match fz true h 40 a with
      | some (.agg [.int .i64 id, .int .i64 0, .rs [.rs [.int .i64 x, .int .i64 y] 1] 1]) => bif okD id && okI x && okI y then some (.tup [.agg [.int .i64 x, .int .i64 y, .int .i64 x, .int .i64 y], .int .i64 0], h) else none
      | _ => none)
    | _ => none)
  else bif Nat.beq f 53 then (match args with
    | [a, .agg [.int .i64 x0, .int .i64 y0, .int .i64 x1, .int .i64 y1]] => (match fz true h 40 a with
      | some (.agg [.int .i64 id, .int .i64 0, .rs [.rs [.int .i64 x, .int .i64 y] 1] 1]) => bif okD id && okI x && okI y && decide (bOk ⟨x0, y0, x1, y1⟩) then some (.tup [.bool (decide (inB ⟨x, y⟩ ⟨x0, y0, x1, y1⟩)), .int .i64 0], h) else none
      | _ => none)
    | _ => none)
  else insFX f args h
theorem one_feat {id x y : Int} (h : (okD id && okI x && okI y) = true) : IsL 24 RRing (.rs [.rs [.int .i64 x, .int .i64 y] 1] 1) [[⟨x, y⟩]] ∧ featOk ⟨id, 0, [[⟨x, y⟩]]⟩ := by
  simp only [okD, okI, Bool.and_eq_true, decide_eq_true_eq] at h
  obtain ⟨⟨⟨h1, h2⟩, h3, h4⟩, h5, h6⟩ := h
  have hp : IsL 16 RPt (.rs [.int .i64 x, .int .i64 y] 1) [Pt.mk x y] := isL_rs (l := [Pt.mk x y]) (Cat.cons (c := [.int .i64 x, .int .i64 y]) (show RPt (Pt.mk x y) _ from ⟨rfl, ⟨by simp only; omega, by simp only; omega⟩, ⟨by simp only; omega, by simp only; omega⟩⟩) .nil) (by rw [reach_eq]; simp)
  have hr : IsL 24 RRing (.rs [.rs [.int .i64 x, .int .i64 y] 1] 1) [[Pt.mk x y]] := isL_rs (l := [[Pt.mk x y]]) (Cat.cons (c := [.rs [.int .i64 x, .int .i64 y] 1]) (show RRing [Pt.mk x y] _ from ⟨_, rfl, hp⟩) .nil) (by rw [reach_eq]; simp)
  refine ⟨hr, h1, h2, by simp, by simp, .inl ⟨rfl, by simp, by simp, ?_⟩⟩
  simp [ptOk, coordOk, h3, h4, h5, h6]
section
variable {P : Program} {F : Nat → Option VFun}
theorem Cl.exact {f : Nat} {args : List AV} {h h2 : Heap} {a : AV} (c : Cl P f args h fun v h' => v = a ∧ h' = h2) : OK P f args h a h2 := by
  obtain ⟨v, h', o, rfl, rfl⟩ := c
  exact o
theorem x24_ok (g : Pg P tab) (hins : InsF P 46 49) : CallOk P x24 := by
  intro f args h v h' e
  unfold x24 at e
  rw [T.beq_dec, T.beq_dec] at e
  by_cases hf : f = 95
  · rw [decide_eq_true hf, cond_true] at e
    subst hf
    split at e
    · split at e
      · rename_i a id x y hz
        cases hc : (okD id && okI x && okI y) with
        | false => rw [hc, cond_false] at e; cases e
        | true =>
          rw [hc, cond_true] at e
          cases e
          obtain ⟨hv, ho⟩ := one_feat hc
          refine Cl.exact (Pu.cl (R := fun v h' => v = _ ∧ h' = _) (box_pu g (f := Feat.mk id 0 [[⟨x, y⟩]]) hv) (.cons (fz_ok _ _ _ hz) .nil) fun w hw => And.intro ?_ rfl)
          rcases hw with ⟨hn, _⟩ | ⟨_, rfl⟩
          · exact absurd ho hn
          · have ie : ∀ x : Int, imn x x = x ∧ imx x x = x := fun x => by unfold imn imx; constructor <;> split <;> rfl
            simp [fBox, fPts, bxAll, bxJ, bxPt, aBx, ie]
      · cases e
    · cases e
  · rw [decide_eq_false hf, cond_false] at e
    by_cases hf2 : f = 53
    · rw [decide_eq_true hf2, cond_true] at e
      subst hf2
      split at e
      · split at e
        · rename_i a x0 y0 x1 y1 _ id x y hz
          cases hc : (okD id && okI x && okI y && decide (bOk ⟨x0, y0, x1, y1⟩)) with
          | false => rw [hc, cond_false] at e; cases e
          | true =>
            rw [hc, cond_true] at e
            cases e
            rw [Bool.and_eq_true] at hc
            obtain ⟨hv, ho⟩ := one_feat hc.1
            exact Cl.exact (Pu.cl (R := fun v h' => v = _ ∧ h' = _) (meets1_pu g hv ho (b := Bx.mk x0 y0 x1 y1) (of_decide_eq_true hc.2)) (.cons (fz_ok _ _ _ hz) (.cons (Fz.refl rfl) .nil)) fun w hw => And.intro hw rfl)
        · cases e
      · cases e
    · rw [decide_eq_false hf2, cond_false] at e
      exact insFX_ok hins f args h v h' e
theorem Pg.runX (g : Pg P F) {X : Told} (hX : CallOk P X) {n f : Nat} {args : List AV} {w : AV} (hv : (vcall F X n f args ⟨0, .e⟩).bind (fun r => fz false r.2 40 r.1) = some w) : Pu P f args (fun v => v = w) := by
  obtain ⟨⟨v, h'⟩, e1, e2⟩ := Option.bind_eq_some_iff.1 hv
  exact ⟨_, _, h', (vm_ok (drawn_ok g.hm) g.tb hX n).2.2 f args _ _ _ e1, fz_ok _ _ _ e2, rfl⟩
theorem awake24_pu (g : Pg P tab) (hins : InsF P 46 49) : Pu P 22 [] (fun v => v = .bool true) := g.runX (x24_ok g hins) (n := 1000) (by kernel_rfl)
end
end Go.Proofs.YtpfpngmfooagiaaGreat.VM
namespace Go.Proofs.YtpfpngmfooagiaaGreat.VM
attribute [local irreducible] Af Nx EvO Ev Un Gd Cd EvR EvQ EvC Nc Gc Lp EvM NxM AfM GdM EvMR EvMQ EvMD EvMC Nm Gm
theorem getD_mem {α : Type} {l : List α} {d x : α} : x ∈ l ↔ ∃ i, i < l.length ∧ l.getD i d = x := by
  constructor
  · intro h
    obtain ⟨i, hi, rfl⟩ := List.mem_iff_getElem.1 h
    exact ⟨i, hi, by simp [List.getD_eq_getElem?_getD, List.getElem?_eq_getElem hi]⟩
  · rintro ⟨i, hi, rfl⟩
    rw [show l.getD i d = l[i] by simp [List.getD_eq_getElem?_getD, List.getElem?_eq_getElem hi]]
    exact List.getElem_mem hi
end Go.Proofs.YtpfpngmfooagiaaGreat.VM
namespace Go.Proofs.YtpfpngmfooagiaaGreat.VM
attribute [local irreducible] Af Nx EvO Ev Un Gd Cd EvR EvQ EvC Nc Gc Lp EvM NxM AfM GdM EvMR EvMQ EvMD EvMC Nm Gm
theorem featsUp.ok {l : List Feat} (u : featsUp l) : ∀ f ∈ l, featOk f := by
  intro f hf
  obtain ⟨i, hi, rfl⟩ := (getD_mem (d := feat0)).1 hf
  exact (u i hi).1
end Go.Proofs.YtpfpngmfooagiaaGreat.VM
namespace Go.Proofs.YtpfpngmfooagiaaGreat.VM
attribute [local irreducible] Af Nx EvO Ev Un Gd Cd EvR EvQ EvC Nc Gc Lp EvM NxM AfM GdM EvMR EvMQ EvMD EvMC Nm Gm
section
variable {P : Program}
theorem lplace_loop (g : Pg P tab) {l : List Feat} {w : AV} (hw : IsL 32 RFeat w l) (x : Int) (n : Nat) :
    ∀ (i : Nat) (s : T AV) (hh : Heap) (k : List Fr) (Q : Ex → T AV → Heap → Prop), i + n = l.length → (∀ j, j < i → (l.getD j feat0).id ≠ x) → sg s 0 = w → sg s 1 = .int .i64 x → sg s 5 = .int .i64 i →
    (∀ s' h', (∀ f ∈ l, f.id ≠ x) → Un P k Q (.exit 0) s' h') → (∀ s' h' i, i < l.length → (l.getD i feat0).id = x → sg s' 4 = .int .i64 (i : Nat) → Un P k Q .ret s' h') → Lp P b24_0 s hh (Un P k Q) := by
  have hbd := hw.bound (by decide)
  induction n with
  | zero =>
    intro i s hh k Q hi hn h0 h1 h5 hK _
    refine g.lpe b24_0.eq_1 ?_
    have c1 : ¬ ((i : Int) < (l.length : Int)) := by omega
    simp only [h0, h5, hw.len, c1, RX, VOp.fresh, bxC, bsC, un, most, callsOf, seval, Int.reducePow, ↓reduceIte, Nat.reduceEqDiff, reduceCtorEq]
    refine hK _ _ fun f hf => ?_
    obtain ⟨j, hj, rfl⟩ := (getD_mem (d := feat0)).1 hf
    exact hn j (by omega)
  | succ n ih =>
    intro i s hh k Q hi hn h0 h1 h5 hK hT
    refine g.lpe b24_0.eq_1 ?_
    have c1 : (i : Int) < (l.length : Int) := by omega
    have w1 : IntKind.i64.wrap ((i : Int) + 1) = ((i + 1 : Nat) : Int) := by rw [w64 (by omega) (by omega)]; push_cast; rfl
    obtain ⟨x1, r1, i4, i2, i3, _, g1⟩ := getFeat hw i (by omega)
    by_cases e : (l.getD i feat0).id = x
    · simp only [h0, h1, h5, hw.len, c1, g1, e, RX, VOp.fresh, bxC, bsC, un, most, callsOf, seval, Int.reducePow, ↓reduceIte, Nat.reduceEqDiff, reduceCtorEq]
      refine hT _ _ i (by omega) e ?_
      simp only [sg_set, Nat.reduceEqDiff, ↓reduceIte]
    · simp only [h0, h1, h5, hw.len, c1, g1, e, w1, RX, VOp.fresh, bxC, bsC, un, most, callsOf, seval, Int.reducePow, ↓reduceIte, Nat.reduceEqDiff, reduceCtorEq]
      refine ih (i + 1) _ _ k Q (by omega) (fun j hj => ?_) ?_ ?_ ?_ hK hT
      · by_cases c : j = i
        · rw [c]; exact e
        · exact hn j (by omega)
      · simp only [h0, sg_set, Nat.reduceEqDiff, ↓reduceIte]
      · simp only [h1, sg_set, Nat.reduceEqDiff, ↓reduceIte]
      · simp only [sg_set, Nat.reduceEqDiff, ↓reduceIte]
/-- where a feature of an id stands -/
def IxL (l : List Feat) (x : Int) (v : AV) : Prop := (v = .int .i64 (-1) ∧ ∀ f ∈ l, f.id ≠ x) ∨ ∃ i : Nat, v = .int .i64 i ∧ i < l.length ∧ (l.getD i feat0).id = x
theorem lplace_pu (g : Pg P tab) {l : List Feat} {w : AV} (hw : IsL 32 RFeat w l) (x : Int) : Pu P 24 [w, .int .i64 x] (IxL l x) := by
  refine g.pu (vf := v24) rfl rfl ?_
  simp only [v24, RX, VOp.fresh, bxC, bsC, un, most, callsOf, seval, Int.reducePow, ↓reduceIte, Nat.reduceEqDiff, reduceCtorEq]
  refine lplace_loop g hw x l.length 0 _ _ _ _ (by omega) (fun j hj => by omega) ?_ ?_ ?_ (fun s' h' hn => ?_) fun s' h' i hi e t4 => ?_
  · simp only [sg_set, Nat.reduceEqDiff, ↓reduceIte]
  · simp only [sg_set, Nat.reduceEqDiff, ↓reduceIte]
  · simp only [sg_set, Nat.reduceEqDiff, ↓reduceIte]
    rfl
  · simp only [RX, VOp.fresh, bxC, bsC, un, most, callsOf, seval, Int.reducePow, ↓reduceIte, Nat.reduceEqDiff, reduceCtorEq]
    exact .inl ⟨rfl, hn⟩
  · simp only [t4, RX, VOp.fresh, bxC, bsC, un, most, callsOf, seval, Int.reducePow, ↓reduceIte, Nat.reduceEqDiff, reduceCtorEq]
    exact .inr ⟨i, rfl, hi, e⟩
end
end Go.Proofs.YtpfpngmfooagiaaGreat.VM
namespace Go.Proofs.YtpfpngmfooagiaaGreat.VM
attribute [local irreducible] Af Nx EvO Ev Un Gd Cd EvR EvQ EvC Nc Gc Lp EvM NxM AfM GdM EvMR EvMQ EvMD EvMC Nm Gm
section
variable {P : Program}
theorem meetsIn_pu (g : Pg P tab) {f : Feat} {b : Bx} {v : AV} (hv : IsL 24 RRing v f.rings) (ho : featOk f) (hb : bOk b) (hin : ∃ p ∈ fPts f, inB p b) : Pu P 53 [.agg [.int .i64 f.id, .int .i64 f.shape, v], aBx b] (fun w => w = .tup [.bool true, .int .i64 0]) := by
  refine g.pu (vf := v53) rfl rfl ?_
  simp only [v53, aBx, RW, RX, VOp.fresh, bxC, bsC, un, most, callsOf, seval, Int.reducePow, ↓reduceIte, Nat.reduceEqDiff, reduceCtorEq]
  refine (shapeMay_pu g hv).go (by simp [AV.tolds, AV.told, hv.told tRing]) ?_
  rintro _ ⟨q, rfl, hq⟩
  obtain rfl : q = true := hq.2 ho
  simp only [RW, RX, VOp.fresh, bxC, bsC, un, most, callsOf, seval, Int.reducePow, ↓reduceIte, Nat.reduceEqDiff, reduceCtorEq]
  refine (boxMay_pu g b.x0 b.y0 b.x1 b.y1).go rfl ?_
  rintro _ rfl
  have hb' : decide (bxOk b.x0 b.y0 b.x1 b.y1) = true := decide_eq_true hb
  rw [hb']
  simp only [RW, RX, VOp.fresh, bxC, bsC, un, most, callsOf, seval, Int.reducePow, ↓reduceIte, Nat.reduceEqDiff, reduceCtorEq]
  refine (pts_mk g).mono ?_
  rintro _ _ ⟨rfl, rfl⟩
  simp only [RW, RX, VOp.fresh, bxC, bsC, un, most, callsOf, seval, Int.reducePow, ↓reduceIte, Nat.reduceEqDiff, reduceCtorEq]
  refine meets_go g (f := f) (a0 := .int .i64 f.id) (a1 := .int .i64 f.shape) (fb := 0) (bb := 1) (qb := 2) (ib := 3) (M := 4) hv ho (b := b) ?_ ?_ ?_ ?_ (e1 := 150) (n1 := 0) ?_ (n2 := 0) ?_ (by decide) hb (n3 := 0) ?_ (n4 := 0) ?_ (n5 := 0) ?_ (fun h' v1 v2 v3 v4 k0 k1 k2 k3 k4 hno => ?_) fun h' v1 v2 k1 k2 hyes => ?_
  · simp only [sg_set, Nat.reduceEqDiff, ↓reduceIte]
  · simp only [sg_set, Nat.reduceEqDiff, ↓reduceIte]
  · simp only [sg_set, Nat.reduceEqDiff, ↓reduceIte]
  · rfl
  · rfl
  · rfl
  · rfl
  · rfl
  · rfl
  · obtain ⟨p, hp, hi⟩ := hin
    exact absurd hi (hno p hp)
  · simp only [k1, k2, RW, RX, VOp.fresh, bxC, bsC, un, most, callsOf, seval, Int.reducePow, ↓reduceIte, Nat.reduceEqDiff, reduceCtorEq]
    exact ⟨_, .tup (.cons (.bool _) (.cons (.int _ _) .nil)), rfl⟩
theorem window_loop (g : Pg P tab) {l : List Feat} {w : AV} (hw : IsL 32 RFeat w l) (hs : l.length ≤ 70000) {b : Bx} {M : Feat → Bool} (hM : ∀ f ∈ l, ∀ v, IsL 24 RRing v f.rings → Pu P 53 [.agg [.int .i64 f.id, .int .i64 f.shape, v], aBx b] (fun u => u = .tup [.bool (M f), .int .i64 0])) {h0 : Heap} {bb e ver : Nat} (gb : h0.get bb = some (.cells [.int .i64 b.x0, .int .i64 b.y0, .int .i64 b.x1, .int .i64 b.y1] e ver)) (hbb : bb < h0.next) (n : Nat) :
    ∀ (i : Nat) (t : List AV) (s : T AV) (h : Heap) (k : List Fr) (Q : Ex → T AV → Heap → Prop), i + n = l.length → Ext h0 h → LR h (h0.next ≤ ·) (sg s 6) 3 t ((l.take i).filter M).length → Cat RFeat ((l.take i).filter M) t → sg s 3 = .ptr bb 0 → sg s 19 = w → sg s 20 = .int .i64 l.length → sg s 21 = .int .i64 i →
    (∀ s' h' t', Ext h0 h' → LR h' (h0.next ≤ ·) (sg s' 6) 3 t' (l.filter M).length → Cat RFeat (l.filter M) t' → Un P k Q (.exit 0) s' h') → Lp P b14_0 s h (Un P k Q) := by
  induction n with
  | zero =>
    intro i t s h k Q hn x0 r c t3 t19 t20 t21 hQ
    refine g.lpe b14_0.eq_1 ?_
    obtain rfl : i = l.length := by omega
    have c1 : ¬ ((l.length : Int) < (l.length : Int)) := by omega
    simp only [t19, t20, t21, c1, RX, VOp.fresh, bxC, bsC, un, most, callsOf, seval, Int.reducePow, ↓reduceIte, Nat.reduceEqDiff, reduceCtorEq]
    rw [List.take_length] at c r
    refine hQ _ _ t x0 ?_ c
    simp only [sg_set, Nat.reduceEqDiff, ↓reduceIte]
    exact r
  | succ n ih =>
    intro i t s h k Q hn x0 r c t3 t19 t20 t21 hQ
    refine g.lpe b14_0.eq_1 ?_
    have c1 : (i : Int) < (l.length : Int) := by omega
    obtain ⟨x1, r1, i4, i2, i3, _, g1⟩ := getFeat hw i (by omega)
    have hgi : l.getD i feat0 = l[i] := by simp [List.getD_eq_getElem?_getD, List.getElem?_eq_getElem (show i < l.length by omega)]
    have hmem : l.getD i feat0 ∈ l := getD_mem.2 ⟨i, by omega, rfl⟩
    have hs1 : l.take (i + 1) = l.take i ++ [l.getD i feat0] := by rw [hgi]; exact List.take_succ_eq_append_getElem (by omega)
    have hlen : ((l.take i).filter M).length ≤ 70000 := by
      have := List.length_filter_le M (l.take i)
      rw [List.length_take] at this
      omega
    have hMf := hM _ hmem
    have w1 : IntKind.i64.wrap ((i : Int) + 1) = ((i + 1 : Nat) : Int) := by rw [w64 (by omega) (by omega)]; push_cast; rfl
    have o1 := isL_one i4
    generalize l.getD i feat0 = f at *
    have ef : (l.take (i + 1)).filter M = (l.take i).filter M ++ (if M f then [f] else []) := by
      rw [hs1, List.filter_append]
      cases hm : M f <;> simp [hm]
    generalize hF : (l.take i).filter M = F at *
    simp only [t3, t19, t20, t21, c1, g1, o1, HN, RW, RX, VOp.fresh, bxC, bsC, un, most, callsOf, seval, Int.reducePow, ↓reduceIte, Nat.reduceEqDiff, reduceCtorEq]
    have y1 := Ext.new (h := h) (o := .cells [.int .i64 0, .int .i64 0, .nils] 49 0) (o' := .cells [.int .i64 f.id, .int .i64 f.shape, x1] 49 1)
    have g0 : ((h.mk' h.next (.cells [.int .i64 0, .int .i64 0, .nils] 49 0)).put h.next (.cells [.int .i64 f.id, .int .i64 f.shape, x1] 49 1)).get h.next = some (.cells [.int .i64 f.id, .int .i64 f.shape, x1] 49 1) := by rw [Heap.get_put, if_pos rfl]
    have gb1 := ((y1.2 bb (Nat.lt_of_lt_of_le hbb x0.1)).trans (x0.2 bb hbb)).trans gb
    have hbn : ¬ bb = h.next := by have := x0.1; omega
    generalize (h.mk' h.next (.cells [.int .i64 0, .int .i64 0, .nils] 49 0)).put h.next (.cells [.int .i64 f.id, .int .i64 f.shape, x1] 49 1) = h1 at *
    have gb2 := (x0.2 bb hbb).trans gb
    simp only [gb1, gb2, hbn, RX, VOp.fresh, bxC, bsC, un, most, callsOf, seval, Int.reducePow, ↓reduceIte, Nat.reduceEqDiff, reduceCtorEq]
    refine (hMf x1 i4).go (by simp [AV.tolds, AV.told, aBx, i4.told tRing]) ?_
    rintro _ rfl
    have r1 : LR h1 (h0.next ≤ ·) (sg s 6) 3 t F.length := r.frame y1.1 fun b _ hb => y1.2 b hb
    have x1' : Ext h0 h1 := x0.trans y1
    have nxt : ∀ (s' : T AV) (h' : Heap) (t' : List AV), Ext h0 h' → LR h' (h0.next ≤ ·) (sg s' 6) 3 t' (F ++ (if M f then [f] else [])).length → Cat RFeat (F ++ (if M f then [f] else [])) t' → sg s' 3 = .ptr bb 0 → sg s' 19 = w → sg s' 20 = .int .i64 l.length → sg s' 21 = .int .i64 ((i + 1 : Nat) : Int) → Lp P b14_0 s' h' (Un P k Q) := fun s' h' t' a1 a2 a3 a4 a5 a6 a7 =>
      ih (i + 1) t' s' h' k Q (by omega) a1 (by rw [ef]; exact a2) (by rw [ef]; exact a3) a4 a5 a6 a7 hQ
    clear ih
    cases hm : M f with
    | false =>
      simp only [hm, Bool.false_eq_true, if_false, List.append_nil] at nxt
      simp only [t21, w1, RX, VOp.fresh, bxC, bsC, un, most, callsOf, seval, Int.reducePow, ↓reduceIte, Nat.reduceEqDiff, reduceCtorEq]
      refine nxt _ h1 t x1' ?_ c ?_ ?_ ?_ ?_
      · simp only [sg_set, Nat.reduceEqDiff, ↓reduceIte]
        exact r1
      · simp only [t3, sg_set, Nat.reduceEqDiff, ↓reduceIte]
      · simp only [t19, sg_set, Nat.reduceEqDiff, ↓reduceIte]
      · simp only [t20, sg_set, Nat.reduceEqDiff, ↓reduceIte]
      · simp only [sg_set, Nat.reduceEqDiff, ↓reduceIte]
    | true =>
      simp only [hm, if_true] at nxt
      simp only [g0, HN, RW, RX, VOp.fresh, bxC, bsC, un, most, callsOf, seval, Int.reducePow, ↓reduceIte, Nat.reduceEqDiff, reduceCtorEq]
      refine fcopy_cl g (f := f) ⟨x1, rfl, i2, i3, i4⟩ fun c' t1 h2 lv rf hl ho x2 => ?_
      obtain ⟨a1, a2, a3, rfl⟩ := len3 hl
      have ho1 : a1.one = true := by simp at ho; exact ho.1
      have ho2 : a2.one = true := by simp at ho; exact ho.2.1
      have ho3 : a3.one = true := by simp at ho; exact ho.2.2
      have y3 := Ext.mk (h := h2) (.cells [a1, a2, a3] 49 0)
      have n3 : (h2.mk' h2.next (.cells [a1, a2, a3] 49 0)).next = h2.next + 1 := by rw [mk_next]; omega
      have hn0 : h0.next ≤ h2.next := Nat.le_trans x1'.1 x2.1
      have r3 : LR (h2.mk' h2.next (.cells [a1, a2, a3] 49 0)) (h0.next ≤ ·) (sg s 6) 3 t F.length := r1.frame (Nat.le_trans x2.1 y3.1) fun b _ hb => (y3.2 b (Nat.lt_of_lt_of_le hb x2.1)).trans (x2.2 b hb)
      have q1 := x1'.1
      have q2 := x2.1
      obtain ⟨h4, p4, r4, n4, k4⟩ := r3.push (nb := h2.next) (eb := 49) (vb := 0) (c := [a1, a2, a3]) (t1 := t1) (by rw [Heap.get_mk, if_pos rfl]) rfl ho ((lv.frame y3.1 fun b _ hb => y3.2 b hb).weak fun b hb hl2 => ⟨by omega, fun hc => by have := r1.lt b hc; omega⟩) (by rw [n3]; omega) (bytes := 40) (by unfold most2; omega) 49
      rw [n3] at p4 r4 n4 k4
      have x4 : Ext h0 h4 := ⟨by omega, fun b hb => by
        rw [k4 b (fun hc => by have := r1.inB b hc; omega) (by omega), y3.2 b (by omega), x2.2 b (by omega)]
        exact x1'.2 b hb⟩
      simp only [t21, ho1, ho2, ho3, p4, w1, HN, RW, RX, VOp.fresh, bxC, bsC, un, most, callsOf, seval, Int.reducePow, ↓reduceIte, Nat.reduceEqDiff, reduceCtorEq]
      refine nxt _ h4 (t ++ t1) x4 ?_ (c.append (by simpa using Cat.cons rf .nil)) ?_ ?_ ?_ ?_
      · simp only [sg_set, Nat.reduceEqDiff, ↓reduceIte]
        rw [List.length_append]
        exact r4
      · simp only [t3, sg_set, Nat.reduceEqDiff, ↓reduceIte]
      · simp only [t19, sg_set, Nat.reduceEqDiff, ↓reduceIte]
      · simp only [t20, sg_set, Nat.reduceEqDiff, ↓reduceIte]
      · simp only [sg_set, Nat.reduceEqDiff, ↓reduceIte]
theorem window_cl (g : Pg P tab) {l : List Feat} {w : AV} (hw : IsL 32 RFeat w l) {b : Bx} {M : Feat → Bool} (hM : bOk b → ∀ f ∈ l, featOk f → ∀ v, IsL 24 RRing v f.rings → Pu P 53 [.agg [.int .i64 f.id, .int .i64 f.shape, v], aBx b] (fun u => u = .tup [.bool (M f), .int .i64 0])) {h : Heap} {Q : AV → Heap → Prop}
    (qN : ∀ h', Ext h h' → ¬ (featsUp l ∧ bOk b) → Q (.tup [.nils, .int .i64 2400]) h') (qY : ∀ v h', featsUp l → bOk b → OutR h' h.next v (l.filter M) → Ext h h' → Q (.tup [v, .int .i64 0]) h') : Cl P 14 [w, aBx b] h Q := by
  refine g.cl (vf := v14) rfl rfl ?_
  simp only [v14, aBx, HN, RW, RX, VOp.fresh, bxC, bsC, un, most, callsOf, seval, Int.reducePow, ↓reduceIte, Nat.reduceEqDiff, reduceCtorEq]
  have y1 := Ext.mk (h := h) (.cells [.int .i64 b.x0, .int .i64 b.y0, .int .i64 b.x1, .int .i64 b.y1] 25 0)
  have g0 : (h.mk' h.next (.cells [.int .i64 b.x0, .int .i64 b.y0, .int .i64 b.x1, .int .i64 b.y1] 25 0)).get h.next = some (.cells [.int .i64 b.x0, .int .i64 b.y0, .int .i64 b.x1, .int .i64 b.y1] 25 0) := by rw [Heap.get_mk, if_pos rfl]
  have n1 : (h.mk' h.next (.cells [.int .i64 b.x0, .int .i64 b.y0, .int .i64 b.x1, .int .i64 b.y1] 25 0)).next = h.next + 1 := by rw [mk_next]; omega
  generalize h.mk' h.next (.cells [.int .i64 b.x0, .int .i64 b.y0, .int .i64 b.x1, .int .i64 b.y1] 25 0) = h1 at *
  refine (rising_pu g hw).go (by simp [AV.tolds, AV.told, hw.told tFeat]) ?_
  rintro _ ⟨q, rfl, hq⟩
  cases q with
  | false =>
    simp only [HN, RW, RX, VOp.fresh, bxC, bsC, un, most, callsOf, seval, Int.reducePow, ↓reduceIte, Nat.reduceEqDiff, reduceCtorEq]
    exact qN _ y1 fun c => by have := hq.2 c.1; cases this
  | true =>
    have u := hq.1 rfl
    have hlen := featsUp_len u
    simp only [g0, HN, RW, RX, VOp.fresh, bxC, bsC, un, most, callsOf, seval, Int.reducePow, ↓reduceIte, Nat.reduceEqDiff, reduceCtorEq]
    refine (boxMay_pu g b.x0 b.y0 b.x1 b.y1).go rfl ?_
    rintro _ rfl
    by_cases hb : bOk b
    · have hb' : decide (bxOk b.x0 b.y0 b.x1 b.y1) = true := decide_eq_true hb
      rw [hb']
      simp only [hw.len, RX, VOp.fresh, bxC, bsC, un, most, callsOf, seval, Int.reducePow, ↓reduceIte, Nat.reduceEqDiff, reduceCtorEq]
      refine window_loop g hw (by omega) (b := b) (M := M) (fun f hf v hv => hM hb f hf (u.ok f hf) v hv) (h0 := h1) (bb := h.next) (e := 25) (ver := 0) g0 (by omega) l.length 0 [] _ h1 _ _ (by omega) (Ext.refl _) ?_ (by simpa using Cat.nil) ?_ ?_ ?_ ?_ fun s' h' t' x' r c => ?_
      · simp only [sg_set, Nat.reduceEqDiff, ↓reduceIte]
        exact LR.nil _ _ _
      · simp only [sg_set, Nat.reduceEqDiff, ↓reduceIte]
      · simp only [sg_set, Nat.reduceEqDiff, ↓reduceIte]
      · simp only [sg_set, Nat.reduceEqDiff, ↓reduceIte]
      · simp only [sg_set, Nat.reduceEqDiff, ↓reduceIte]
        rfl
      · have ro := r.one
        simp only [ro, RX, VOp.fresh, bxC, bsC, un, most, callsOf, seval, Int.reducePow, ↓reduceIte, Nat.reduceEqDiff, reduceCtorEq]
        refine qY _ _ u hb (OutR.of ((r.weak fun b hb _ => by omega)) c) (y1.trans x')
    · have hb' : decide (bxOk b.x0 b.y0 b.x1 b.y1) = false := decide_eq_false hb
      rw [hb']
      simp only [HN, RW, RX, VOp.fresh, bxC, bsC, un, most, callsOf, seval, Int.reducePow, ↓reduceIte, Nat.reduceEqDiff, reduceCtorEq]
      exact qN _ y1 fun c => hb c.2
end
end Go.Proofs.YtpfpngmfooagiaaGreat.VM
namespace Go.Proofs.YtpfpngmfooagiaaGreat.VM
attribute [local irreducible] Af Nx EvO Ev Un Gd Cd EvR EvQ EvC Nc Gc Lp EvM NxM AfM GdM EvMR EvMQ EvMD EvMC Nm Gm
theorem and32 {x : Nat} (hx : x < 18446744073709551616) : bitsOf .and .u64 (x : Int) 4294967295 = ((x % 4294967296 : Nat) : Int) := by
  have e1 : ((x : Int) % 2 ^ IntKind.bits .u64).toNat = x := by
    have : (2 : Int) ^ IntKind.bits .u64 = 18446744073709551616 := rfl
    rw [this]; omega
  have e2 : ((4294967295 : Int) % 2 ^ IntKind.bits .u64).toNat = 4294967295 := by decide
  show IntKind.u64.wrap ((Nat.land ((x : Int) % 2 ^ IntKind.bits .u64).toNat ((4294967295 : Int) % 2 ^ IntKind.bits .u64).toNat : Nat) : Int) = _
  rw [e1, e2]
  have h : Nat.land x 4294967295 = x % 4294967296 := Nat.and_two_pow_sub_one_eq_mod x 32
  rw [h]
  exact wu64 (by omega) (by omega)
theorem or32 {a b : Nat} (ha : a < 4294967296) (hb : b < 4294967296) : bitsOf .or .u64 ((a * 4294967296 : Nat) : Int) (b : Int) = ((a * 4294967296 + b : Nat) : Int) := by
  have e1 : (((a * 4294967296 : Nat) : Int) % 2 ^ IntKind.bits .u64).toNat = a * 4294967296 := by
    have : (2 : Int) ^ IntKind.bits .u64 = 18446744073709551616 := rfl
    rw [this]; omega
  have e2 : ((b : Int) % 2 ^ IntKind.bits .u64).toNat = b := by
    have : (2 : Int) ^ IntKind.bits .u64 = 18446744073709551616 := rfl
    rw [this]; omega
  show IntKind.u64.wrap ((Nat.lor (((a * 4294967296 : Nat) : Int) % 2 ^ IntKind.bits .u64).toNat ((b : Int) % 2 ^ IntKind.bits .u64).toNat : Nat) : Int) = _
  rw [e1, e2]
  have h : Nat.lor (a * 4294967296) b = a * 4294967296 + b := by
    have := Nat.shiftLeft_add_eq_or_of_lt (i := 32) (b := b) (by omega) a
    rw [Nat.shiftLeft_eq] at this
    exact this.symm
  rw [h]
  exact wu64 (by omega) (by omega)
section
variable {P : Program}
theorem mul_pu (g : Pg P tab) {A : Nat} (hA : A < 4294967296) : Pu P 175 [.int .u64 A, .int .u64 A] (fun v => v = .agg [.int .u64 0, .int .u64 ((A * A : Nat) : Int)]) := by
  refine g.pu (vf := v175) rfl rfl ?_
  have hAA : A * A < 18446744073709551616 := by
    have : A * A ≤ 4294967295 * 4294967295 := Nat.mul_le_mul (by omega) (by omega)
    omega
  have a1 := and32 (x := A) (by omega)
  rw [Nat.mod_eq_of_lt hA] at a1
  obtain ⟨S, hS⟩ : ∃ S, S = A * A := ⟨_, rfl⟩
  rw [← hS] at hAA ⊢
  have z : (A : Int) / 4294967296 = 0 := by omega
  have s1 : IntKind.u64.wrap ((A : Int) * (A : Int)) = (S : Int) := by
    have : (A : Int) * (A : Int) = (S : Int) := by rw [hS]; push_cast; rfl
    rw [this]; exact wu64 (by omega) (by omega)
  obtain ⟨q, hq⟩ : ∃ q, q = S / 4294967296 := ⟨_, rfl⟩
  have hq1 : q < 4294967296 := by omega
  have s2 : (S : Int) / 4294967296 = (q : Int) := by omega
  have s3 : (q : Int) / 4294967296 = 0 := by omega
  have w0 : IntKind.u64.wrap 0 = 0 := wu64 (by decide) (by decide)
  have wq : IntKind.u64.wrap (q : Int) = (q : Int) := wu64 (by omega) (by omega)
  have aq := and32 (x := q) (by omega)
  rw [Nat.mod_eq_of_lt hq1] at aq
  have aS := and32 (x := S) hAA
  have wm : IntKind.u64.wrap ((q : Int) * 4294967296) = ((q * 4294967296 : Nat) : Int) := by
    rw [wu64 (by omega) (by omega)]; omega
  have oo := or32 (a := q) (b := S % 4294967296) hq1 (by omega)
  have fin : q * 4294967296 + S % 4294967296 = S := by omega
  rw [fin] at oo
  simp only [v175, a1, z, s1, s2, s3, w0, wq, aq, aS, wm, oo, Int.zero_mul, Int.mul_zero, Int.zero_add, Int.add_zero, HN, RW, RX, VOp.fresh, bxC, bsC, un, most, callsOf, seval, Int.reducePow, ↓reduceIte, Nat.reduceEqDiff, reduceCtorEq]
  exact ⟨_, .agg (scals_fz rfl), rfl⟩
/-- a number of two parts -/
def cW (n : Nat) : AV := .agg [.int .u64 ((n / 18446744073709551616 : Nat) : Int), .int .u64 ((n % 18446744073709551616 : Nat) : Int)]
theorem add_pu (g : Pg P tab) {u v : Nat} (hu : u < 18446744073709551616) (hv : v < 18446744073709551616) : Pu P 174 [.agg [.int .u64 0, .int .u64 u], .agg [.int .u64 0, .int .u64 v]] (fun w => w = .tup [cW (u + v), .bool true]) := by
  refine g.pu (vf := v174) rfl rfl ?_
  have wr : IntKind.u64.wrap ((u : Int) + (v : Int)) = (((u + v) % 18446744073709551616 : Nat) : Int) := by
    rw [IntKind.wrap_u64]; omega
  by_cases hc : u + v < 18446744073709551616
  · have e1 : (u + v) % 18446744073709551616 = u + v := Nat.mod_eq_of_lt hc
    have e2 : (u + v) / 18446744073709551616 = 0 := Nat.div_eq_of_lt hc
    rw [e1] at wr
    have c1 : ¬ (((u + v : Nat) : Int) < (u : Int)) := by omega
    simp only [v174, wr, c1, cW, e1, e2, HN, RW, RX, VOp.fresh, bxC, bsC, un, most, callsOf, seval, Int.reducePow, ↓reduceIte, Nat.reduceEqDiff, reduceCtorEq]
    exact ⟨_, .tup (.cons (.agg (scals_fz rfl)) (.cons (.bool _) .nil)), rfl⟩
  · obtain ⟨m, hm⟩ : ∃ m, m = (u + v) % 18446744073709551616 := ⟨_, rfl⟩
    have e2 : (u + v) / 18446744073709551616 = 1 := by omega
    have c1 : ((m : Nat) : Int) < (u : Int) := by omega
    have w1 : IntKind.u64.wrap 1 = 1 := wu64 (by decide) (by decide)
    rw [← hm] at wr
    simp only [v174, wr, c1, cW, ← hm, e2, HN, RW, RX, VOp.fresh, bxC, bsC, un, most, callsOf, seval, Int.reducePow, ↓reduceIte, Nat.reduceEqDiff, reduceCtorEq]
    exact ⟨_, .tup (.cons (.agg (scals_fz rfl)) (.cons (.bool _) .nil)), rfl⟩
theorem rmul_pu (g : Pg P tab) {A : Nat} (hA : A < 4294967296) : Pu P 101 [.int .u64 A, .int .u64 A] (fun v => v = .agg [.int .u64 0, .int .u64 ((A * A : Nat) : Int)]) := by
  refine g.pu (vf := v101) rfl rfl ?_
  have hAA : A * A < 18446744073709551616 := by
    have : A * A ≤ 4294967295 * 4294967295 := Nat.mul_le_mul (by omega) (by omega)
    omega
  have a1 := and32 (x := A) (by omega)
  rw [Nat.mod_eq_of_lt hA] at a1
  obtain ⟨S, hS⟩ : ∃ S, S = A * A := ⟨_, rfl⟩
  rw [← hS] at hAA ⊢
  have z : (A : Int) / 4294967296 = 0 := by omega
  have s1 : IntKind.u64.wrap ((A : Int) * (A : Int)) = (S : Int) := by
    have : (A : Int) * (A : Int) = (S : Int) := by rw [hS]; push_cast; rfl
    rw [this]; exact wu64 (by omega) (by omega)
  obtain ⟨q, hq⟩ : ∃ q, q = S / 4294967296 := ⟨_, rfl⟩
  have hq1 : q < 4294967296 := by omega
  have s2 : (S : Int) / 4294967296 = (q : Int) := by omega
  have s3 : (q : Int) / 4294967296 = 0 := by omega
  have w0 : IntKind.u64.wrap 0 = 0 := wu64 (by decide) (by decide)
  have wq : IntKind.u64.wrap (q : Int) = (q : Int) := wu64 (by omega) (by omega)
  have aq := and32 (x := q) (by omega)
  rw [Nat.mod_eq_of_lt hq1] at aq
  have aS := and32 (x := S) hAA
  have wm : IntKind.u64.wrap ((q : Int) * 4294967296) = ((q * 4294967296 : Nat) : Int) := by
    rw [wu64 (by omega) (by omega)]; omega
  have a00 : bitsOf .and .u64 0 4294967295 = 0 := and32 (x := 0) (by decide)
  have oo := or32 (a := q) (b := S % 4294967296) hq1 (by omega)
  have fin : q * 4294967296 + S % 4294967296 = S := by omega
  rw [fin] at oo
  simp only [v101, a1, a00, z, s1, s2, s3, w0, wq, aq, aS, wm, oo, Int.zero_mul, Int.mul_zero, Int.zero_add, Int.add_zero, HN, RW, RX, VOp.fresh, bxC, bsC, un, most, callsOf, seval, Int.reducePow, ↓reduceIte, Nat.reduceEqDiff, reduceCtorEq]
  exact ⟨_, .agg (scals_fz rfl), rfl⟩
theorem radd_pu (g : Pg P tab) {u v : Nat} (hu : u < 18446744073709551616) (hv : v < 18446744073709551616) : Pu P 100 [.agg [.int .u64 0, .int .u64 u], .agg [.int .u64 0, .int .u64 v]] (fun w => w = .tup [cW (u + v), .bool true]) := by
  refine g.pu (vf := v100) rfl rfl ?_
  have wr : IntKind.u64.wrap ((u : Int) + (v : Int)) = (((u + v) % 18446744073709551616 : Nat) : Int) := by
    rw [IntKind.wrap_u64]; omega
  by_cases hc : u + v < 18446744073709551616
  · have e1 : (u + v) % 18446744073709551616 = u + v := Nat.mod_eq_of_lt hc
    have e2 : (u + v) / 18446744073709551616 = 0 := Nat.div_eq_of_lt hc
    rw [e1] at wr
    have c1 : ¬ (((u + v : Nat) : Int) < (u : Int)) := by omega
    simp only [v100, wr, c1, cW, e1, e2, HN, RW, RX, VOp.fresh, bxC, bsC, un, most, callsOf, seval, Int.reducePow, ↓reduceIte, Nat.reduceEqDiff, reduceCtorEq]
    exact ⟨_, .tup (.cons (.agg (scals_fz rfl)) (.cons (.bool _) .nil)), rfl⟩
  · obtain ⟨m, hm⟩ : ∃ m, m = (u + v) % 18446744073709551616 := ⟨_, rfl⟩
    have e2 : (u + v) / 18446744073709551616 = 1 := by omega
    have c1 : ((m : Nat) : Int) < (u : Int) := by omega
    have w1 : IntKind.u64.wrap 1 = 1 := wu64 (by decide) (by decide)
    rw [← hm] at wr
    simp only [v100, wr, c1, cW, ← hm, e2, HN, RW, RX, VOp.fresh, bxC, bsC, un, most, callsOf, seval, Int.reducePow, ↓reduceIte, Nat.reduceEqDiff, reduceCtorEq]
    exact ⟨_, .tup (.cons (.agg (scals_fz rfl)) (.cons (.bool _) .nil)), rfl⟩
def imx3 (x y : Int) : Int := imx (imx x 0) y
theorem fmax3 {k : IntKind} {x y : Int} : foldO max2 (.int k x) [.int k 0, .int k y] = some (.int k (imx3 x y)) := rfl
def dxN (p : Pt) (b : Bx) : Nat := (imx3 (b.x0 - p.x) (p.x - b.x1)).toNat
def dyN (p : Pt) (b : Bx) : Nat := (imx3 (b.y0 - p.y) (p.y - b.y1)).toNat
def farN (p : Pt) (b : Bx) : Nat := dxN p b * dxN p b + dyN p b * dyN p b
theorem imx3_at {x y : Int} (hx : x ≤ 4294967295) (hy : y ≤ 4294967295) : 0 ≤ imx3 x y ∧ imx3 x y ≤ 4294967295 := by
  unfold imx3 imx
  split <;> split <;> omega
theorem far_pu (g : Pg P tab) {p : Pt} {b : Bx} (hp : ptOk p) (hb : bOk b) : Pu P 142 [aPt p, aBx b] (fun v => v = .tup [cW (farN p b), .int .i64 0]) := by
  refine g.pu (vf := v142) rfl rfl ?_
  simp only [v142, aPt, aBx, HN, RW, RX, VOp.fresh, bxC, bsC, un, most, callsOf, seval, Int.reducePow, ↓reduceIte, Nat.reduceEqDiff, reduceCtorEq]
  refine (pointMay_pu g p).go rfl ?_
  rintro _ rfl
  have hp' : decide (ptOk p) = true := decide_eq_true hp
  rw [hp']
  simp only [HN, RW, RX, VOp.fresh, bxC, bsC, un, most, callsOf, seval, Int.reducePow, ↓reduceIte, Nat.reduceEqDiff, reduceCtorEq]
  refine (boxMay_pu g b.x0 b.y0 b.x1 b.y1).go rfl ?_
  rintro _ rfl
  have hb' : decide (bxOk b.x0 b.y0 b.x1 b.y1) = true := decide_eq_true hb
  rw [hb']
  have hb2 := hb
  have hp2 := hp
  unfold bOk bxOk at hb2
  unfold ptOk coordOk at hp2
  have m1 := imx3_at (x := b.x0 - p.x) (y := p.x - b.x1) (by omega) (by omega)
  have m2 := imx3_at (x := b.y0 - p.y) (y := p.y - b.y1) (by omega) (by omega)
  have v1 : IntKind.i64.wrap (b.x0 - p.x) = b.x0 - p.x := w64 (by omega) (by omega)
  have v2 : IntKind.i64.wrap (p.x - b.x1) = p.x - b.x1 := w64 (by omega) (by omega)
  have v3 : IntKind.i64.wrap (b.y0 - p.y) = b.y0 - p.y := w64 (by omega) (by omega)
  have v4 : IntKind.i64.wrap (p.y - b.y1) = p.y - b.y1 := w64 (by omega) (by omega)
  obtain ⟨dx, hdx⟩ : ∃ dx, dx = dxN p b := ⟨_, rfl⟩
  obtain ⟨dy, hdy⟩ : ∃ dy, dy = dyN p b := ⟨_, rfl⟩
  have u1 : IntKind.u64.wrap (imx3 (b.x0 - p.x) (p.x - b.x1)) = (dx : Int) := by
    rw [hdx, dxN, wu64 (by omega) (by omega)]; omega
  have u2 : IntKind.u64.wrap (imx3 (b.y0 - p.y) (p.y - b.y1)) = (dy : Int) := by
    rw [hdy, dyN, wu64 (by omega) (by omega)]; omega
  have lx : dx < 4294967296 := by rw [hdx, dxN]; omega
  have ly : dy < 4294967296 := by rw [hdy, dyN]; omega
  have ef : farN p b = dx * dx + dy * dy := by rw [farN, hdx, hdy]
  have hX : dx * dx < 18446744073709551616 := by
    have : dx * dx ≤ 4294967295 * 4294967295 := Nat.mul_le_mul (by omega) (by omega)
    omega
  have hY : dy * dy < 18446744073709551616 := by
    have : dy * dy ≤ 4294967295 * 4294967295 := Nat.mul_le_mul (by omega) (by omega)
    omega
  rw [ef]
  clear hdx hdy ef
  simp only [v1, v2, v3, v4, fmax3, u1, u2, HN, RW, RX, VOp.fresh, bxC, bsC, un, most, callsOf, seval, Int.reducePow, ↓reduceIte, Nat.reduceEqDiff, reduceCtorEq]
  refine (mul_pu g lx).go rfl ?_
  rintro _ rfl
  simp only [RX, VOp.fresh, bxC, bsC, un, most, callsOf, seval, Int.reducePow, ↓reduceIte, Nat.reduceEqDiff, reduceCtorEq]
  refine (mul_pu g ly).go rfl ?_
  rintro _ rfl
  simp only [RX, VOp.fresh, bxC, bsC, un, most, callsOf, seval, Int.reducePow, ↓reduceIte, Nat.reduceEqDiff, reduceCtorEq]
  refine (add_pu g hX hY).go rfl ?_
  rintro _ rfl
  simp only [cW, HN, RW, RX, VOp.fresh, bxC, bsC, un, most, callsOf, seval, Int.reducePow, ↓reduceIte, Nat.reduceEqDiff, reduceCtorEq]
  exact ⟨_, .tup (.cons (.agg (scals_fz rfl)) (.cons (.int _ _) .nil)), rfl⟩
end
end Go.Proofs.YtpfpngmfooagiaaGreat.VM
namespace Go.Proofs.YtpfpngmfooagiaaGreat.VM
attribute [local irreducible] Af Nx EvO Ev Un Gd Cd EvR EvQ EvC Nc Gc Lp EvM NxM AfM GdM EvMR EvMQ EvMD EvMC Nm Gm
section
variable {P : Program}
theorem dpoint_pu (g : Pg P tab) (x y : Int) : Pu P 23 [.agg [.int .i64 x, .int .i64 y]] (fun v => v = .bool (decide (0 ≤ x ∧ x ≤ 4294967295 ∧ 0 ≤ y ∧ y ≤ 4294967295))) := by
  refine g.pu (vf := v23) rfl rfl ?_
  simp +contextual (maxSteps := 2000000) (disch := omega) only [v23, RX, VOp.fresh, bxC, bsC, un, most, callsOf, seval, Int.reducePow, ↓reduceIte, Nat.reduceEqDiff, reduceCtorEq]
theorem dboxMay_pu (g : Pg P tab) (a b c d : Int) : Pu P 37 [.agg [.int .i64 a, .int .i64 b, .int .i64 c, .int .i64 d]] (fun v => v = .bool (decide (bxOk a b c d))) := by
  refine g.pu (vf := v37) rfl rfl ?_
  simp only [v37, RX, VOp.fresh, bxC, bsC, un, most, callsOf, seval, Int.reducePow, ↓reduceIte, Nat.reduceEqDiff, reduceCtorEq]
  refine (dpoint_pu g _ _).go rfl ?_
  rintro v rfl
  by_cases h1 : 0 ≤ a ∧ a ≤ 4294967295 ∧ 0 ≤ b ∧ b ≤ 4294967295
  · simp only [h1, RX, VOp.fresh, bxC, bsC, un, most, callsOf, seval, Int.reducePow, ↓reduceIte, Nat.reduceEqDiff, reduceCtorEq]
    refine (dpoint_pu g _ _).go rfl ?_
    rintro v rfl
    by_cases h2 : 0 ≤ c ∧ c ≤ 4294967295 ∧ 0 ≤ d ∧ d ≤ 4294967295
    · simp +contextual (maxSteps := 2000000) only [h1, h2, bxOk, RX, VOp.fresh, bxC, bsC, un, most, callsOf, seval, Int.reducePow, ↓reduceIte, Nat.reduceEqDiff, reduceCtorEq]
    · have f : ¬ bxOk a b c d := fun z => by unfold bxOk at z; omega
      simp only [h2, f, RX, VOp.fresh, bxC, bsC, un, most, callsOf, seval, Int.reducePow, ↓reduceIte, Nat.reduceEqDiff, reduceCtorEq]
  · have f : ¬ bxOk a b c d := fun z => by unfold bxOk at z; omega
    simp only [h1, f, RX, VOp.fresh, bxC, bsC, un, most, callsOf, seval, Int.reducePow, ↓reduceIte, Nat.reduceEqDiff, reduceCtorEq]
theorem rPoint_pu (g : Pg P tab) (p : Pt) : Pu P 23 [.agg [.int .i64 p.x, .int .i64 p.y]] (IsB (ptOk p)) := by
  refine g.pu (vf := v23) rfl rfl ?_
  simp +contextual (maxSteps := 2000000) (disch := omega) only [v23, ptOk, coordOk, and_assoc, RX, VOp.fresh, bxC, bsC, un, most, callsOf, seval, Int.reducePow, ↓reduceIte, Nat.reduceEqDiff, reduceCtorEq]
theorem rRing_loop (g : Pg P tab) {r : List Pt} {v : AV} {sh : Int} (hv : IsL 16 RPt v r) (hr : r.length ≤ 16) (n : Nat) :
    ∀ (i : Nat) (s : T AV) (hh : Heap) (k : List Fr) (Q : Ex → T AV → Heap → Prop), i + n = r.length → sg s 1 = v → sg s 0 = .int .i64 sh → sg s 5 = .int .i64 i →
      ((∀ j, i ≤ j → j < r.length → rrAt r j) → ∀ s' h', sg s' 1 = v → sg s' 0 = .int .i64 sh → Un P k Q (.exit 0) s' h') → ((¬ ∀ j, i ≤ j → j < r.length → rrAt r j) → ∀ s' h', sg s' 4 = .bool false → Un P k Q .ret s' h') → Lp P b127_0 s hh (Un P k Q) := by
  induction n with
  | zero =>
    intro i s hh k Q hi h1 h0 h5 hK hR
    refine g.lpe b127_0.eq_1 ?_
    have c1 : ¬ ((i : Int) < (r.length : Int)) := by omega
    simp only [h1, h5, hv.len, c1, RX, VOp.fresh, bxC, bsC, un, most, callsOf, seval, Int.reducePow, ↓reduceIte, Nat.reduceEqDiff, reduceCtorEq]
    exact hK (fun j h1 h2 => by omega) _ _ (by simp only [h1, sg_set, Nat.reduceEqDiff, ↓reduceIte]) (by simp only [h0, sg_set, Nat.reduceEqDiff, ↓reduceIte])
  | succ n ih =>
    intro i s hh k Q hi h1 h0 h5 hK hR
    refine g.lpe b127_0.eq_1 ?_
    have c1 : (i : Int) < (r.length : Int) := by omega
    obtain ⟨r1, _, g1⟩ := getPt hv i (by omega)
    have w1 : IntKind.i64.wrap ((i : Int) + 1) = ((i + 1 : Nat) : Int) := by rw [w64 (by omega) (by omega)]; push_cast; rfl
    have w2 : IntKind.i64.wrap ((i : Int) - 1) = (i : Int) - 1 := w64 (by omega) (by omega)
    have no : ¬ rrAt r i → ¬ ∀ j, i ≤ j → j < r.length → rrAt r j := fun h hall => h (hall i (Nat.le_refl _) (by omega))
    have step : rrAt r i → ∀ s' h', sg s' 1 = v → sg s' 0 = .int .i64 sh → sg s' 5 = .int .i64 (i + 1 : Nat) → Lp P b127_0 s' h' (Un P k Q) := fun hok s' h' a1 a0 a5 => by
      have all : (∀ j, i ≤ j → j < r.length → rrAt r j) ↔ ∀ j, i + 1 ≤ j → j < r.length → rrAt r j := ⟨fun h j h1 h2 => h j (by omega) h2, fun h j h1 h2 => by
        rcases Nat.lt_or_ge i j with h3 | h3
        · exact h j h3 h2
        · rw [show j = i by omega]; exact hok⟩
      exact ih (i + 1) _ _ k Q (by omega) a1 a0 a5 (fun h => hK (all.2 h)) (fun h => hR (fun h' => h (all.1 h')))
    simp only [h1, h5, hv.len, c1, g1, RX, VOp.fresh, bxC, bsC, un, most, callsOf, seval, Int.reducePow, ↓reduceIte, Nat.reduceEqDiff, reduceCtorEq]
    refine (rPoint_pu g _).go rfl ?_
    rintro x ⟨b, rfl, hb⟩
    cases b
    · simp only [h1, h5, RX, VOp.fresh, bxC, bsC, un, most, callsOf, seval, Int.reducePow, ↓reduceIte, Nat.reduceEqDiff, reduceCtorEq]
      exact hR (no fun h => by have := hb.2 h.1; cases this) _ _ (by simp only [sg_set, Nat.reduceEqDiff, ↓reduceIte])
    · simp only [h1, h5, RX, VOp.fresh, bxC, bsC, un, most, callsOf, seval, Int.reducePow, ↓reduceIte, Nat.reduceEqDiff, reduceCtorEq]
      by_cases hi0 : i = 0
      · have c2 : ¬ ((0 : Int) < (i : Int)) := by omega
        simp only [c2, h5, w1, RX, VOp.fresh, bxC, bsC, un, most, callsOf, seval, Int.reducePow, ↓reduceIte, Nat.reduceEqDiff, reduceCtorEq]
        refine step ⟨hb.1 rfl, fun h => by omega⟩ _ _ ?_ ?_ ?_
        · simp only [h1, sg_set, Nat.reduceEqDiff, ↓reduceIte]
        · simp only [h0, sg_set, Nat.reduceEqDiff, ↓reduceIte]
        · simp only [sg_set, Nat.reduceEqDiff, ↓reduceIte]
      · have c2 : (0 : Int) < (i : Int) := by omega
        obtain ⟨r2, _, g2⟩ := getPt hv (i - 1) (by omega)
        have ec : ((i - 1 : Nat) : Int) = (i : Int) - 1 := by omega
        rw [ec] at g2
        by_cases he : r.getD i ⟨0, 0⟩ = r.getD (i - 1) ⟨0, 0⟩
        · have he' : (r.getD i ⟨0, 0⟩).x = (r.getD (i - 1) ⟨0, 0⟩).x ∧ (r.getD i ⟨0, 0⟩).y = (r.getD (i - 1) ⟨0, 0⟩).y := by rw [he]; exact ⟨rfl, rfl⟩
          simp only [c2, w2, g2, g1, h1, h5, flat2, he', RX, VOp.fresh, bxC, bsC, un, most, callsOf, seval, Int.reducePow, ↓reduceIte, Nat.reduceEqDiff, reduceCtorEq]
          exact hR (no fun h => h.2 (by omega) he) _ _ (by simp only [sg_set, Nat.reduceEqDiff, ↓reduceIte])
        · have he' : ¬ ((r.getD i ⟨0, 0⟩).x = (r.getD (i - 1) ⟨0, 0⟩).x ∧ (r.getD i ⟨0, 0⟩).y = (r.getD (i - 1) ⟨0, 0⟩).y) := by rw [pt_eq]; exact he
          simp only [c2, w2, g2, g1, h1, h5, flat2, he', w1, RX, VOp.fresh, bxC, bsC, un, most, callsOf, seval, Int.reducePow, ↓reduceIte, Nat.reduceEqDiff, reduceCtorEq]
          refine step ⟨hb.1 rfl, fun h => he⟩ _ _ ?_ ?_ ?_
          · simp only [h1, sg_set, Nat.reduceEqDiff, ↓reduceIte]
          · simp only [h0, sg_set, Nat.reduceEqDiff, ↓reduceIte]
          · simp only [sg_set, Nat.reduceEqDiff, ↓reduceIte]
theorem rRing_pu (g : Pg P tab) {r : List Pt} {v : AV} {sh : Int} (hv : IsL 16 RPt v r) : Pu P 127 [.int .i64 sh, v] (IsB (rRing sh r)) := by
  refine g.pu (vf := v127) rfl rfl ?_
  have hb := hv.bound (by decide)
  by_cases hl : r.length ≤ 16
  · have c1 : ¬ ((16 : Int) < (r.length : Int)) := by omega
    simp only [v127, hv.len, c1, RX, VOp.fresh, bxC, bsC, un, most, callsOf, seval, Int.reducePow, ↓reduceIte, Nat.reduceEqDiff, reduceCtorEq]
    refine rRing_loop g hv (sh := sh) hl r.length 0 _ _ _ _ (by omega) ?_ ?_ ?_ ?_ ?_
    · simp only [sg_set, Nat.reduceEqDiff, ↓reduceIte]
    · simp only [sg_set, Nat.reduceEqDiff, ↓reduceIte]
    · simp only [sg_set, Nat.reduceEqDiff, ↓reduceIte]
      rfl
    · intro hall s' h' a1 a0
      have hall' : ∀ i, i < r.length → rrAt r i := fun i hi => hall i (by omega) hi
      by_cases k0 : sh = 0
      · have d1 : ((r.length : Int) = 1) = (r.length = 1) := by rw [eq_iff_iff]; omega
        simp only [a0, a1, k0, hv.len, d1, RX, VOp.fresh, bxC, bsC, un, most, callsOf, seval, Int.reducePow, ↓reduceIte, Nat.reduceEqDiff, reduceCtorEq]
        exact ⟨fun h => ⟨hl, hall', .inl ⟨rfl, h⟩⟩, fun h => by rcases h.2.2 with h | h | h; exact h.2; exact absurd h.1 (by decide); exact absurd h.1 (by decide)⟩
      · by_cases k1 : sh = 1
        · have d1 : ((2 : Int) ≤ (r.length : Int)) = (2 ≤ r.length) := by rw [eq_iff_iff]; omega
          simp only [a0, a1, k1, hv.len, d1, RX, VOp.fresh, bxC, bsC, un, most, callsOf, seval, Int.reducePow, ↓reduceIte, Nat.reduceEqDiff, reduceCtorEq]
          exact ⟨fun h => ⟨hl, hall', .inr (.inl ⟨rfl, h⟩)⟩, fun h => by rcases h.2.2 with h | h | h; exact absurd h.1 (by decide); exact h.2; exact absurd h.1 (by decide)⟩
        · by_cases k2 : sh = 2
          · by_cases h3 : 3 ≤ r.length
            · have d1 : (3 : Int) ≤ (r.length : Int) := by omega
              obtain ⟨r1, _, g1⟩ := getPt hv 0 (by omega)
              obtain ⟨r2, _, g2⟩ := getPt hv (r.length - 1) (by omega)
              have ec : ((r.length - 1 : Nat) : Int) = (r.length : Int) - 1 := by omega
              rw [ec] at g2
              simp only [Int.natCast_zero, Int.ofNat_zero, Int.ofNat_eq_natCast] at g1
              have w2 : IntKind.i64.wrap ((r.length : Int) - 1) = (r.length : Int) - 1 := w64 (by omega) (by omega)
              simp only [a0, a1, k2, hv.len, d1, g1, g2, w2, flat2, pt_eq, RX, VOp.fresh, bxC, bsC, un, most, callsOf, seval, Int.reducePow, ↓reduceIte, Nat.reduceEqDiff, reduceCtorEq]
              refine ⟨fun h => ⟨hl, hall', .inr (.inr ⟨rfl, h3, by simpa using h⟩)⟩, fun h => ?_⟩
              rcases h.2.2 with h | h | h
              · exact absurd h.1 (by decide)
              · exact absurd h.1 (by decide)
              · simpa using h.2.2
            · have d1 : ¬ (3 : Int) ≤ (r.length : Int) := by omega
              simp only [a0, a1, k2, hv.len, d1, RX, VOp.fresh, bxC, bsC, un, most, callsOf, seval, Int.reducePow, ↓reduceIte, Nat.reduceEqDiff, reduceCtorEq]
              intro h
              rcases h.2.2 with h | h | h
              · exact absurd h.1 (by decide)
              · exact absurd h.1 (by decide)
              · exact h3 h.2.1
          · simp only [a0, a1, k0, k1, k2, RX, VOp.fresh, bxC, bsC, un, most, callsOf, seval, Int.reducePow, ↓reduceIte, Nat.reduceEqDiff, reduceCtorEq]
            intro h
            rcases h.2.2 with h | h | h
            · exact k0 h.1
            · exact k1 h.1
            · exact k2 h.1
    · intro hn s' h' h4
      simp only [h4, RX, VOp.fresh, bxC, bsC, un, most, callsOf, seval, Int.reducePow, ↓reduceIte, Nat.reduceEqDiff, reduceCtorEq]
      exact fun h => hn fun j _ hj => h.2.1 j hj
  · have c1 : (16 : Int) < (r.length : Int) := by omega
    simp only [v127, hv.len, c1, RX, VOp.fresh, bxC, bsC, un, most, callsOf, seval, Int.reducePow, ↓reduceIte, Nat.reduceEqDiff, reduceCtorEq]
    exact fun h => hl h.1
theorem rFeat_loop (g : Pg P tab) {f : Feat} {v : AV} (hv : IsL 24 RRing v f.rings) {hh : Heap} {e : TypeId} {ver : Nat} (hg : hh.get 0 = some (.cells [.int .i64 f.id, .int .i64 f.shape, v] e ver)) (n : Nat) :
    ∀ (i : Nat) (s : T AV) (k : List Fr) (Q : Ex → T AV → Heap → Prop), i + n = f.rings.length → sg s 1 = .ptr 0 0 → sg s 3 = .int .i64 i →
      ((∀ j, i ≤ j → j < f.rings.length → rRing f.shape (f.rings.getD j [])) → ∀ s', Un P k Q (.exit 0) s' hh) → ((¬ ∀ j, i ≤ j → j < f.rings.length → rRing f.shape (f.rings.getD j [])) → ∀ s', sg s' 2 = .bool false → Un P k Q .ret s' hh) → Lp P b80_0 s hh (Un P k Q) := by
  have hb := hv.bound (by decide)
  induction n with
  | zero =>
    intro i s k Q hi h1 h3 hK hR
    refine g.lpe b80_0.eq_1 ?_
    have c1 : ¬ ((i : Int) < (f.rings.length : Int)) := by omega
    simp only [h1, h3, hg, hv.len, c1, RX, VOp.fresh, bxC, bsC, un, most, callsOf, seval, Int.reducePow, ↓reduceIte, Nat.reduceEqDiff, reduceCtorEq]
    exact hK (fun j h1 h2 => by omega) _
  | succ n ih =>
    intro i s k Q hi h1 h3 hK hR
    refine g.lpe b80_0.eq_1 ?_
    have c1 : (i : Int) < (f.rings.length : Int) := by omega
    obtain ⟨rv, r1, hrv, _, g1⟩ := getRing hv i (by omega)
    have w1 : IntKind.i64.wrap ((i : Int) + 1) = ((i + 1 : Nat) : Int) := by rw [w64 (by omega) (by omega)]; push_cast; rfl
    simp only [h1, h3, hg, hv.len, c1, g1, RX, VOp.fresh, bxC, bsC, un, most, callsOf, seval, Int.reducePow, ↓reduceIte, Nat.reduceEqDiff, reduceCtorEq]
    refine (rRing_pu g hrv).go (by simp [AV.tolds, AV.told, hrv.told tPt]) ?_
    rintro x ⟨b, rfl, hbb⟩
    cases b
    · simp only [h3, RX, VOp.fresh, bxC, bsC, un, most, callsOf, seval, Int.reducePow, ↓reduceIte, Nat.reduceEqDiff, reduceCtorEq]
      refine hR (fun hall => ?_) _ (by simp only [sg_set, Nat.reduceEqDiff, ↓reduceIte])
      have := hbb.2 (hall i (Nat.le_refl _) (by omega))
      cases this
    · simp only [h3, w1, RX, VOp.fresh, bxC, bsC, un, most, callsOf, seval, Int.reducePow, ↓reduceIte, Nat.reduceEqDiff, reduceCtorEq]
      have hok := hbb.1 rfl
      have all : (∀ j, i ≤ j → j < f.rings.length → rRing f.shape (f.rings.getD j [])) ↔ ∀ j, i + 1 ≤ j → j < f.rings.length → rRing f.shape (f.rings.getD j []) := ⟨fun h j h1 h2 => h j (by omega) h2, fun h j h1 h2 => by
        rcases Nat.lt_or_ge i j with h3 | h3
        · exact h j h3 h2
        · rw [show j = i by omega]; exact hok⟩
      refine ih (i + 1) _ k Q (by omega) ?_ ?_ (fun h => hK (all.2 h)) (fun h => hR (fun h' => h (all.1 h')))
      · simp only [h1, sg_set, Nat.reduceEqDiff, ↓reduceIte]
      · simp only [sg_set, Nat.reduceEqDiff, ↓reduceIte]
theorem rShape_pu (g : Pg P tab) {f : Feat} {v : AV} (hv : IsL 24 RRing v f.rings) : Pu P 80 [.agg [.int .i64 f.id, .int .i64 f.shape, v]] (IsB (featOk f)) := by
  rw [show IsB (featOk f) = IsB (rFeat f) from by rw [show featOk f = rFeat f from propext (rFeat_eq f).symm]]
  refine g.pu (vf := v80) rfl rfl ?_
  have d1 : ((f.rings.length : Int) < 1) = ¬ (1 ≤ f.rings.length) := by rw [eq_iff_iff]; omega
  have d2 : ((4 : Int) < (f.rings.length : Int)) = ¬ (f.rings.length ≤ 4) := by rw [eq_iff_iff]; omega
  have d3 : ((f.rings.length : Int) = 1) = (f.rings.length = 1) := by rw [eq_iff_iff]; omega
  by_cases hc : 1 ≤ f.id ∧ f.id ≤ 65535 ∧ 1 ≤ f.rings.length ∧ f.rings.length ≤ 4 ∧ (f.shape = 2 ∨ f.rings.length = 1)
  · obtain ⟨e1, e2, e3, e4, e5⟩ := hc
    have f1 : ¬ f.id < 1 := by omega
    have f2 : ¬ 65535 < f.id := by omega
    have go : ∀ (s : T AV) (k : List Fr) (Q : Ex → T AV → Heap → Prop), True := fun _ _ _ => trivial
    rcases e5 with e5 | e5
    · simp only [v80, hv.len, d1, d2, d3, f1, f2, e3, e4, e5, RX, VOp.fresh, bxC, bsC, un, most, callsOf, seval, Int.reducePow, ↓reduceIte, Nat.reduceEqDiff, reduceCtorEq]
      refine rFeat_loop g hv (by rw [Heap.get_mk, if_pos rfl, e5]) f.rings.length 0 _ _ _ (by omega) ?_ ?_ ?_ ?_
      · simp only [sg_set, Nat.reduceEqDiff, ↓reduceIte]
      · simp only [sg_set, Nat.reduceEqDiff, ↓reduceIte]
        rfl
      · intro hall s'
        simp only [RX, VOp.fresh, bxC, bsC, un, most, callsOf, seval, Int.reducePow, ↓reduceIte, Nat.reduceEqDiff, reduceCtorEq]
        exact ⟨e1, e2, e3, e4, .inl e5, fun i hi => hall i (by omega) hi⟩
      · intro hn s' h2
        simp only [h2, RX, VOp.fresh, bxC, bsC, un, most, callsOf, seval, Int.reducePow, ↓reduceIte, Nat.reduceEqDiff, reduceCtorEq]
        exact fun h => hn fun j _ hj => h.2.2.2.2.2 j hj
    · by_cases e6 : f.shape = 2
      · simp only [v80, hv.len, d1, d2, d3, f1, f2, e3, e4, e5, e6, RX, VOp.fresh, bxC, bsC, un, most, callsOf, seval, Int.reducePow, ↓reduceIte, Nat.reduceEqDiff, reduceCtorEq]
        refine rFeat_loop g hv (by rw [Heap.get_mk, if_pos rfl, e6]) f.rings.length 0 _ _ _ (by omega) ?_ ?_ ?_ ?_
        · simp only [sg_set, Nat.reduceEqDiff, ↓reduceIte]
        · simp only [sg_set, Nat.reduceEqDiff, ↓reduceIte]
          rfl
        · intro hall s'
          simp only [RX, VOp.fresh, bxC, bsC, un, most, callsOf, seval, Int.reducePow, ↓reduceIte, Nat.reduceEqDiff, reduceCtorEq]
          exact ⟨e1, e2, e3, e4, .inr e5, fun i hi => hall i (by omega) hi⟩
        · intro hn s' h2
          simp only [h2, RX, VOp.fresh, bxC, bsC, un, most, callsOf, seval, Int.reducePow, ↓reduceIte, Nat.reduceEqDiff, reduceCtorEq]
          exact fun h => hn fun j _ hj => h.2.2.2.2.2 j hj
      · simp only [v80, hv.len, d1, d2, d3, f1, f2, e3, e4, e5, e6, RX, VOp.fresh, bxC, bsC, un, most, callsOf, seval, Int.reducePow, ↓reduceIte, Nat.reduceEqDiff, reduceCtorEq]
        refine rFeat_loop g hv (by rw [Heap.get_mk, if_pos rfl]) f.rings.length 0 _ _ _ (by omega) ?_ ?_ ?_ ?_
        · simp only [sg_set, Nat.reduceEqDiff, ↓reduceIte]
        · simp only [sg_set, Nat.reduceEqDiff, ↓reduceIte]
          rfl
        · intro hall s'
          simp only [RX, VOp.fresh, bxC, bsC, un, most, callsOf, seval, Int.reducePow, ↓reduceIte, Nat.reduceEqDiff, reduceCtorEq]
          exact ⟨e1, e2, e3, e4, .inr e5, fun i hi => hall i (by omega) hi⟩
        · intro hn s' h2
          simp only [h2, RX, VOp.fresh, bxC, bsC, un, most, callsOf, seval, Int.reducePow, ↓reduceIte, Nat.reduceEqDiff, reduceCtorEq]
          exact fun h => hn fun j _ hj => h.2.2.2.2.2 j hj
  · have no : ¬ rFeat f := fun h => hc ⟨h.1, h.2.1, h.2.2.1, h.2.2.2.1, h.2.2.2.2.1⟩
    by_cases f1 : f.id < 1
    · simp only [v80, f1, no, RX, VOp.fresh, bxC, bsC, un, most, callsOf, seval, Int.reducePow, ↓reduceIte, Nat.reduceEqDiff, reduceCtorEq]
    · by_cases f2 : 65535 < f.id
      · simp only [v80, f1, f2, no, RX, VOp.fresh, bxC, bsC, un, most, callsOf, seval, Int.reducePow, ↓reduceIte, Nat.reduceEqDiff, reduceCtorEq]
      · by_cases e3 : 1 ≤ f.rings.length
        · by_cases e4 : f.rings.length ≤ 4
          · have e5 : ¬ f.shape = 2 := fun e => hc ⟨by omega, by omega, e3, e4, .inl e⟩
            have e6 : ¬ f.rings.length = 1 := fun e => hc ⟨by omega, by omega, e3, e4, .inr e⟩
            simp only [v80, hv.len, d1, d2, d3, f1, f2, e3, e4, e5, e6, no, RX, VOp.fresh, bxC, bsC, un, most, callsOf, seval, Int.reducePow, ↓reduceIte, Nat.reduceEqDiff, reduceCtorEq]
          · simp only [v80, hv.len, d1, d2, f1, f2, e3, e4, no, RX, VOp.fresh, bxC, bsC, un, most, callsOf, seval, Int.reducePow, ↓reduceIte, Nat.reduceEqDiff, reduceCtorEq]
        · simp only [v80, hv.len, d1, f1, f2, e3, no, RX, VOp.fresh, bxC, bsC, un, most, callsOf, seval, Int.reducePow, ↓reduceIte, Nat.reduceEqDiff, reduceCtorEq]
theorem around_pu (g : Pg P tab) (p q : Pt) : Pu P 98 [aPt p, aPt q] (fun v => v = aBx ⟨imn p.x q.x, imn p.y q.y, imx p.x q.x, imx p.y q.y⟩) := by
  refine g.pu (vf := v98) rfl rfl ?_
  simp only [v98, aPt, aBx, fmin, fmax, RW, RX, VOp.fresh, bxC, bsC, un, most, callsOf, seval, Int.reducePow, ↓reduceIte, Nat.reduceEqDiff, reduceCtorEq]
  exact ⟨_, .agg (scals_fz rfl), rfl⟩
theorem rjoin_pu (g : Pg P tab) (a b : Bx) : Pu P 99 [aBx a, aBx b] (fun v => v = if bOk a ∧ bOk b then .tup [aBx (bxJ a b), .int .i64 0] else .tup [aBx ⟨0, 0, 0, 0⟩, .int .i64 300]) := by
  refine g.pu (vf := v99) rfl rfl ?_
  simp only [v99, aBx, RW, RX, VOp.fresh, bxC, bsC, un, most, callsOf, seval, Int.reducePow, ↓reduceIte, Nat.reduceEqDiff, reduceCtorEq]
  refine (dboxMay_pu g a.x0 a.y0 a.x1 a.y1).go rfl ?_
  rintro _ rfl
  by_cases ha : bOk a
  · have ha' : decide (bxOk a.x0 a.y0 a.x1 a.y1) = true := decide_eq_true ha
    rw [ha']
    simp only [RX, VOp.fresh, bxC, bsC, un, most, callsOf, seval, Int.reducePow, ↓reduceIte, Nat.reduceEqDiff, reduceCtorEq]
    refine (dboxMay_pu g b.x0 b.y0 b.x1 b.y1).go rfl ?_
    rintro _ rfl
    by_cases hb : bOk b
    · have hb' : decide (bxOk b.x0 b.y0 b.x1 b.y1) = true := decide_eq_true hb
      rw [hb']
      simp only [fmin, fmax, bxJ, ha, hb, RW, RX, VOp.fresh, bxC, bsC, un, most, callsOf, seval, Int.reducePow, ↓reduceIte, Nat.reduceEqDiff, reduceCtorEq]
      exact ⟨_, .tup (.cons (.agg (scals_fz rfl)) (.cons (.int _ _) .nil)), rfl⟩
    · have hb' : decide (bxOk b.x0 b.y0 b.x1 b.y1) = false := decide_eq_false hb
      rw [hb']
      simp only [ha, hb, RW, RX, VOp.fresh, bxC, bsC, un, most, callsOf, seval, Int.reducePow, ↓reduceIte, Nat.reduceEqDiff, reduceCtorEq]
      exact ⟨_, .tup (.cons (.agg (scals_fz rfl)) (.cons (.int _ _) .nil)), rfl⟩
  · have ha' : decide (bxOk a.x0 a.y0 a.x1 a.y1) = false := decide_eq_false ha
    rw [ha']
    simp only [ha, RW, RX, VOp.fresh, bxC, bsC, un, most, callsOf, seval, Int.reducePow, ↓reduceIte, Nat.reduceEqDiff, reduceCtorEq]
    exact ⟨_, .tup (.cons (.agg (scals_fz rfl)) (.cons (.int _ _) .nil)), rfl⟩
def bxCs (b : Bx) : List AV := [.int .i64 b.x0, .int .i64 b.y0, .int .i64 b.x1, .int .i64 b.y1]
theorem rbox_in (g : Pg P tab) {f : Feat} {v a0 a1 : AV} (hv : IsL 24 RRing v f.rings) (ho : featOk f) {fb e2 n2 tb : Nat} (hne : tb ≠ fb) {i : Nat} (hi : i < f.rings.length) {b0 : Bx} (hb0 : bOk b0) {N : Nat} {X : Option Blk} {ob : Nat} (hob : ob ≠ tb) (n : Nat) :
    ∀ (j ver : Nat) (t : T AV) (h : Heap) (k : List Fr) (Q : Ex → T AV → Heap → Prop), j + n = (f.rings.getD i []).length → sg t 1 = .ptr fb 0 → sg t 2 = .ptr ob 0 → sg t 4 = .ptr tb 0 → sg t 5 = .int .i64 i → sg t 6 = .int .i64 j →
    h.get fb = some (.cells [a0, a1, v] e2 n2) → h.get ob = X → h.get tb = some (.cells (bxCs (bxAll ((f.rings.getD i []).take j) b0)) 25 ver) →
    (∀ t' h' ver', sg t' 1 = .ptr fb 0 → sg t' 2 = .ptr ob 0 → sg t' 4 = .ptr tb 0 → sg t' 5 = .int .i64 i → h'.get fb = some (.cells [a0, a1, v] e2 n2) → h'.get ob = X → h'.get tb = some (.cells (bxCs (bxAll (f.rings.getD i []) b0)) 25 ver') → Un P k Q (.exit 2) t' h') → Lp P b60_0 t h (Un P k Q) := by
  obtain ⟨rv, r1, hrv, _, g1⟩ := getRing hv i hi
  have hbd := hrv.bound (by decide)
  have hbi := hv.bound (by decide)
  have hpt : ∀ q ∈ f.rings.getD i [], ptOk q := fun q hq => ho.pts q (List.mem_flatten.2 ⟨_, by rw [getD_ring hi]; exact List.getElem_mem hi, hq⟩)
  induction n with
  | zero =>
    intro j ver t h k Q hn t1 t2 t4 t5 t6 hf hx hb hK
    refine g.lpe b60_0.eq_1 ?_
    have c1 : ¬ ((j : Int) < ((f.rings.getD i []).length : Int)) := by omega
    simp only [t1, t5, t6, hf, g1, hrv.len, c1, RX, VOp.fresh, bxC, bsC, un, most, callsOf, seval, Int.reducePow, ↓reduceIte, Nat.reduceEqDiff, reduceCtorEq]
    rw [List.take_of_length_le (by omega)] at hb
    refine hK _ h ver ?_ ?_ ?_ ?_ hf hx hb
    · simp only [t1, sg_set, Nat.reduceEqDiff, ↓reduceIte]
    · simp only [t2, sg_set, Nat.reduceEqDiff, ↓reduceIte]
    · simp only [t4, sg_set, Nat.reduceEqDiff, ↓reduceIte]
    · simp only [t5, sg_set, Nat.reduceEqDiff, ↓reduceIte]
  | succ n ih =>
    intro j ver t h k Q hn t1 t2 t4 t5 t6 hf hx hb hK
    refine g.lpe b60_0.eq_1 ?_
    have c1 : ((j : Int) < ((f.rings.getD i []).length : Int)) := by omega
    have w1 : IntKind.i64.wrap ((j : Int) + 1) = ((j + 1 : Nat) : Int) := by rw [w64 (by omega) (by omega)]; push_cast; rfl
    obtain ⟨r2, _, g2⟩ := getPt hrv j (by omega)
    have hjl : j < (f.rings.getD i []).length := by omega
    have hts : (f.rings.getD i []).take (j + 1) = (f.rings.getD i []).take j ++ [(f.rings.getD i []).getD j ⟨0, 0⟩] := by rw [List.take_succ_eq_append_getElem hjl, getP hjl]
    have hp : ptOk ((f.rings.getD i []).getD j ⟨0, 0⟩) := hpt _ (by rw [getP hjl]; exact List.getElem_mem hjl)
    have hB := bxAll_ok (l := (f.rings.getD i []).take j) (fun q hq => hpt q (List.mem_of_mem_take hq)) hb0
    generalize (f.rings.getD i []).getD j ⟨0, 0⟩ = p at *
    generalize hBe : bxAll ((f.rings.getD i []).take j) b0 = B at *
    have ie : ∀ x : Int, imn x x = x ∧ imx x x = x := fun x => by unfold imn imx; constructor <;> split <;> rfl
    have o78 : OK P 98 [.agg [.int .i64 p.x, .int .i64 p.y], .agg [.int .i64 p.x, .int .i64 p.y]] h (.agg [.int .i64 p.x, .int .i64 p.y, .int .i64 p.x, .int .i64 p.y]) h := by
      have := (around_pu g p p).exact (h := h) rfl
      rwa [(ie p.x).1, (ie p.x).2, (ie p.y).1, (ie p.y).2] at this
    have o79 : OK P 99 [.agg [.int .i64 B.x0, .int .i64 B.y0, .int .i64 B.x1, .int .i64 B.y1], .agg [.int .i64 p.x, .int .i64 p.y, .int .i64 p.x, .int .i64 p.y]] h (.tup [.agg [.int .i64 (bxJ B (bxPt p)).x0, .int .i64 (bxJ B (bxPt p)).y0, .int .i64 (bxJ B (bxPt p)).x1, .int .i64 (bxJ B (bxPt p)).y1], .int .i64 0]) h := by
      have := (rjoin_pu g B (bxPt p)).exact (h := h) rfl
      rwa [if_pos ⟨hB, bxPt_ok hp⟩] at this
    obtain ⟨c, c1', c2⟩ : ∃ c : Nat → List AV → Heap → AV × Heap, (∀ a h, c 98 a h = (.agg [.int .i64 p.x, .int .i64 p.y, .int .i64 p.x, .int .i64 p.y], h)) ∧ (∀ a h, c 99 a h = (.tup [.agg [.int .i64 (bxJ B (bxPt p)).x0, .int .i64 (bxJ B (bxPt p)).y0, .int .i64 (bxJ B (bxPt p)).x1, .int .i64 (bxJ B (bxPt p)).y1], .int .i64 0], h)) :=
      ⟨fun f _ h => if f = 98 then (.agg [.int .i64 p.x, .int .i64 p.y, .int .i64 p.x, .int .i64 p.y], h) else (.tup [.agg [.int .i64 (bxJ B (bxPt p)).x0, .int .i64 (bxJ B (bxPt p)).y0, .int .i64 (bxJ B (bxPt p)).x1, .int .i64 (bxJ B (bxPt p)).y1], .int .i64 0], h), fun _ _ => rfl, fun _ _ => rfl⟩
    unfold bxCs at hb
    simp only [t1, t5, t6, hf, g1, hrv.len, c1, RW, RX, VOp.fresh, bxC, bsC, un, most, callsOf, seval, Int.reducePow, ↓reduceIte, Nat.reduceEqDiff, reduceCtorEq]
    refine EvD.sameN 19 c rfl ?_
    simp only [t1, t4, t5, t6, hf, hb, g1, g2, c1', c2, o78, o79, w1, RW, RX, VOp.fresh, bxC, bsC, un, most, callsOf, seval, Int.reducePow, ↓reduceIte, Nat.reduceEqDiff, reduceCtorEq]
    refine ih (j + 1) (ver + 1) _ _ k Q (by omega) ?_ ?_ ?_ ?_ ?_ (by rw [Heap.get_put, if_neg (Ne.symm hne)]; exact hf) (by rw [Heap.get_put, if_neg hob]; exact hx) (by rw [Heap.get_put, if_pos rfl, hts, bxAll_snoc, hBe]; rfl) hK
    · simp only [t1, sg_set, Nat.reduceEqDiff, ↓reduceIte]
    · simp only [t2, sg_set, Nat.reduceEqDiff, ↓reduceIte]
    · simp only [t4, sg_set, Nat.reduceEqDiff, ↓reduceIte]
    · simp only [t5, sg_set, Nat.reduceEqDiff, ↓reduceIte]
    · simp only [sg_set, Nat.reduceEqDiff, ↓reduceIte]
theorem bxAll_app (l k : List Pt) (b : Bx) : bxAll (l ++ k) b = bxAll k (bxAll l b) := by simp [bxAll]
theorem rbox_loop (g : Pg P tab) {f : Feat} {v a0 a1 : AV} (hv : IsL 24 RRing v f.rings) (ho : featOk f) {fb e2 n2 tb : Nat} (hne : tb ≠ fb) {b0 : Bx} (hb0 : bOk b0) {X : Option Blk} {ob : Nat} (hob : ob ≠ tb) (n : Nat) :
    ∀ (i ver : Nat) (t : T AV) (h : Heap) (k : List Fr) (Q : Ex → T AV → Heap → Prop), i + n = f.rings.length → sg t 1 = .ptr fb 0 → sg t 2 = .ptr ob 0 → sg t 4 = .ptr tb 0 → sg t 5 = .int .i64 i →
    h.get fb = some (.cells [a0, a1, v] e2 n2) → h.get ob = X → h.get tb = some (.cells (bxCs (bxAll (f.rings.take i).flatten b0)) 25 ver) →
    (∀ t' h' ver', sg t' 2 = .ptr ob 0 → sg t' 4 = .ptr tb 0 → h'.get ob = X → h'.get tb = some (.cells (bxCs (bxAll (fPts f) b0)) 25 ver') → Un P k Q (.exit 0) t' h') → Lp P b60_1 t h (Un P k Q) := by
  have hbi := hv.bound (by decide)
  induction n with
  | zero =>
    intro i ver t h k Q hn t1 t2 t4 t5 hf hx hb hK
    refine g.lpe b60_1.eq_1 ?_
    have c1 : ¬ ((i : Int) < (f.rings.length : Int)) := by omega
    simp only [t1, t5, hf, hv.len, c1, RX, VOp.fresh, bxC, bsC, un, most, callsOf, seval, Int.reducePow, ↓reduceIte, Nat.reduceEqDiff, reduceCtorEq]
    rw [List.take_of_length_le (by omega)] at hb
    refine hK _ h ver ?_ ?_ hx hb
    · simp only [t2, sg_set, Nat.reduceEqDiff, ↓reduceIte]
    · simp only [t4, sg_set, Nat.reduceEqDiff, ↓reduceIte]
  | succ n ih =>
    intro i ver t h k Q hn t1 t2 t4 t5 hf hx hb hK
    refine g.lpe b60_1.eq_1 ?_
    have c1 : ((i : Int) < (f.rings.length : Int)) := by omega
    have w1 : IntKind.i64.wrap ((i : Int) + 1) = ((i + 1 : Nat) : Int) := by rw [w64 (by omega) (by omega)]; push_cast; rfl
    have hi : i < f.rings.length := by omega
    have ef : (f.rings.take (i + 1)).flatten = (f.rings.take i).flatten ++ f.rings.getD i [] := by
      rw [List.take_succ_eq_append_getElem hi, List.flatten_append, getD_ring hi]; simp
    have hsub : ∀ q ∈ (f.rings.take i).flatten, ptOk q := fun q hq => by
      obtain ⟨r, hr, hq⟩ := List.mem_flatten.1 hq
      exact ho.pts q (List.mem_flatten.2 ⟨r, List.mem_of_mem_take hr, hq⟩)
    simp only [t1, t5, hf, hv.len, c1, RX, VOp.fresh, bxC, bsC, un, most, callsOf, seval, Int.reducePow, ↓reduceIte, Nat.reduceEqDiff, reduceCtorEq]
    refine rbox_in g hv ho (fb := fb) (e2 := e2) (n2 := n2) (tb := tb) hne hi (bxAll_ok hsub hb0) (N := 0) (X := X) hob (f.rings.getD i []).length 0 ver _ h _ _ (by omega) ?_ ?_ ?_ ?_ ?_ hf hx (by rw [List.take_zero]; exact hb) fun t' h' ver' u1 u2 u4 u5 hf' hx' hb' => ?_
    · simp only [t1, sg_set, Nat.reduceEqDiff, ↓reduceIte]
    · simp only [t2, sg_set, Nat.reduceEqDiff, ↓reduceIte]
    · simp only [t4, sg_set, Nat.reduceEqDiff, ↓reduceIte]
    · simp only [t5, sg_set, Nat.reduceEqDiff, ↓reduceIte]
    · simp only [sg_set, Nat.reduceEqDiff, ↓reduceIte]
      rfl
    · simp only [u5, w1, RX, VOp.fresh, bxC, bsC, un, most, callsOf, seval, Int.reducePow, ↓reduceIte, Nat.reduceEqDiff, reduceCtorEq]
      refine ih (i + 1) ver' _ h' k Q (by omega) ?_ ?_ ?_ ?_ hf' hx' (by rw [ef, bxAll_app]; exact hb') hK
      · simp only [u1, sg_set, Nat.reduceEqDiff, ↓reduceIte]
      · simp only [u2, sg_set, Nat.reduceEqDiff, ↓reduceIte]
      · simp only [u4, sg_set, Nat.reduceEqDiff, ↓reduceIte]
      · simp only [sg_set, Nat.reduceEqDiff, ↓reduceIte]
theorem rbox_pu (g : Pg P tab) {f : Feat} {v : AV} (hv : IsL 24 RRing v f.rings) : Pu P 60 [.agg [.int .i64 f.id, .int .i64 f.shape, v]] (fun w => (¬ featOk f ∧ w = .tup [aBx ⟨0, 0, 0, 0⟩, .int .i64 400]) ∨ (featOk f ∧ w = .tup [aBx (fBox f), .int .i64 0])) := by
  refine g.pu (vf := v60) rfl rfl ?_
  simp only [v60, RW, RX, VOp.fresh, bxC, bsC, un, most, callsOf, seval, Int.reducePow, ↓reduceIte, Nat.reduceEqDiff, reduceCtorEq]
  refine (rShape_pu g hv).go (by simp [AV.tolds, AV.told, hv.told tRing]) ?_
  rintro _ ⟨b, rfl, hb⟩
  cases b with
  | false =>
    have ho : ¬ featOk f := fun h => by have := hb.2 h; cases this
    simp only [RW, RX, VOp.fresh, bxC, bsC, un, most, callsOf, seval, Int.reducePow, ↓reduceIte, Nat.reduceEqDiff, reduceCtorEq]
    exact ⟨_, .tup (.cons (.agg (scals_fz rfl)) (.cons (.int _ _) .nil)), .inl ⟨ho, rfl⟩⟩
  | true =>
    have ho : featOk f := hb.1 rfl
    obtain ⟨h0, h1⟩ := ho.first
    obtain ⟨rv, r1, hrv, t1, g1⟩ := getRing hv 0 h0
    obtain ⟨r2, t2, g2⟩ := getPt hrv 0 h1
    simp only [Int.natCast_zero, Int.ofNat_zero, Int.ofNat_eq_natCast] at g1 g2
    simp only [g1, g2, RW, RX, VOp.fresh, bxC, bsC, un, most, callsOf, seval, Int.reducePow, ↓reduceIte, Nat.reduceEqDiff, reduceCtorEq]
    obtain ⟨p0, hp0⟩ : ∃ p0, (f.rings.getD 0 []).getD 0 ⟨0, 0⟩ = p0 := ⟨_, rfl⟩
    rw [hp0]
    refine (around_pu g p0 p0).go rfl ?_
    rintro _ rfl
    have ie : ∀ x : Int, imn x x = x ∧ imx x x = x := fun x => by unfold imn imx; constructor <;> split <;> rfl
    simp only [(ie p0.x).1, (ie p0.x).2, (ie p0.y).1, (ie p0.y).2, aBx]
    simp only [RW, RX, VOp.fresh, bxC, bsC, un, most, callsOf, seval, Int.reducePow, ↓reduceIte, Nat.reduceEqDiff, reduceCtorEq]
    refine rbox_loop g hv ho (fb := 0) (e2 := 49) (n2 := 0) (tb := 15) (by decide) (b0 := bxPt p0) (bxPt_ok (ho.pts p0 ?_)) (X := some (.cells [.int .i64 0, .int .i64 0, .int .i64 0, .int .i64 0] 25 0)) (ob := 1) (by decide) f.rings.length 0 1 _ _ _ _ (by omega) ?_ ?_ ?_ ?_ rfl rfl rfl fun t' h' ver' u2 u4 k1 k2 => ?_
    · rw [← hp0]
      exact List.mem_flatten.2 ⟨f.rings.getD 0 [], by rw [getD_ring h0]; exact List.getElem_mem h0, by rw [getP h1]; exact List.getElem_mem h1⟩
    · simp only [sg_set, Nat.reduceEqDiff, ↓reduceIte]
    · simp only [sg_set, Nat.reduceEqDiff, ↓reduceIte]
    · simp only [sg_set, Nat.reduceEqDiff, ↓reduceIte]
    · simp only [sg_set, Nat.reduceEqDiff, ↓reduceIte]
      rfl
    · unfold bxCs at k2
      simp only [u2, u4, k1, k2, RW, RX, VOp.fresh, bxC, bsC, un, most, callsOf, seval, Int.reducePow, ↓reduceIte, Nat.reduceEqDiff, reduceCtorEq]
      exact ⟨_, .tup (.cons (.agg (scals_fz rfl)) (.cons (.int _ _) .nil)), .inr ⟨ho, by unfold fBox; rw [hp0]⟩⟩
end
end Go.Proofs.YtpfpngmfooagiaaGreat.VM
namespace Go.Proofs.YtpfpngmfooagiaaGreat.VM
attribute [local irreducible] Af Nx EvO Ev Un Gd Cd EvR EvQ EvC Nc Gc Lp EvM NxM AfM GdM EvMR EvMQ EvMD EvMC Nm Gm
section
variable {P : Program}
theorem rfar_pu (g : Pg P tab) {p : Pt} {b : Bx} (hp : ptOk p) (hb : bOk b) : Pu P 61 [aPt p, aBx b] (fun v => v = .tup [cW (farN p b), .int .i64 0]) := by
  refine g.pu (vf := v61) rfl rfl ?_
  simp only [v61, aPt, aBx, HN, RW, RX, VOp.fresh, bxC, bsC, un, most, callsOf, seval, Int.reducePow, ↓reduceIte, Nat.reduceEqDiff, reduceCtorEq]
  refine (rPoint_pu g p).go rfl ?_
  rintro _ ⟨q, rfl, hq⟩
  obtain rfl : q = true := hq.2 hp
  simp only [HN, RW, RX, VOp.fresh, bxC, bsC, un, most, callsOf, seval, Int.reducePow, ↓reduceIte, Nat.reduceEqDiff, reduceCtorEq]
  refine (dboxMay_pu g b.x0 b.y0 b.x1 b.y1).go rfl ?_
  rintro _ rfl
  have hb' : decide (bxOk b.x0 b.y0 b.x1 b.y1) = true := decide_eq_true hb
  rw [hb']
  have hb2 := hb
  have hp2 := hp
  unfold bOk bxOk at hb2
  unfold ptOk coordOk at hp2
  have m1 := imx3_at (x := b.x0 - p.x) (y := p.x - b.x1) (by omega) (by omega)
  have m2 := imx3_at (x := b.y0 - p.y) (y := p.y - b.y1) (by omega) (by omega)
  have v1 : IntKind.i64.wrap (b.x0 - p.x) = b.x0 - p.x := w64 (by omega) (by omega)
  have v2 : IntKind.i64.wrap (p.x - b.x1) = p.x - b.x1 := w64 (by omega) (by omega)
  have v3 : IntKind.i64.wrap (b.y0 - p.y) = b.y0 - p.y := w64 (by omega) (by omega)
  have v4 : IntKind.i64.wrap (p.y - b.y1) = p.y - b.y1 := w64 (by omega) (by omega)
  obtain ⟨dx, hdx⟩ : ∃ dx, dx = dxN p b := ⟨_, rfl⟩
  obtain ⟨dy, hdy⟩ : ∃ dy, dy = dyN p b := ⟨_, rfl⟩
  have u1 : IntKind.u64.wrap (imx3 (b.x0 - p.x) (p.x - b.x1)) = (dx : Int) := by
    rw [hdx, dxN, wu64 (by omega) (by omega)]; omega
  have u2 : IntKind.u64.wrap (imx3 (b.y0 - p.y) (p.y - b.y1)) = (dy : Int) := by
    rw [hdy, dyN, wu64 (by omega) (by omega)]; omega
  have lx : dx < 4294967296 := by rw [hdx, dxN]; omega
  have ly : dy < 4294967296 := by rw [hdy, dyN]; omega
  have ef : farN p b = dx * dx + dy * dy := by rw [farN, hdx, hdy]
  have hX : dx * dx < 18446744073709551616 := by
    have : dx * dx ≤ 4294967295 * 4294967295 := Nat.mul_le_mul (by omega) (by omega)
    omega
  have hY : dy * dy < 18446744073709551616 := by
    have : dy * dy ≤ 4294967295 * 4294967295 := Nat.mul_le_mul (by omega) (by omega)
    omega
  rw [ef]
  clear hdx hdy ef
  simp only [v1, v2, v3, v4, fmax3, u1, u2, HN, RW, RX, VOp.fresh, bxC, bsC, un, most, callsOf, seval, Int.reducePow, ↓reduceIte, Nat.reduceEqDiff, reduceCtorEq]
  refine (rmul_pu g lx).go rfl ?_
  rintro _ rfl
  simp only [RX, VOp.fresh, bxC, bsC, un, most, callsOf, seval, Int.reducePow, ↓reduceIte, Nat.reduceEqDiff, reduceCtorEq]
  refine (rmul_pu g ly).go rfl ?_
  rintro _ rfl
  simp only [RX, VOp.fresh, bxC, bsC, un, most, callsOf, seval, Int.reducePow, ↓reduceIte, Nat.reduceEqDiff, reduceCtorEq]
  refine (radd_pu g hX hY).go rfl ?_
  rintro _ rfl
  simp only [cW, HN, RW, RX, VOp.fresh, bxC, bsC, un, most, callsOf, seval, Int.reducePow, ↓reduceIte, Nat.reduceEqDiff, reduceCtorEq]
  exact ⟨_, .tup (.cons (.agg (scals_fz rfl)) (.cons (.int _ _) .nil)), rfl⟩
def cmpN (a b : Nat) : Int := if a < b then -1 else if b < a then 1 else 0
theorem nan196 (g : Pg P tab) (a : Int) : Pu P 196 [.int .u64 a] (fun v => v = .bool false) := by
  refine g.pu (vf := v196) rfl rfl ?_
  simp only [v196, RX, VOp.fresh, bxC, bsC, un, most, callsOf, seval, Int.reducePow, ↓reduceIte, Nat.reduceEqDiff, reduceCtorEq]
theorem compareU_pu (g : Pg P tab) (a b : Int) : Pu P 178 [.int .u64 a, .int .u64 b] (fun v => v = .int .i64 (cmpI a b)) := by
  refine g.pu (vf := v178) rfl rfl ?_
  simp only [v178, RX, VOp.fresh, bxC, bsC, un, most, callsOf, seval, Int.reducePow, ↓reduceIte, Nat.reduceEqDiff, reduceCtorEq]
  refine (nan196 g _).go rfl ?_
  rintro v rfl
  simp only [RX, VOp.fresh, bxC, bsC, un, most, callsOf, seval, Int.reducePow, ↓reduceIte, Nat.reduceEqDiff, reduceCtorEq]
  refine (nan196 g _).go rfl ?_
  rintro v rfl
  by_cases h1 : a < b
  · simp only [h1, cmpI, RX, VOp.fresh, bxC, bsC, un, most, callsOf, seval, Int.reducePow, ↓reduceIte, Nat.reduceEqDiff, reduceCtorEq]
  · by_cases h2 : b < a
    · simp only [h1, h2, cmpI, RX, VOp.fresh, bxC, bsC, un, most, callsOf, seval, Int.reducePow, ↓reduceIte, Nat.reduceEqDiff, reduceCtorEq]
    · simp only [h1, h2, cmpI, RX, VOp.fresh, bxC, bsC, un, most, callsOf, seval, Int.reducePow, ↓reduceIte, Nat.reduceEqDiff, reduceCtorEq]
theorem flat2u {a b c d : Int} : eqv (.flat [.int, .int]) (.agg [.int .u64 a, .int .u64 b]) (.agg [.int .u64 c, .int .u64 d]) = some (decide (a = c ∧ b = d)) := by
  simp only [eqv, List.length_cons, List.length_nil, and_self, if_true, sameCells, sameK]
  by_cases h : a = c <;> by_cases h' : b = d <;> simp [h, h', sameCells, sameK]
theorem rcmp_pu (g : Pg P tab) (a b : Nat) : Pu P 62 [cW a, cW b] (fun v => v = .int .i64 (cmpN a b)) := by
  refine g.pu (vf := v62) rfl rfl ?_
  obtain ⟨a1, ha1⟩ : ∃ a1, a1 = a / 18446744073709551616 := ⟨_, rfl⟩
  obtain ⟨a2, ha2⟩ : ∃ a2, a2 = a % 18446744073709551616 := ⟨_, rfl⟩
  obtain ⟨b1, hb1⟩ : ∃ b1, b1 = b / 18446744073709551616 := ⟨_, rfl⟩
  obtain ⟨b2, hb2⟩ : ∃ b2, b2 = b % 18446744073709551616 := ⟨_, rfl⟩
  by_cases h0 : (a1 : Int) = b1 ∧ (a2 : Int) = b2
  · have e : cmpN a b = 0 := by unfold cmpN; rw [if_neg (by omega), if_neg (by omega)]
    rw [e]
    simp only [v62, cW, ← ha1, ← ha2, ← hb1, ← hb2, flat2u, h0, HN, RW, RX, VOp.fresh, bxC, bsC, un, most, callsOf, seval, Int.reducePow, ↓reduceIte, Nat.reduceEqDiff, reduceCtorEq]
  · by_cases h1 : (a1 : Int) < b1
    · have e : cmpN a b = -1 := by unfold cmpN; rw [if_pos (by omega)]
      rw [e]
      simp only [v62, cW, ← ha1, ← ha2, ← hb1, ← hb2, flat2u, h0, h1, HN, RW, RX, VOp.fresh, bxC, bsC, un, most, callsOf, seval, Int.reducePow, ↓reduceIte, Nat.reduceEqDiff, reduceCtorEq]
    · by_cases h2 : (a1 : Int) = b1
      · by_cases h3 : (a2 : Int) < b2
        · have e : cmpN a b = -1 := by unfold cmpN; rw [if_pos (by omega)]
          have h4 : ¬ (a2 : Int) = b2 := by omega
          have h5 : ¬ (b1 : Int) < b1 := by omega
          rw [e]
          simp only [v62, cW, ← ha1, ← ha2, ← hb1, ← hb2, flat2u, h2, h3, h4, h5, HN, RW, RX, VOp.fresh, bxC, bsC, un, most, callsOf, seval, Int.reducePow, ↓reduceIte, Nat.reduceEqDiff, reduceCtorEq]
        · have h4 : ¬ (a2 : Int) = b2 := fun c => h0 ⟨h2, c⟩
          have e : cmpN a b = 1 := by unfold cmpN; rw [if_neg (by omega), if_pos (by omega)]
          have h5 : ¬ (b1 : Int) < b1 := by omega
          rw [e]
          simp only [v62, cW, ← ha1, ← ha2, ← hb1, ← hb2, flat2u, h2, h3, h4, h5, HN, RW, RX, VOp.fresh, bxC, bsC, un, most, callsOf, seval, Int.reducePow, ↓reduceIte, Nat.reduceEqDiff, reduceCtorEq]
      · have e : cmpN a b = 1 := by unfold cmpN; rw [if_neg (by omega), if_pos (by omega)]
        rw [e]
        simp only [v62, cW, ← ha1, ← ha2, ← hb1, ← hb2, flat2u, h0, h1, h2, HN, RW, RX, VOp.fresh, bxC, bsC, un, most, callsOf, seval, Int.reducePow, ↓reduceIte, Nat.reduceEqDiff, reduceCtorEq]
theorem or_pu (g : Pg P tab) (x y : Int) (hx : I64 x) (hy : I64 y) : Pu P 145 [.rs [.int .i64 x, .int .i64 y] 2] (fun v => v = .int .i64 (if x ≠ 0 then x else y)) := by
  refine g.pu (vf := v145) rfl rfl ?_
  have hw : IsL 8 RInt (.rs [.int .i64 x, .int .i64 y] 2) [x, y] := isL_rs (l := [x, y]) (Cat.cons (c := [.int .i64 x]) (show RInt x _ from ⟨rfl, hx⟩) (Cat.cons (c := [.int .i64 y]) (show RInt y _ from ⟨rfl, hy⟩) .nil)) (by rw [reach_eq]; simp)
  obtain ⟨r0, _, g0⟩ := getInt hw 0 (by simp)
  obtain ⟨r1, _, g1⟩ := getInt hw 1 (by simp)
  have g0' := fun hh => g0 hh .i64
  have g1' := fun hh => g1 hh .i64
  simp only [Int.natCast_zero, Int.ofNat_zero, Int.cast_ofNat_Int, Int.natCast_one, List.getD_cons_zero, List.getD_cons_succ] at g0' g1'
  simp only [v145, RX, VOp.fresh, bxC, bsC, un, most, callsOf, seval, Int.reducePow, ↓reduceIte, Nat.reduceEqDiff, reduceCtorEq]
  refine g.lpe b145_0.eq_1 ?_
  by_cases h0 : x = 0
  · simp only [g0', h0, RX, VOp.fresh, bxC, bsC, un, most, callsOf, seval, Int.reducePow, ↓reduceIte, Nat.reduceEqDiff, reduceCtorEq]
    refine g.lpe b145_0.eq_1 ?_
    by_cases h1 : y = 0
    · simp only [g1', h1, RX, VOp.fresh, bxC, bsC, un, most, callsOf, seval, Int.reducePow, ↓reduceIte, Nat.reduceEqDiff, reduceCtorEq]
      refine g.lpe b145_0.eq_1 ?_
      simp only [v145, RX, VOp.fresh, bxC, bsC, un, most, callsOf, seval, Int.reducePow, ↓reduceIte, Nat.reduceEqDiff, reduceCtorEq]
    · simp only [g1', h1, RX, VOp.fresh, bxC, bsC, un, most, callsOf, seval, Int.reducePow, ↓reduceIte, Nat.reduceEqDiff, reduceCtorEq]
  · simp only [g0', h0, RX, VOp.fresh, bxC, bsC, un, most, callsOf, seval, Int.reducePow, ↓reduceIte, Nat.reduceEqDiff, reduceCtorEq]
    rw [if_pos h0]
theorem cmp_pu (g : Pg P tab) (a b : Nat) : Pu P 146 [cW a, cW b] (fun v => v = .int .i64 (cmpN a b)) := by
  refine g.pu (vf := v146) rfl rfl ?_
  obtain ⟨a1, ha1⟩ : ∃ a1, a1 = a / 18446744073709551616 := ⟨_, rfl⟩
  obtain ⟨a2, ha2⟩ : ∃ a2, a2 = a % 18446744073709551616 := ⟨_, rfl⟩
  obtain ⟨b1, hb1⟩ : ∃ b1, b1 = b / 18446744073709551616 := ⟨_, rfl⟩
  obtain ⟨b2, hb2⟩ : ∃ b2, b2 = b % 18446744073709551616 := ⟨_, rfl⟩
  have i3 : ∀ x y : Int, I64 (cmpI x y) := fun x y => by unfold cmpI; split <;> (try split) <;> exact ⟨by decide, by decide⟩
  have e : (if cmpI a1 b1 ≠ 0 then cmpI a1 b1 else cmpI a2 b2) = cmpN a b := by
    unfold cmpI cmpN
    split <;> (repeat' split) <;> first | rfl | omega
  have o1 : ∀ h, OK P 178 [.int .u64 (a1 : Int), .int .u64 (b1 : Int)] h (.int .i64 (cmpI a1 b1)) h := fun h => (compareU_pu g a1 b1).exact (h := h) rfl
  have o2 : ∀ h, OK P 178 [.int .u64 (a2 : Int), .int .u64 (b2 : Int)] h (.int .i64 (cmpI a2 b2)) h := fun h => (compareU_pu g a2 b2).exact (h := h) rfl
  obtain ⟨x, hx⟩ : ∃ x, x = cmpI a1 b1 := ⟨_, rfl⟩
  obtain ⟨y, hy⟩ : ∃ y, y = cmpI a2 b2 := ⟨_, rfl⟩
  have ix : I64 x := by rw [hx]; exact i3 _ _
  have iy : I64 y := by rw [hy]; exact i3 _ _
  have o3 := or_pu g x y ix iy
  rw [← hx] at o1 e
  rw [← hy] at o2 e
  obtain ⟨c, c1, c2, c3⟩ : ∃ c : Nat → List AV → Heap → AV × Heap, (∀ h, c 178 [.int .u64 (a1 : Int), .int .u64 (b1 : Int)] h = (.int .i64 x, h)) ∧ (∀ h, c 178 [.int .u64 (a2 : Int), .int .u64 (b2 : Int)] h = (.int .i64 y, h)) ∧ (∀ l h, c 145 l h = (.int .i64 (cmpN a b), h)) := by
    refine ⟨fun f l h => if f = 145 then (.int .i64 (cmpN a b), h) else (match l with | [.int _ p, .int _ q] => (.int .i64 (cmpI p q), h) | _ => (.undef, h)), fun h => ?_, fun h => ?_, fun l h => rfl⟩
    · simp [hx]
    · simp [hy]
  simp only [v146, cW, ← ha1, ← ha2, ← hb1, ← hb2, HN, RW, RX, VOp.fresh, bxC, bsC, un, most, callsOf, seval, Int.reducePow, ↓reduceIte, Nat.reduceEqDiff, reduceCtorEq]
  refine EvD.sameN 9 c rfl ?_
  simp only [c1, c2, c3, o1, o2, HN, RW, RX, VOp.fresh, bxC, bsC, un, most, callsOf, seval, Int.reducePow, ↓reduceIte, Nat.reduceEqDiff, reduceCtorEq]
  exact Cl.exact (Pu.cl (R := fun v h' => v = _ ∧ h' = _) o3 (.cons (fz_ok 40 _ _ (by kernel_rfl)) .nil) fun w hw => And.intro (by rw [hw, e]) rfl)
end
end Go.Proofs.YtpfpngmfooagiaaGreat.VM
namespace Go.Proofs.YtpfpngmfooagiaaGreat.VM
attribute [local irreducible] Af Nx EvO Ev Un Gd Cd EvR EvQ EvC Nc Gc Lp EvM NxM AfM GdM EvMR EvMQ EvMD EvMC Nm Gm
theorem fBox_ok {f : Feat} (h : featOk f) : bOk (fBox f) := by
  obtain ⟨h0, h1⟩ := h.first
  refine bxAll_ok h.pts (bxPt_ok (h.pts _ ?_))
  exact List.mem_flatten.2 ⟨f.rings.getD 0 [], by rw [getD_ring h0]; exact List.getElem_mem h0, by rw [getP h1]; exact List.getElem_mem h1⟩
/-- nearer, or as near with a lower id -/
def aheadP (p : Pt) (a b : Feat) : Prop := farN p (fBox a) < farN p (fBox b) ∨ (farN p (fBox a) = farN p (fBox b) ∧ a.id < b.id)
section
variable {P : Program}
theorem ahead_pu (g : Pg P tab) {p : Pt} {a b : Feat} {va vb : AV} (hp : ptOk p) (ha : IsL 24 RRing va a.rings) (hb : IsL 24 RRing vb b.rings) (oa : featOk a) (ob : featOk b) : Pu P 25 [aPt p, .agg [.int .i64 a.id, .int .i64 a.shape, va], .agg [.int .i64 b.id, .int .i64 b.shape, vb]] (IsB (aheadP p a b)) := by
  refine g.pu (vf := v25) rfl rfl ?_
  have o1 := isL_one ha
  have o2 := isL_one hb
  simp only [v25, aPt, o1, o2, HN, RW, RX, VOp.fresh, bxC, bsC, un, most, callsOf, seval, Int.reducePow, ↓reduceIte, Nat.reduceEqDiff, reduceCtorEq]
  refine (rbox_pu g ha).go (by simp [AV.tolds, AV.told, ha.told tRing]) ?_
  rintro _ (⟨hn, _⟩ | ⟨_, rfl⟩)
  · exact absurd oa hn
  simp only [aBx, HN, RW, RX, VOp.fresh, bxC, bsC, un, most, callsOf, seval, Int.reducePow, ↓reduceIte, Nat.reduceEqDiff, reduceCtorEq]
  refine (rbox_pu g hb).go (by simp [AV.tolds, AV.told, hb.told tRing]) ?_
  rintro _ (⟨hn, _⟩ | ⟨_, rfl⟩)
  · exact absurd ob hn
  simp only [aBx, HN, RW, RX, VOp.fresh, bxC, bsC, un, most, callsOf, seval, Int.reducePow, ↓reduceIte, Nat.reduceEqDiff, reduceCtorEq]
  refine (rfar_pu g hp (fBox_ok oa)).go rfl ?_
  rintro _ rfl
  simp only [cW, HN, RW, RX, VOp.fresh, bxC, bsC, un, most, callsOf, seval, Int.reducePow, ↓reduceIte, Nat.reduceEqDiff, reduceCtorEq]
  refine (rfar_pu g hp (fBox_ok ob)).go rfl ?_
  rintro _ rfl
  simp only [cW, HN, RW, RX, VOp.fresh, bxC, bsC, un, most, callsOf, seval, Int.reducePow, ↓reduceIte, Nat.reduceEqDiff, reduceCtorEq]
  refine (rcmp_pu g (farN p (fBox a)) (farN p (fBox b))).go rfl ?_
  rintro _ rfl
  generalize hA : farN p (fBox a) = A
  generalize hB : farN p (fBox b) = B
  unfold aheadP
  rw [hA, hB]
  by_cases h1 : A < B
  · have e : cmpN A B = -1 := by unfold cmpN; rw [if_pos h1]
    rw [e]
    simp only [HN, RW, RX, VOp.fresh, bxC, bsC, un, most, callsOf, seval, Int.reducePow, ↓reduceIte, Nat.reduceEqDiff, reduceCtorEq]
    exact .inl h1
  · by_cases h2 : B < A
    · have e : cmpN A B = 1 := by unfold cmpN; rw [if_neg h1, if_pos h2]
      rw [e]
      simp only [HN, RW, RX, VOp.fresh, bxC, bsC, un, most, callsOf, seval, Int.reducePow, ↓reduceIte, Nat.reduceEqDiff, reduceCtorEq]
      omega
    · have e : cmpN A B = 0 := by unfold cmpN; rw [if_neg h1, if_neg h2]
      rw [e]
      by_cases h3 : a.id < b.id
      · simp only [h3, HN, RW, RX, VOp.fresh, bxC, bsC, un, most, callsOf, seval, Int.reducePow, ↓reduceIte, Nat.reduceEqDiff, reduceCtorEq]
        exact .inr (by omega)
      · simp only [h3, HN, RW, RX, VOp.fresh, bxC, bsC, un, most, callsOf, seval, Int.reducePow, ↓reduceIte, Nat.reduceEqDiff, reduceCtorEq]
        first | exact h1 | (rintro (h | h) <;> first | exact h1 h | exact h | exact h.2 | exact h3 h.2)
end
end Go.Proofs.YtpfpngmfooagiaaGreat.VM
namespace Go.Proofs.YtpfpngmfooagiaaGreat.VM
attribute [local irreducible] Af Nx EvO Ev Un Gd Cd EvR EvQ EvC Nc Gc Lp EvM NxM AfM GdM EvMR EvMQ EvMD EvMC Nm Gm
section
variable {P : Program}
theorem item_pu (g : Pg P tab) {f : Feat} {v : AV} (hv : IsL 24 RRing v f.rings) (ho : featOk f) : Pu P 94 [.agg [.int .i64 f.id, .int .i64 f.shape, v]] (fun w => w = .agg [.int .i64 f.id, .int .i64 (fBox f).x0, .int .i64 (fBox f).y0, .int .i64 (fBox f).x1, .int .i64 (fBox f).y1]) := by
  refine g.pu (vf := v94) rfl rfl ?_
  have o1 := isL_one hv
  simp only [v94, o1, HN, RW, RX, VOp.fresh, bxC, bsC, un, most, callsOf, seval, Int.reducePow, ↓reduceIte, Nat.reduceEqDiff, reduceCtorEq]
  refine (box_pu g hv).go (by simp [AV.tolds, AV.told, hv.told tRing]) ?_
  rintro _ (⟨hn, _⟩ | ⟨_, rfl⟩)
  · exact absurd ho hn
  simp only [aBx, HN, RW, RX, VOp.fresh, bxC, bsC, un, most, callsOf, seval, Int.reducePow, ↓reduceIte, Nat.reduceEqDiff, reduceCtorEq]
  exact ⟨_, .agg (scals_fz rfl), rfl⟩
/-- a row's element: a feature, how far, its id -/
def cFar (c : List AV) (n : Nat) (id : Int) : AV := .agg (c ++ [.int .u64 ((n / 18446744073709551616 : Nat) : Int), .int .u64 ((n % 18446744073709551616 : Nat) : Int), .int .i64 id])
def cmpF (a b : Nat) (i j : Int) : Int := if cmpN a b ≠ 0 then cmpN a b else i - j
theorem fcmp_pu (g : Pg P tab) {x1 x2 x3 y1 y2 y3 : AV} (tx : AV.tolds [x1, x2, x3] = true) (ty : AV.tolds [y1, y2, y3] = true) (ox : [x1, x2, x3].all AV.one = true) (oy : [y1, y2, y3].all AV.one = true) (a b : Nat) {i j : Int} (hi : 0 ≤ i ∧ i ≤ 65535) (hj : 0 ≤ j ∧ j ≤ 65535) : Pu P 144 [cFar [x1, x2, x3] a i, cFar [y1, y2, y3] b j] (fun v => v = .int .i64 (cmpF a b i j)) := by
  refine g.pu (vf := v144) rfl rfl ?_
  have w1 : IntKind.i64.wrap (i - j) = i - j := w64 (by omega) (by omega)
  have p1 : x1.one = true := by simp at ox; exact ox.1
  have p2 : x2.one = true := by simp at ox; exact ox.2.1
  have p3 : x3.one = true := by simp at ox; exact ox.2.2
  have q1 : y1.one = true := by simp at oy; exact oy.1
  have q2 : y2.one = true := by simp at oy; exact oy.2.1
  have q3 : y3.one = true := by simp at oy; exact oy.2.2
  have o1 : ∀ h, OK P 146 [cW a, cW b] h (.int .i64 (cmpN a b)) h := fun h => (cmp_pu g a b).exact (h := h) rfl
  obtain ⟨x, hx⟩ : ∃ x, x = cmpN a b := ⟨_, rfl⟩
  have ix : I64 x := by rw [hx]; unfold cmpN; split <;> (try split) <;> exact ⟨by decide, by decide⟩
  have o3 := or_pu g x (i - j) ix ⟨by omega, by omega⟩
  have e : (if x ≠ 0 then x else i - j) = cmpF a b i j := by rw [hx]; rfl
  rw [← hx] at o1
  unfold cW at o1
  obtain ⟨c, c1, c3⟩ : ∃ c : Nat → List AV → Heap → AV × Heap, (∀ l h, c 146 l h = (.int .i64 x, h)) ∧ (∀ l h, c 145 l h = (.int .i64 (cmpF a b i j), h)) :=
    ⟨fun f l h => if f = 145 then (.int .i64 (cmpF a b i j), h) else (.int .i64 x, h), fun l h => rfl, fun l h => rfl⟩
  simp only [v144, cFar, p1, p2, p3, q1, q2, q3, HN, RW, RX, VOp.fresh, bxC, bsC, un, most, callsOf, seval, Int.reducePow, ↓reduceIte, Nat.reduceEqDiff, reduceCtorEq]
  refine EvD.sameN 9 c rfl ?_
  simp only [c1, c3, o1, w1, HN, RW, RX, VOp.fresh, bxC, bsC, un, most, callsOf, seval, Int.reducePow, ↓reduceIte, Nat.reduceEqDiff, reduceCtorEq]
  exact Cl.exact (Pu.cl (R := fun v h' => v = _ ∧ h' = _) o3 (.cons (fz_ok 40 _ _ (by kernel_rfl)) .nil) fun w hw => And.intro (by rw [hw, e]) rfl)
end
end Go.Proofs.YtpfpngmfooagiaaGreat.VM
namespace Go.Proofs.YtpfpngmfooagiaaGreat.VM
attribute [local irreducible] Af Nx EvO Ev Un Gd Cd EvR EvQ EvC Nc Gc Lp EvM NxM AfM GdM EvMR EvMQ EvMD EvMC Nm Gm
/-- an element of the row -/
def RFar (p : Pt) (f : Feat) (c : List AV) : Prop := ∃ v, c = [.int .i64 f.id, .int .i64 f.shape, v, .int .u64 ((farN p (fBox f) / 18446744073709551616 : Nat) : Int), .int .u64 ((farN p (fBox f) % 18446744073709551616 : Nat) : Int), .int .i64 f.id] ∧ I64 f.id ∧ I64 f.shape ∧ IsL 24 RRing v f.rings
theorem trFar (p : Pt) : Tr (RFar p) 6 := ⟨fun a c ⟨v, e, _⟩ => by rw [e]; rfl, fun a c ⟨v, e, _, _, hv⟩ => by rw [e]; simp [List.all_cons, isL_one hv, one_int], fun a c ⟨v, e, _, _, hv⟩ => by rw [e]; simp [AV.tolds, AV.told, hv.told tRing]⟩
section
variable {P : Program}
theorem near_loop (g : Pg P tab) {l : List Feat} {w : AV} (hw : IsL 32 RFeat w l) (hs : l.length ≤ 70000) (ho : ∀ f ∈ l, featOk f) {p : Pt} (hp : ptOk p) {h0 : Heap} {pb e ver : Nat} (gp : h0.get pb = some (.cells [.int .i64 p.x, .int .i64 p.y] e ver)) (hpb : pb < h0.next) (n : Nat) :
    ∀ (i : Nat) (s : T AV) (h : Heap) (k : List Fr) (Q : Ex → T AV → Heap → Prop), i + n = l.length → Ext h0 h → RowT (RFar p) 6 h (sg s 9) (l.take i) → (∀ b ∈ blkOf (sg s 9), h0.next ≤ b) → sg s 3 = .fn 94 [] → sg s 5 = .ptr pb 0 → sg s 18 = w → sg s 19 = .int .i64 l.length → sg s 20 = .int .i64 i →
    (∀ s' h', Ext h0 h' → RowT (RFar p) 6 h' (sg s' 9) l → (∀ b ∈ blkOf (sg s' 9), h0.next ≤ b) → (∀ j, j < 9 → sg s' j = sg s j) → Un P k Q (.exit 0) s' h') → Lp P b93_0 s h (Un P k Q) := by
  induction n with
  | zero =>
    intro i s h k Q hn x0 r hb t3 t5 t18 t19 t20 hQ
    refine g.lpe b93_0.eq_1 ?_
    obtain rfl : i = l.length := by omega
    have c1 : ¬ ((l.length : Int) < (l.length : Int)) := by omega
    simp only [t18, t19, t20, c1, RX, VOp.fresh, bxC, bsC, un, most, callsOf, seval, Int.reducePow, ↓reduceIte, Nat.reduceEqDiff, reduceCtorEq]
    rw [List.take_length] at r
    refine hQ _ _ x0 ?_ ?_ fun j hj => by simp only [sg_set]; repeat rw [if_neg (by omega)]
    · simp only [sg_set, Nat.reduceEqDiff, ↓reduceIte]
      exact r
    · simp only [sg_set, Nat.reduceEqDiff, ↓reduceIte]
      exact hb
  | succ n ih =>
    intro i s h k Q hn x0 r hb t3 t5 t18 t19 t20 hQ
    refine g.lpe b93_0.eq_1 ?_
    have c1 : (i : Int) < (l.length : Int) := by omega
    obtain ⟨x1, r1, i4, i2, i3, _, g1⟩ := getFeat hw i (by omega)
    have hgi : l.getD i feat0 = l[i] := by simp [List.getD_eq_getElem?_getD, List.getElem?_eq_getElem (show i < l.length by omega)]
    have hmem : l.getD i feat0 ∈ l := getD_mem.2 ⟨i, by omega, rfl⟩
    have hs1 : l.take (i + 1) = l.take i ++ [l.getD i feat0] := by rw [hgi]; exact List.take_succ_eq_append_getElem (by omega)
    have hlen : (l.take i).length ≤ 70000 := by rw [List.length_take]; omega
    have hok := ho _ hmem
    have w1 : IntKind.i64.wrap ((i : Int) + 1) = ((i + 1 : Nat) : Int) := by rw [w64 (by omega) (by omega)]; push_cast; rfl
    have o1 := isL_one i4
    generalize l.getD i feat0 = f at *
    generalize hF : l.take i = F at *
    simp only [t3, t18, t19, t20, c1, g1, o1, HN, RW, RX, VOp.fresh, bxC, bsC, un, most, callsOf, seval, Int.reducePow, ↓reduceIte, Nat.reduceEqDiff, reduceCtorEq]
    refine (item_pu g i4 hok).go (by simp [AV.tolds, AV.told, i4.told tRing]) ?_
    rintro _ rfl
    have gp1 := (x0.2 pb hpb).trans gp
    have hne : ¬ pb = h.next := by have := x0.1; omega
    have hne2 : ¬ pb = h.next + 1 := by have := x0.1; omega
    simp only [t5, gp1, hne, hne2, HN, RW, RX, VOp.fresh, bxC, bsC, un, most, callsOf, seval, Int.reducePow, ↓reduceIte, Nat.reduceEqDiff, reduceCtorEq]
    obtain ⟨H1, eH1⟩ : ∃ H1, H1 = (((h.mk' h.next (.cells [.int .i64 0, .int .i64 0, .nils] 49 0)).put h.next (.cells [.int .i64 f.id, .int .i64 f.shape, x1] 49 1)).mk' (h.next + 1) (.cells [.int .i64 0, .int .i64 0, .int .i64 0, .int .i64 0, .int .i64 0] 164 0)).put (h.next + 1) (.cells [.int .i64 f.id, .int .i64 (fBox f).x0, .int .i64 (fBox f).y0, .int .i64 (fBox f).x1, .int .i64 (fBox f).y1] 164 1) := ⟨_, rfl⟩
    rw [← eH1]
    have gA : H1.get h.next = some (.cells [.int .i64 f.id, .int .i64 f.shape, x1] 49 1) := by rw [eH1, Heap.get_put, if_neg (by omega), Heap.get_mk, if_neg (by omega), Heap.get_put, if_pos rfl]
    have gB : H1.get (h.next + 1) = some (.cells [.int .i64 f.id, .int .i64 (fBox f).x0, .int .i64 (fBox f).y0, .int .i64 (fBox f).x1, .int .i64 (fBox f).y1] 164 1) := by rw [eH1, Heap.get_put, if_pos rfl]
    have nH : H1.next = h.next + 2 := by rw [eH1, put_next, mk_next, put_next, mk_next]; omega
    have xH : Ext h H1 := ⟨by omega, fun b hb => by rw [eH1, Heap.get_put, if_neg (by omega), Heap.get_mk, if_neg (by omega), Heap.get_put, if_neg (by omega), Heap.get_mk, if_neg (by omega)]⟩
    clear eH1
    refine (far_pu g hp (fBox_ok hok)).go rfl ?_
    rintro _ rfl
    have d1 : ¬ h.next = H1.next := by omega
    have d2 : ¬ h.next + 1 = H1.next := by omega
    have y3 := Ext.new (h := H1) (o := .cells [.int .u64 0, .int .u64 0] 116 0) (o' := .cells [.int .u64 ((farN p (fBox f) / 18446744073709551616 : Nat) : Int), .int .u64 ((farN p (fBox f) % 18446744073709551616 : Nat) : Int)] 116 1)
    simp only [cW, gA, gB, d1, d2, o1, HN, RW, RX, VOp.fresh, bxC, bsC, un, most, callsOf, seval, Int.reducePow, ↓reduceIte, Nat.reduceEqDiff, reduceCtorEq]
    obtain ⟨H2, eH2⟩ : ∃ H2, H2 = ((H1.mk' H1.next (.cells [.int .u64 0, .int .u64 0] 116 0)).put H1.next (.cells [.int .u64 ((farN p (fBox f) / 18446744073709551616 : Nat) : Int), .int .u64 ((farN p (fBox f) % 18446744073709551616 : Nat) : Int)] 116 1)).mk' (H1.next + 1) (.cells [.int .i64 f.id, .int .i64 f.shape, x1, .int .u64 ((farN p (fBox f) / 18446744073709551616 : Nat) : Int), .int .u64 ((farN p (fBox f) % 18446744073709551616 : Nat) : Int), .int .i64 f.id] 223 0) := ⟨_, rfl⟩
    rw [← eH2]
    have gn : H2.get (H1.next + 1) = some (.cells [.int .i64 f.id, .int .i64 f.shape, x1, .int .u64 ((farN p (fBox f) / 18446744073709551616 : Nat) : Int), .int .u64 ((farN p (fBox f) % 18446744073709551616 : Nat) : Int), .int .i64 f.id] 223 0) := by rw [eH2, Heap.get_mk, if_pos rfl]
    have nH2 : H2.next = H1.next + 2 := by rw [eH2, mk_next, put_next, mk_next]; omega
    have xH2 : Ext H1 H2 := ⟨by omega, fun b hb => by rw [eH2, Heap.get_mk, if_neg (by omega), Heap.get_put, if_neg (by omega), Heap.get_mk, if_neg (by omega)]⟩
    clear eH2
    have x2 := (x0.trans xH).trans xH2
    have r2 := r.ext (xH.trans xH2)
    obtain ⟨h4, p4, r4, n4, k4⟩ := r2.push (trFar p) (a := f) (c := [.int .i64 f.id, .int .i64 f.shape, x1, .int .u64 ((farN p (fBox f) / 18446744073709551616 : Nat) : Int), .int .u64 ((farN p (fBox f) % 18446744073709551616 : Nat) : Int), .int .i64 f.id]) ⟨x1, rfl, i2, i3, i4⟩ gn (bytes := 64) (by unfold most2; omega) 223
    have x4 : Ext h0 h4 := ⟨by have := x2.1; omega, fun b hb0 => by
      have q1 := x2.1
      rw [k4 b (fun hc => by have := hb b hc; omega) (by omega)]
      exact x2.2 b hb0⟩
    simp only [t20, p4, w1, RX, VOp.fresh, bxC, bsC, un, most, callsOf, seval, Int.reducePow, ↓reduceIte, Nat.reduceEqDiff, reduceCtorEq]
    refine ih (i + 1) _ h4 k Q (by omega) x4 ?_ ?_ ?_ ?_ ?_ ?_ ?_ fun s' h' q1 q2 q3 q4 => hQ s' h' q1 q2 q3 fun j hj => by rw [q4 j hj]; simp only [sg_set]; repeat rw [if_neg (by omega)]
    · simp only [sg_set, Nat.reduceEqDiff, ↓reduceIte]
      rw [hs1]
      exact r4
    · simp only [sg_set, Nat.reduceEqDiff, ↓reduceIte]
      intro b hb2
      simp only [blkOf, List.mem_singleton] at hb2
      have := x2.1
      omega
    · simp only [t3, sg_set, Nat.reduceEqDiff, ↓reduceIte]
    · simp only [t5, sg_set, Nat.reduceEqDiff, ↓reduceIte]
    · simp only [t18, sg_set, Nat.reduceEqDiff, ↓reduceIte]
    · simp only [t19, sg_set, Nat.reduceEqDiff, ↓reduceIte]
    · simp only [sg_set, Nat.reduceEqDiff, ↓reduceIte]
end
end Go.Proofs.YtpfpngmfooagiaaGreat.VM
namespace Go.Proofs.YtpfpngmfooagiaaGreat.VM
attribute [local irreducible] Af Nx EvO Ev Un Gd Cd EvR EvQ EvC Nc Gc Lp EvM NxM AfM GdM EvMR EvMQ EvMD EvMC Nm Gm
section
variable {P : Program}
theorem near2_loop (g : Pg P tab) {p : Pt} {l : List Feat} {cs : List AV} (hc : Cat (RFar p) l cs) {h0 : Heap} {ab e ver : Nat} (ga : h0.get ab = some (.cells cs e ver)) (hab : ab < h0.next) {m cap : Nat} (hm : m ≤ l.length) (hs : l.length ≤ 70000) (n : Nat) :
    ∀ (i : Nat) (s : T AV) (h : Heap) (k : List Fr) (Q : Ex → T AV → Heap → Prop), i + n = m → Ext h0 h → RowT RFeat 3 h (sg s 15) (l.take i) → (∀ b ∈ blkOf (sg s 15), h0.next ≤ b) → sg s 50 = .sl ab 0 m cap 6 → sg s 51 = .int .i64 m → sg s 52 = .int .i64 i →
    (∀ s' h', Ext h0 h' → RowT RFeat 3 h' (sg s' 15) (l.take m) → (∀ b ∈ blkOf (sg s' 15), h0.next ≤ b) → Un P k Q (.exit 2) s' h') → Lp P b93_1 s h (Un P k Q) := by
  induction n with
  | zero =>
    intro i s h k Q hn x0 r hb t50 t51 t52 hQ
    refine g.lpe b93_1.eq_1 ?_
    obtain rfl : i = m := by omega
    have c1 : ¬ ((i : Int) < (i : Int)) := by omega
    simp only [t50, t51, t52, c1, RX, VOp.fresh, bxC, bsC, un, most, callsOf, seval, Int.reducePow, ↓reduceIte, Nat.reduceEqDiff, reduceCtorEq]
    refine hQ _ _ x0 ?_ ?_
    · simp only [sg_set, Nat.reduceEqDiff, ↓reduceIte]
      exact r
    · simp only [sg_set, Nat.reduceEqDiff, ↓reduceIte]
      exact hb
  | succ n ih =>
    intro i s h k Q hn x0 r hb t50 t51 t52 hQ
    refine g.lpe b93_1.eq_1 ?_
    have c1 : (i : Int) < (m : Int) := by omega
    have hi : i < l.length := by omega
    have w1 : IntKind.i64.wrap ((i : Int) + 1) = ((i + 1 : Nat) : Int) := by rw [w64 (by omega) (by omega)]; push_cast; rfl
    obtain ⟨ci, rr, ed, ⟨va, ec, i1, i2, i3⟩⟩ := hc.at (trFar p).len i hi
    have hs1 : l.take (i + 1) = l.take i ++ [l[i]] := List.take_succ_eq_append_getElem hi
    have hlen : (l.take i).length ≤ 70000 := by rw [List.length_take]; omega
    generalize l[i] = f at *
    generalize hF : l.take i = F at *
    have ga1 := (x0.2 ab hab).trans ga
    have pt : part true cs (i * 6) 6 = some (.agg ci) := by
      have : VM.cut cs (i * 6) 6 = some ci := by rw [cut_eq, ed, ec]; rfl
      simp only [part, this, if_true]
    rw [ec] at pt
    have o1 := isL_one i3
    have hia : ∀ (hh : Heap) (q : IntKind), iaV hh 6 none (.sl ab 0 m cap 6) (.int q (i : Int)) = .val (.ptr ab (i * 6)) hh := fun hh q => by
      have : 0 ≤ (i : Int) ∧ (i : Int) < (m : Int) ∧ 6 = 6 := ⟨by omega, by omega, rfl⟩
      simp only [iaV, this, and_self, if_true, Int.toNat_natCast, Nat.zero_add]
    simp only [t50, t51, t52, c1, hia, ga1, pt, o1, HN, RW, RX, VOp.fresh, bxC, bsC, un, most, callsOf, seval, Int.reducePow, ↓reduceIte, Nat.reduceEqDiff, reduceCtorEq]
    obtain ⟨H2, eH2⟩ : ∃ H2, H2 = ((h.mk' h.next (.cells [.int .i64 0, .int .i64 0, .nils, .int .u64 0, .int .u64 0, .int .i64 0] 223 0)).put h.next (.cells [.int .i64 f.id, .int .i64 f.shape, va, .int .u64 ((farN p (fBox f) / 18446744073709551616 : Nat) : Int), .int .u64 ((farN p (fBox f) % 18446744073709551616 : Nat) : Int), .int .i64 f.id] 223 1)).mk' (h.next + 1) (.cells [.int .i64 f.id, .int .i64 f.shape, va] 49 0) := ⟨_, rfl⟩
    rw [← eH2]
    have gn : H2.get (h.next + 1) = some (.cells [.int .i64 f.id, .int .i64 f.shape, va] 49 0) := by rw [eH2, Heap.get_mk, if_pos rfl]
    have nH2 : H2.next = h.next + 2 := by rw [eH2, mk_next, put_next, mk_next]; omega
    have xH2 : Ext h H2 := ⟨by omega, fun b hb => by rw [eH2, Heap.get_mk, if_neg (by omega), Heap.get_put, if_neg (by omega), Heap.get_mk, if_neg (by omega)]⟩
    clear eH2
    have x2 := x0.trans xH2
    obtain ⟨h4, p4, r4, n4, k4⟩ := (r.ext xH2).push trFeat (a := f) (c := [.int .i64 f.id, .int .i64 f.shape, va]) ⟨va, rfl, i1, i2, i3⟩ gn (bytes := 40) (by unfold most2; omega) 49
    have x4 : Ext h0 h4 := ⟨by have := x2.1; omega, fun b hb0 => by
      have q1 := x2.1
      rw [k4 b (fun hc => by have := hb b hc; omega) (by omega)]
      exact x2.2 b hb0⟩
    simp only [t52, p4, w1, RX, VOp.fresh, bxC, bsC, un, most, callsOf, seval, Int.reducePow, ↓reduceIte, Nat.reduceEqDiff, reduceCtorEq]
    refine ih (i + 1) _ h4 k Q (by omega) x4 ?_ ?_ ?_ ?_ ?_ hQ
    · simp only [sg_set, Nat.reduceEqDiff, ↓reduceIte]
      rw [hs1]
      exact r4
    · simp only [sg_set, Nat.reduceEqDiff, ↓reduceIte]
      intro b hb2
      simp only [blkOf, List.mem_singleton] at hb2
      have := x2.1
      omega
    · simp only [t50, sg_set, Nat.reduceEqDiff, ↓reduceIte]
    · simp only [t51, sg_set, Nat.reduceEqDiff, ↓reduceIte]
    · simp only [sg_set, Nat.reduceEqDiff, ↓reduceIte]
end
end Go.Proofs.YtpfpngmfooagiaaGreat.VM
namespace Go.Proofs.YtpfpngmfooagiaaGreat.VM
attribute [local irreducible] Af Nx EvO Ev Un Gd Cd EvR EvQ EvC Nc Gc Lp EvM NxM AfM GdM EvMR EvMQ EvMD EvMC Nm Gm
/-- what the walk asks of slices.SortFunc -/
structure SortN (P : Program) : Prop where
  ok : ∀ {H : Heap} {b cap e ver : Nat} {p : Pt} {l : List Feat} {cs : List AV}, H.get b = some (.cells cs e ver) → Cat (RFar p) l cs → 0 < l.length → l.length ≤ 70000 → (∀ f ∈ l, 0 ≤ f.id ∧ f.id ≤ 65535) →
    ∃ (l' : List Feat) (cs' : List AV), l'.Perm l ∧ (l'.Pairwise fun a b => ¬ aheadP p b a) ∧ Cat (RFar p) l' cs' ∧ OK P 143 [.sl b 0 l.length cap 6, .fn 144 []] H (.tup []) (H.put b (.cells cs' e (ver + 1)))
  nil : ∀ {H : Heap}, OK P 143 [.nils, .fn 144 []] H (.tup []) H
section
variable {P : Program}
theorem nearest_cl (g : Pg P tab) (hS : SortN P) {l : List Feat} {w : AV} (hw : IsL 32 RFeat w l) (hs : l.length ≤ 70000) (ho : ∀ f ∈ l, featOk f) {p : Pt} (hp : ptOk p) {k : Int} (hk : 0 ≤ k) {h : Heap} {Q : AV → Heap → Prop}
    (q : ∀ (v : AV) (h' : Heap) (l' : List Feat), l'.Perm l → (l'.Pairwise fun a b => ¬ aheadP p b a) → RowT RFeat 3 h' v (l'.take (min k.toNat l.length)) → (∀ b ∈ blkOf v, h.next ≤ b) → Ext h h' → Q v h') : Cl P 93 [w, aPt p, .int .i64 k, .fn 94 []] h Q := by
  refine g.cl (vf := v93) rfl rfl ?_
  simp only [v93, aPt, hw.len, HN, RW, RX, VOp.fresh, bxC, bsC, un, most, callsOf, seval, Int.reducePow, ↓reduceIte, Nat.reduceEqDiff, reduceCtorEq]
  have y1 := Ext.mk (h := h) (.cells [.int .i64 p.x, .int .i64 p.y] 27 0)
  have g0 : (h.mk' h.next (.cells [.int .i64 p.x, .int .i64 p.y] 27 0)).get h.next = some (.cells [.int .i64 p.x, .int .i64 p.y] 27 0) := by rw [Heap.get_mk, if_pos rfl]
  have n1 : (h.mk' h.next (.cells [.int .i64 p.x, .int .i64 p.y] 27 0)).next = h.next + 1 := by rw [mk_next]; omega
  generalize h.mk' h.next (.cells [.int .i64 p.x, .int .i64 p.y] 27 0) = h1 at *
  refine near_loop g hw hs ho hp g0 (by omega) l.length 0 _ h1 _ _ (by omega) (Ext.refl _) ?_ ?_ ?_ ?_ ?_ ?_ ?_ fun s2 h2 x2 r2 b2 ks => ?_
  · simp only [sg_set, Nat.reduceEqDiff, ↓reduceIte]
    exact RowT.nil _
  · simp only [sg_set, Nat.reduceEqDiff, ↓reduceIte]
    simp [blkOf]
  · simp only [sg_set, Nat.reduceEqDiff, ↓reduceIte]
  · simp only [sg_set, Nat.reduceEqDiff, ↓reduceIte]
  · simp only [sg_set, Nat.reduceEqDiff, ↓reduceIte]
  · simp only [sg_set, Nat.reduceEqDiff, ↓reduceIte]
  · simp only [sg_set, Nat.reduceEqDiff, ↓reduceIte]
    rfl
  have t2 : sg s2 2 = .int .i64 k := (ks 2 (by decide)).trans (by simp only [sg_set, Nat.reduceEqDiff, ↓reduceIte])
  obtain ⟨cs, row, hc⟩ := r2
  rcases row with ⟨e9, e0, rfl⟩ | ⟨b, eb, vb, e9, hn, hbn, hl, hg⟩
  · obtain rfl : l = [] := List.eq_nil_of_length_eq_zero e0
    have mk0 : imn k 0 = 0 := by unfold imn; split <;> omega
    simp only [e9, RX, VOp.fresh, bxC, bsC, un, most, callsOf, seval, Int.reducePow, ↓reduceIte, Nat.reduceEqDiff, reduceCtorEq]
    refine hS.nil.cl ?_
    have sv0 : sliceV 6 .nils none (some (.int .i64 0)) none = some .nils := by rfl
    simp only [e9, t2, fmin, mk0, sv0, RX, VOp.fresh, bxC, bsC, un, most, callsOf, seval, Int.reducePow, ↓reduceIte, Nat.reduceEqDiff, reduceCtorEq]
    refine g.lpe b93_1.eq_1 ?_
    simp only [RX, VOp.fresh, bxC, bsC, un, most, callsOf, seval, Int.reducePow, ↓reduceIte, Nat.reduceEqDiff, reduceCtorEq]
    exact q _ _ [] (List.Perm.refl _) .nil (by rw [List.take_nil]; exact RowT.nil _) (by simp [blkOf]) (y1.trans x2)
  · have hb9 := b2 b (by rw [e9]; simp [blkOf])
    obtain ⟨l', cs', perm, pw, hc', ok⟩ := hS.ok (cap := l.length) hg hc hn hs fun f hf => by have := (ho f hf).1; have := (ho f hf).2.1; omega
    have pl : l'.length = l.length := perm.length_eq
    obtain ⟨M, hM⟩ : ∃ M, M = min k.toNat l.length := ⟨_, rfl⟩
    have hMl : M ≤ l.length := by omega
    have mk1 : imn k (l.length : Int) = (M : Int) := by unfold imn; split <;> omega
    have sv := slVhi (b := b) (off := 0) (len := l.length) (cap := l.length) (sz := 6) (k2 := .i64) (hi := M) hMl
    simp only [e9, RX, VOp.fresh, bxC, bsC, un, most, callsOf, seval, Int.reducePow, ↓reduceIte, Nat.reduceEqDiff, reduceCtorEq]
    refine ok.cl ?_
    simp only [e9, t2, fmin, mk1, sv, RX, VOp.fresh, bxC, bsC, un, most, callsOf, seval, Int.reducePow, ↓reduceIte, Nat.reduceEqDiff, reduceCtorEq]
    have x3 : Ext h (h2.put b (.cells cs' eb (vb + 1))) := ⟨by rw [put_next]; have := y1.1; have := x2.1; omega, fun c hc => by rw [Heap.get_put, if_neg (by omega)]; exact (y1.trans x2).2 c hc⟩
    refine near2_loop g hc' (h0 := h2.put b (.cells cs' eb (vb + 1))) (ab := b) (e := eb) (ver := vb + 1) (by rw [Heap.get_put, if_pos rfl]) (by rw [put_next]; exact hbn) (m := M) (cap := l.length) (by omega) (by omega) M 0 _ _ _ _ (by omega) (Ext.refl _) ?_ ?_ ?_ ?_ ?_ fun s4 h4 x4 r4 b4 => ?_
    · simp only [sg_set, Nat.reduceEqDiff, ↓reduceIte]
      exact RowT.nil _
    · simp only [sg_set, Nat.reduceEqDiff, ↓reduceIte]
      simp [blkOf]
    · simp only [sg_set, Nat.reduceEqDiff, ↓reduceIte]
    · simp only [sg_set, Nat.reduceEqDiff, ↓reduceIte]
    · simp only [sg_set, Nat.reduceEqDiff, ↓reduceIte]
      rfl
    have ro := r4.one
    simp only [ro, RX, VOp.fresh, bxC, bsC, un, most, callsOf, seval, Int.reducePow, ↓reduceIte, Nat.reduceEqDiff, reduceCtorEq]
    refine q _ _ l' perm pw (by rw [← hM]; exact r4) (fun c hc => ?_) (x3.trans x4)
    have := b4 c hc
    rw [put_next] at this
    have := y1.1
    have := x2.1
    omega
end
end Go.Proofs.YtpfpngmfooagiaaGreat.VM
namespace Go.Proofs.YtpfpngmfooagiaaGreat.VM
attribute [local irreducible] Af Nx EvO Ev Un Gd Cd EvR EvQ EvC Nc Gc Lp EvM NxM AfM GdM EvMR EvMQ EvMD EvMC Nm Gm
section
variable {P : Program}
theorem qnear_cl (g : Pg P tab) (hS : SortN P) {l : List Feat} {w : AV} (hw : IsL 32 RFeat w l) (hs : l.length ≤ 70000) (ho : ∀ f ∈ l, featOk f) {p : Pt} (hp : ptOk p) {k : Int} (hk : 0 ≤ k) {h : Heap} {Q : AV → Heap → Prop}
    (q : ∀ (v : AV) (h' : Heap) (l' : List Feat), l'.Perm l → (l'.Pairwise fun a b => ¬ aheadP p b a) → RowT RFeat 3 h' v (l'.take (min k.toNat l.length)) → (∀ b ∈ blkOf v, h.next ≤ b) → Ext h h' → Q v h') : Cl P 56 [w, aPt p, .int .i64 k] h Q := by
  refine g.cl (vf := v56) rfl rfl ?_
  simp only [v56, aPt, HN, RW, RX, VOp.fresh, bxC, bsC, un, most, callsOf, seval, Int.reducePow, ↓reduceIte, Nat.reduceEqDiff, reduceCtorEq]
  have y1 := Ext.mk (h := h) (.cells [.int .i64 p.x, .int .i64 p.y] 27 0)
  refine nearest_cl g hS hw hs ho hp hk fun v h' l' a1 a2 a3 a4 a5 => ?_
  have ro := a3.one
  simp only [ro, RX, VOp.fresh, bxC, bsC, un, most, callsOf, seval, Int.reducePow, ↓reduceIte, Nat.reduceEqDiff, reduceCtorEq]
  exact q v h' l' a1 a2 a3 (fun b hb => Nat.le_trans y1.1 (a4 b hb)) (y1.trans a5)
end
end Go.Proofs.YtpfpngmfooagiaaGreat.VM
namespace Go.Proofs.YtpfpngmfooagiaaGreat.VM
attribute [local irreducible] Af Nx EvO Ev Un Gd Cd EvR EvQ EvC Nc Gc Lp EvM NxM AfM GdM EvMR EvMQ EvMD EvMC Nm Gm
section
variable {P : Program}
theorem Ft.ok {f : Nat} {args : List AV} {Q : AV → Prop} (p : Ft P f args Q) (h : Heap) : ∃ v, OK P f args h v h ∧ Q v := by
  obtain ⟨v, h', o, q, rfl⟩ := p.cl (h := h) (R := fun v h' => Q v ∧ h' = h) fun v q => ⟨q, rfl⟩
  exact ⟨v, o, q⟩
theorem copyAll_ft (g : Pg P tab) {l : List Feat} {w : AV} (hw : IsL 32 RFeat w l) (hs : l.length ≤ 70000) : Ft P 42 [w] (fun t => IsL 32 RFeat t l) :=
  Ft.of fun h => copyAll_cl g hw hs fun v h' r _ => by
    obtain ⟨t, ⟨D, f, _⟩, i⟩ := r.lv (by omega)
    exact ⟨t, D, f, i⟩
theorem qnear_ft (g : Pg P tab) (hS : SortN P) {l : List Feat} {w : AV} (hw : IsL 32 RFeat w l) (hs : l.length ≤ 70000) (ho : ∀ f ∈ l, featOk f) {p : Pt} (hp : ptOk p) {k : Int} (hk : 0 ≤ k) :
    Ft P 56 [w, aPt p, .int .i64 k] (fun t => ∃ l' : List Feat, l'.Perm l ∧ (l'.Pairwise fun a b => ¬ aheadP p b a) ∧ IsL 32 RFeat t (l'.take (min k.toNat l.length))) :=
  Ft.of fun h => qnear_cl g hS hw hs ho hp hk fun v h' l' a1 a2 a3 _ _ => by
    obtain ⟨v', D, f, i⟩ := a3.fd trFeat (b := 32) (by
      have : (l'.take (min k.toNat l.length)).length ≤ 70000 := by rw [List.length_take]; omega
      rw [reach_eq]; omega)
    exact ⟨v', D, f, l', a1, a2, i⟩
/-- what Near tells -/
def NearQ (l : List Feat) (p : Pt) (k : Int) (t : AV) : Prop :=
  (t = .tup [.nils, .int .i64 2400] ∧ ¬ (featsUp l ∧ ptOk p ∧ 0 ≤ k)) ∨
  ∃ (t' : AV) (l' : List Feat), t = .tup [t', .int .i64 0] ∧ featsUp l ∧ ptOk p ∧ 0 ≤ k ∧ l'.Perm l ∧ (l'.Pairwise fun a b => ¬ aheadP p b a) ∧ IsL 32 RFeat t' (l'.take (min k.toNat l.length))
theorem near_ft (g : Pg P tab) (hS : SortN P) {l : List Feat} {w : AV} (hw : IsL 32 RFeat w l) (p : Pt) (k : Int) : Ft P 16 [w, aPt p, .int .i64 k] (NearQ l p k) := Ft.of fun h => by
  refine g.cl (vf := v16) rfl rfl ?_
  have tl : ∀ hh : Heap, ¬ (featsUp l ∧ ptOk p ∧ 0 ≤ k) → ∃ v' D, Fd hh (.tup [.nils, .int .i64 2400]) v' D ∧ NearQ l p k v' := fun hh hno => ⟨_, _, .told rfl, .inl ⟨rfl, hno⟩⟩
  simp only [v16, aPt, HN, RW, RX, VOp.fresh, bxC, bsC, un, most, callsOf, seval, Int.reducePow, ↓reduceIte, Nat.reduceEqDiff, reduceCtorEq]
  have g0 : (h.mk' h.next (.cells [.int .i64 p.x, .int .i64 p.y] 27 0)).get h.next = some (.cells [.int .i64 p.x, .int .i64 p.y] 27 0) := by rw [Heap.get_mk, if_pos rfl]
  generalize h.mk' h.next (.cells [.int .i64 p.x, .int .i64 p.y] 27 0) = h1 at *
  refine (rising_pu g hw).go (by simp [AV.tolds, AV.told, hw.told tFeat]) ?_
  rintro _ ⟨q, rfl, hq⟩
  cases q with
  | false =>
    simp only [HN, RW, RX, VOp.fresh, bxC, bsC, un, most, callsOf, seval, Int.reducePow, ↓reduceIte, Nat.reduceEqDiff, reduceCtorEq]
    exact tl _ fun c => by have := hq.2 c.1; cases this
  | true =>
    have u := hq.1 rfl
    have hlen := featsUp_len u
    simp only [g0, HN, RW, RX, VOp.fresh, bxC, bsC, un, most, callsOf, seval, Int.reducePow, ↓reduceIte, Nat.reduceEqDiff, reduceCtorEq]
    refine (pointMay_pu g p).go rfl ?_
    rintro _ rfl
    by_cases hp : ptOk p
    · have hp' : decide (ptOk p) = true := decide_eq_true hp
      rw [hp']
      by_cases c1 : k < 0
      · simp only [c1, HN, RW, RX, VOp.fresh, bxC, bsC, un, most, callsOf, seval, Int.reducePow, ↓reduceIte, Nat.reduceEqDiff, reduceCtorEq]
        exact tl _ fun c => by omega
      · obtain ⟨t1, o42, i1⟩ := (copyAll_ft g hw (by omega)).ok h1
        obtain ⟨t2, o56, l', a1, a2, a3⟩ := (qnear_ft g hS i1 (by omega) u.ok hp (k := k) (by omega)).ok h1
        simp only [aPt] at o56
        have w1 := isL_one i1
        have w2 := isL_one a3
        simp only [c1, g0, HN, RW, RX, VOp.fresh, bxC, bsC, un, most, callsOf, seval, Int.reducePow, ↓reduceIte, Nat.reduceEqDiff, reduceCtorEq]
        refine EvD.same (fun f _ hh => if f = 42 then (t1, hh) else (t2, hh)) rfl ?_
        simp only [g0, o42, o56, w1, w2, HN, RW, RX, VOp.fresh, bxC, bsC, un, most, callsOf, seval, Int.reducePow, ↓reduceIte, Nat.reduceEqDiff, reduceCtorEq]
        have ht := a3.told tFeat
        exact ⟨_, _, .told (by simp [AV.told, AV.tolds, ht]), .inr ⟨t2, l', rfl, u, hp, by omega, a1, a2, a3⟩⟩
    · have hp' : decide (ptOk p) = false := decide_eq_false hp
      rw [hp']
      simp only [HN, RW, RX, VOp.fresh, bxC, bsC, un, most, callsOf, seval, Int.reducePow, ↓reduceIte, Nat.reduceEqDiff, reduceCtorEq]
      exact tl _ fun c => hp c.2.1
end
end Go.Proofs.YtpfpngmfooagiaaGreat.VM
namespace Go.Proofs.YtpfpngmfooagiaaGreat.VM
attribute [local irreducible] Af Nx EvO Ev Un Gd Cd EvR EvQ EvC Nc Gc Lp EvM NxM AfM GdM EvMR EvMQ EvMD EvMC Nm Gm
/-- one of two with other ids comes ahead -/
theorem ahead_tot {p : Pt} {a b : Feat} (h : ¬ aheadP p b a) (hid : a.id ≠ b.id) : aheadP p a b := by
  unfold aheadP at *
  omega
theorem featsUp.nodup {l : List Feat} (u : featsUp l) : l.Pairwise fun a b => a.id ≠ b.id := by
  rw [List.pairwise_iff_getElem]
  intro i j hi hj hij
  have := featsUp_lt u j i hij hj
  rw [show l.getD i feat0 = l[i] by simp [List.getD_eq_getElem?_getD, List.getElem?_eq_getElem hi], show l.getD j feat0 = l[j] by simp [List.getD_eq_getElem?_getD, List.getElem?_eq_getElem hj]] at this
  omega
theorem perm_nodup {l l' : List Feat} (h : l'.Perm l) (u : l.Pairwise fun a b => a.id ≠ b.id) : l'.Pairwise fun a b => a.id ≠ b.id :=
  (h.pairwise_iff (R := fun a b : Feat => a.id ≠ b.id) fun {a b} (h : a.id ≠ b.id) => Ne.symm h).2 u
theorem grid_in {f : Feat} (ho : featOk f) {b : Bx} (e0 : b = ⟨0, 0, 4294967295, 4294967295⟩) : ∃ p ∈ fPts f, inB p b := by
  subst e0
  obtain ⟨h0, h1⟩ := ho.first
  have hm : (f.rings.getD 0 []).getD 0 ⟨0, 0⟩ ∈ fPts f := List.mem_flatten.2 ⟨f.rings.getD 0 [], by rw [getD_ring h0]; exact List.getElem_mem h0, by rw [getP h1]; exact List.getElem_mem h1⟩
  have := ho.pts _ hm
  unfold ptOk coordOk at this
  exact ⟨_, hm, by unfold inB; simp only; omega⟩
section
variable {P : Program}
theorem nears1 (g : Pg P tab) {p : Pt} {l A : List Feat} {w ta : AV} (hw : IsL 32 RFeat w l) (il : IsL 32 RFeat ta A) (hin : ∀ f ∈ A, f ∈ l) (hpw : A.Pairwise fun a b => aheadP p a b) (ho : ∀ f ∈ l, featOk f) (hp : ptOk p) {h : Heap} {pb e ver : Nat} (gp : h.get pb = some (.cells [.int .i64 p.x, .int .i64 p.y] e ver)) (n : Nat) :
    ∀ (i : Nat) (s : T AV) (k : List Fr) (Q : Ex → T AV → Heap → Prop), i + n = A.length → sg s 0 = w → sg s 4 = .ptr pb 0 → sg s 8 = ta → sg s 12 = .int .i64 i →
    (∀ s', (∀ j, j < 12 → sg s' j = sg s j) → Un P k Q (.exit 0) s' h) → Lp P b4_0 s h (Un P k Q) := by
  have hbd := il.bound (by decide)
  have tw := hw.told tFeat
  induction n with
  | zero =>
    intro i s k Q hi t0 t4 t8 t12 hK
    refine g.lpe b4_0.eq_1 ?_
    have c1 : ¬ ((i : Int) < (A.length : Int)) := by omega
    simp only [t8, t12, il.len, c1, RX, VOp.fresh, bxC, bsC, un, most, callsOf, seval, Int.reducePow, ↓reduceIte, Nat.reduceEqDiff, reduceCtorEq]
    exact hK _ fun j hj => by simp only [sg_set]; repeat rw [if_neg (by omega)]
  | succ n ih =>
    intro i s k Q hi t0 t4 t8 t12 hK
    refine g.lpe b4_0.eq_1 ?_
    have c1 : (i : Int) < (A.length : Int) := by omega
    have w1 : IntKind.i64.wrap ((i : Int) + 1) = ((i + 1 : Nat) : Int) := by rw [w64 (by omega) (by omega)]; push_cast; rfl
    obtain ⟨x1, r1, i4, i2, i3, _, g1⟩ := getFeat il i (by omega)
    have hmem : A.getD i feat0 ∈ A := getD_mem.2 ⟨i, by omega, rfl⟩
    have hl := hin _ hmem
    have o1 := ho _ hl
    have ox := isL_one i4
    have nxt : ∀ (s' : T AV), sg s' 0 = w → sg s' 4 = .ptr pb 0 → sg s' 8 = ta → sg s' 12 = .int .i64 ((i + 1 : Nat) : Int) → (∀ j, j < 12 → sg s' j = sg s j) → Lp P b4_0 s' h (Un P k Q) := fun s' a1 a2 a3 a4 a5 =>
      ih (i + 1) s' k Q (by omega) a1 a2 a3 a4 fun s2 q2 => hK s2 fun j hj => (q2 j hj).trans (a5 j hj)
    clear ih
    by_cases h0 : 0 < i
    · have c2 : (0 : Int) < (i : Int) := by omega
      have w2 : IntKind.i64.wrap ((i : Int) - 1) = ((i - 1 : Nat) : Int) := by rw [w64 (by omega) (by omega)]; omega
      obtain ⟨y1, r2, j4, j2, j3, _, g2⟩ := getFeat il (i - 1) (by omega)
      have hmem2 : A.getD (i - 1) feat0 ∈ A := getD_mem.2 ⟨i - 1, by omega, rfl⟩
      have o2 := ho _ (hin _ hmem2)
      have oy := isL_one j4
      have ha : aheadP p (A.getD (i - 1) feat0) (A.getD i feat0) := by
        have := List.pairwise_iff_getElem.1 hpw (i - 1) i (by omega) (by omega) (by omega)
        rwa [show A.getD (i - 1) feat0 = A[i - 1] by simp [List.getD_eq_getElem?_getD, List.getElem?_eq_getElem (show i - 1 < A.length by omega)], show A.getD i feat0 = A[i] by simp [List.getD_eq_getElem?_getD, List.getElem?_eq_getElem (show i < A.length by omega)]]
      generalize A.getD i feat0 = f at *
      generalize A.getD (i - 1) feat0 = f' at *
      simp only [t0, t4, t8, t12, il.len, c1, c2, w2, g1, g2, ox, oy, gp, Bool.or_self, RX, VOp.fresh, bxC, bsC, un, most, callsOf, seval, Int.reducePow, ↓reduceIte, Nat.reduceEqDiff, reduceCtorEq]
      refine (lplace_pu g hw f.id).go (by simp [AV.tolds, AV.told, tw]) ?_
      rintro _ (⟨_, hno⟩ | ⟨j, rfl, _, _⟩)
      · exact absurd rfl (hno _ hl)
      have c3 : ¬ (j : Int) < 0 := by omega
      simp only [t0, t4, t8, t12, c2, c3, w2, g1, g2, ox, oy, gp, Bool.or_self, RX, VOp.fresh, bxC, bsC, un, most, callsOf, seval, Int.reducePow, ↓reduceIte, Nat.reduceEqDiff, reduceCtorEq]
      refine (ahead_pu g hp j4 i4 o2 o1).go (by simp [AV.tolds, AV.told, aPt, i4.told tRing, j4.told tRing]) ?_
      rintro _ ⟨b, rfl, hb⟩
      obtain rfl : b = true := hb.2 ha
      simp only [t12, w1, RX, VOp.fresh, bxC, bsC, un, most, callsOf, seval, Int.reducePow, ↓reduceIte, Nat.reduceEqDiff, reduceCtorEq]
      refine nxt _ ?_ ?_ ?_ ?_ fun j hj => by simp only [sg_set]; repeat rw [if_neg (by omega)]
      · simp only [t0, sg_set, Nat.reduceEqDiff, ↓reduceIte]
      · simp only [t4, sg_set, Nat.reduceEqDiff, ↓reduceIte]
      · simp only [t8, sg_set, Nat.reduceEqDiff, ↓reduceIte]
      · simp only [sg_set, Nat.reduceEqDiff, ↓reduceIte]
    · have c2 : ¬ (0 : Int) < (i : Int) := by omega
      generalize A.getD i feat0 = f at *
      simp only [t0, t4, t8, t12, il.len, c1, c2, g1, ox, gp, Bool.or_self, RX, VOp.fresh, bxC, bsC, un, most, callsOf, seval, Int.reducePow, ↓reduceIte, Nat.reduceEqDiff, reduceCtorEq]
      refine (lplace_pu g hw f.id).go (by simp [AV.tolds, AV.told, tw]) ?_
      rintro _ (⟨_, hno⟩ | ⟨j, rfl, _, _⟩)
      · exact absurd rfl (hno _ hl)
      have c3 : ¬ (j : Int) < 0 := by omega
      simp only [t0, t4, t8, t12, c2, c3, w1, g1, ox, gp, Bool.or_self, RX, VOp.fresh, bxC, bsC, un, most, callsOf, seval, Int.reducePow, ↓reduceIte, Nat.reduceEqDiff, reduceCtorEq]
      refine nxt _ ?_ ?_ ?_ ?_ fun j hj => by simp only [sg_set]; repeat rw [if_neg (by omega)]
      · simp only [t0, sg_set, Nat.reduceEqDiff, ↓reduceIte]
      · simp only [t4, sg_set, Nat.reduceEqDiff, ↓reduceIte]
      · simp only [t8, sg_set, Nat.reduceEqDiff, ↓reduceIte]
      · simp only [sg_set, Nat.reduceEqDiff, ↓reduceIte]
theorem nears2 (g : Pg P tab) {p : Pt} {l A : List Feat} {w ta : AV} (hw : IsL 32 RFeat w l) (il : IsL 32 RFeat ta A) (hA : A.length ≤ 70000) (hin : ∀ f ∈ A, f ∈ l) (hno : ∀ f ∈ l, (∀ x ∈ A, x.id ≠ f.id) → 0 < A.length → ¬ aheadP p f (A.getD (A.length - 1) feat0)) (ho : ∀ f ∈ l, featOk f) (hp : ptOk p) {h : Heap} {pb e ver : Nat} (gp : h.get pb = some (.cells [.int .i64 p.x, .int .i64 p.y] e ver)) (n : Nat) :
    ∀ (i : Nat) (s : T AV) (k : List Fr) (Q : Ex → T AV → Heap → Prop), i + n = l.length → sg s 0 = w → sg s 4 = .ptr pb 0 → sg s 8 = ta → sg s 13 = .int .i64 i →
    (∀ s', Un P k Q (.exit 2) s' h) → Lp P b4_1 s h (Un P k Q) := by
  have hbd := hw.bound (by decide)
  have ta' := il.told tFeat
  induction n with
  | zero =>
    intro i s k Q hi t0 t4 t8 t13 hK
    refine g.lpe b4_1.eq_1 ?_
    have c1 : ¬ ((i : Int) < (l.length : Int)) := by omega
    simp only [t0, t13, hw.len, c1, RX, VOp.fresh, bxC, bsC, un, most, callsOf, seval, Int.reducePow, ↓reduceIte, Nat.reduceEqDiff, reduceCtorEq]
    exact hK _
  | succ n ih =>
    intro i s k Q hi t0 t4 t8 t13 hK
    refine g.lpe b4_1.eq_1 ?_
    have c1 : (i : Int) < (l.length : Int) := by omega
    have w1 : IntKind.i64.wrap ((i : Int) + 1) = ((i + 1 : Nat) : Int) := by rw [w64 (by omega) (by omega)]; push_cast; rfl
    obtain ⟨x1, r1, i4, i2, i3, _, g1⟩ := getFeat hw i (by omega)
    have hmem : l.getD i feat0 ∈ l := getD_mem.2 ⟨i, by omega, rfl⟩
    have hn := hno _ hmem
    have o1 := ho _ hmem
    have ox := isL_one i4
    have nxt : ∀ (s' : T AV), sg s' 0 = w → sg s' 4 = .ptr pb 0 → sg s' 8 = ta → sg s' 13 = .int .i64 ((i + 1 : Nat) : Int) → Lp P b4_1 s' h (Un P k Q) := fun s' a1 a2 a3 a4 => ih (i + 1) s' k Q (by omega) a1 a2 a3 a4 hK
    clear ih
    generalize l.getD i feat0 = f at *
    by_cases h0 : 0 < A.length
    · have c2 : (0 : Int) < (A.length : Int) := by omega
      have w2 : IntKind.i64.wrap ((A.length : Int) - 1) = ((A.length - 1 : Nat) : Int) := by rw [w64 (by omega) (by omega)]; omega
      obtain ⟨y1, r2, j4, j2, j3, _, g2⟩ := getFeat il (A.length - 1) (by omega)
      have hmem2 : A.getD (A.length - 1) feat0 ∈ A := getD_mem.2 ⟨A.length - 1, by omega, rfl⟩
      have o2 := ho _ (hin _ hmem2)
      have oy := isL_one j4
      generalize A.getD (A.length - 1) feat0 = f' at *
      simp only [t0, t4, t8, t13, hw.len, il.len, c1, c2, w2, g1, g2, ox, oy, gp, Bool.or_self, RX, VOp.fresh, bxC, bsC, un, most, callsOf, seval, Int.reducePow, ↓reduceIte, Nat.reduceEqDiff, reduceCtorEq]
      refine (lplace_pu g il f.id).go (by simp [AV.tolds, AV.told, ta']) ?_
      rintro _ (⟨rfl, hx⟩ | ⟨j, rfl, _, _⟩)
      · simp only [t0, t4, t8, t13, il.len, c2, w2, g1, g2, ox, oy, gp, Bool.or_self, RX, VOp.fresh, bxC, bsC, un, most, callsOf, seval, Int.reducePow, ↓reduceIte, Nat.reduceEqDiff, reduceCtorEq]
        refine (ahead_pu g hp i4 j4 o1 o2).go (by simp [AV.tolds, AV.told, aPt, i4.told tRing, j4.told tRing]) ?_
        rintro _ ⟨b, rfl, hb⟩
        have hbf : b = false := by
          cases b with
          | false => rfl
          | true => exact absurd (hb.1 rfl) (hn hx h0)
        subst hbf
        simp only [t13, w1, RX, VOp.fresh, bxC, bsC, un, most, callsOf, seval, Int.reducePow, ↓reduceIte, Nat.reduceEqDiff, reduceCtorEq]
        refine nxt _ ?_ ?_ ?_ ?_
        · simp only [t0, sg_set, Nat.reduceEqDiff, ↓reduceIte]
        · simp only [t4, sg_set, Nat.reduceEqDiff, ↓reduceIte]
        · simp only [t8, sg_set, Nat.reduceEqDiff, ↓reduceIte]
        · simp only [sg_set, Nat.reduceEqDiff, ↓reduceIte]
      · have c3 : ¬ (j : Int) < 0 := by omega
        simp only [t0, t4, t8, t13, c2, c3, w1, g1, ox, gp, Bool.or_self, RX, VOp.fresh, bxC, bsC, un, most, callsOf, seval, Int.reducePow, ↓reduceIte, Nat.reduceEqDiff, reduceCtorEq]
        refine nxt _ ?_ ?_ ?_ ?_
        · simp only [t0, sg_set, Nat.reduceEqDiff, ↓reduceIte]
        · simp only [t4, sg_set, Nat.reduceEqDiff, ↓reduceIte]
        · simp only [t8, sg_set, Nat.reduceEqDiff, ↓reduceIte]
        · simp only [sg_set, Nat.reduceEqDiff, ↓reduceIte]
    · have c2 : ¬ (0 : Int) < (A.length : Int) := by omega
      simp only [t0, t4, t8, t13, hw.len, il.len, c1, c2, w1, gp, Bool.or_self, RX, VOp.fresh, bxC, bsC, un, most, callsOf, seval, Int.reducePow, ↓reduceIte, Nat.reduceEqDiff, reduceCtorEq]
      refine nxt _ ?_ ?_ ?_ ?_
      · simp only [t0, sg_set, Nat.reduceEqDiff, ↓reduceIte]
      · simp only [t4, sg_set, Nat.reduceEqDiff, ↓reduceIte]
      · simp only [t8, sg_set, Nat.reduceEqDiff, ↓reduceIte]
      · simp only [sg_set, Nat.reduceEqDiff, ↓reduceIte]
end
end Go.Proofs.YtpfpngmfooagiaaGreat.VM
namespace Go.Proofs.YtpfpngmfooagiaaGreat.VM
attribute [local irreducible] Af Nx EvO Ev Un Gd Cd EvR EvQ EvC Nc Gc Lp EvM NxM AfM GdM EvMR EvMQ EvMD EvMC Nm Gm
section
variable {P : Program}
theorem sFeats_any (g : Pg P tab) {l : List Feat} {a b ta tb : AV} {h : Heap} (ha : Fz true h a ta) (hb : Fz true h b tb) (ia : IsL 32 RFeat ta l) (ib : IsL 32 RFeat tb l) {Q : AV → Heap → Prop} (q : Q (.bool true) h) : Cl P 18 [a, b] h Q :=
  (sFeats_pu g ia ib).cl (.cons ha (.cons hb .nil)) fun v e => by rw [e]; exact q
theorem modelNears_pu (g : Pg P tab) (hins : InsF P 46 49) (hS : SortN P) {l : List Feat} {w : AV} (hw : IsL 32 RFeat w l) (p : Pt) (k : Int) : Pu P 4 [w, aPt p, .int .i64 k] (fun v => v = .bool true) := by
  refine g.pu (vf := v4) rfl rfl ?_
  have tw := hw.told tFeat
  simp only [v4, aPt, HN, RW, RX, VOp.fresh, bxC, bsC, un, most, callsOf, seval, Int.reducePow, ↓reduceIte, Nat.reduceEqDiff, reduceCtorEq]
  generalize hh1 : (Heap.mk' _ _ _) = h1
  have g0 : h1.get 0 = some (.cells [.int .i64 p.x, .int .i64 p.y] 27 0) := by rw [← hh1]; rfl
  refine (awake24_pu g hins).go rfl ?_
  rintro _ rfl
  obtain ⟨m, hm, hm15⟩ : ∃ m : Nat, bitsOf .and .i64 k 15 = (m : Int) ∧ m ≤ 15 := by
    have h1 := and_any k (n := 4) (by decide)
    have h2 := Nat.mod_lt (k % 18446744073709551616).toNat (show 0 < 2 ^ 4 by decide)
    have h3 : bitsOf .and .i64 k 15 = (((k % 18446744073709551616).toNat % 2 ^ 4 : Nat) : Int) := by simpa using h1
    rw [h3]
    exact ⟨_, rfl, by omega⟩
  simp only [g0, hm, HN, RW, RX, VOp.fresh, bxC, bsC, un, most, callsOf, seval, Int.reducePow, ↓reduceIte, Nat.reduceEqDiff, reduceCtorEq]
  refine (near_ft g hS hw p (m : Int)).cl fun tn hn => ?_
  have win : ∀ (s : T AV) (k0 : List Fr) (Q0 : Ex → T AV → Heap → Prop) (d : Option Nat) (ol : List VO) (R : AV → Heap → Prop), (∀ h', Ext h1 h' → ¬ featsUp l → R (.tup [.nils, .int .i64 2400]) h') → (∀ v t h', featsUp l → Lv h' (h1.next ≤ ·) v t → IsL 32 RFeat t l → Ext h1 h' → R (.tup [v, .int .i64 0]) h') → Cl P 14 [w, .agg [.int .i64 0, .int .i64 0, .int .i64 4294967295, .int .i64 4294967295]] h1 R := by
    intro s k0 Q0 d ol R qN qY
    refine window_cl g hw (b := ⟨0, 0, 4294967295, 4294967295⟩) (M := fun _ => true) (fun hb f hf ho v hv => meetsIn_pu g hv ho hb (grid_in ho rfl)) (fun h' x hno => qN h' x fun u => hno ⟨u, ?_⟩) fun v h' u hb r x => ?_
    · unfold bOk bxOk; simp only; omega
    · have e : l.filter (fun _ => true) = l := List.filter_eq_self.2 fun _ _ => rfl
      rw [e] at r
      have := featsUp_len u
      obtain ⟨t, lv, i⟩ := r.lv (by omega)
      exact qY v t h' u lv i x
  rcases hn with ⟨rfl, hno⟩ | ⟨tn, l', rfl, u, hp, hk, perm, pw, hA⟩
  · simp only [HN, RW, RX, VOp.fresh, bxC, bsC, un, most, callsOf, seval, Int.reducePow, ↓reduceIte, Nat.reduceEqDiff, reduceCtorEq]
    refine win .e [] (fun _ _ _ => True) none [] _ (fun h' x hf => ?_) fun v t h' u lv i x => ?_
    · simp only [HN, RW, RX, VOp.fresh, bxC, bsC, un, most, callsOf, seval, Int.reducePow, ↓reduceIte, Nat.reduceEqDiff, reduceCtorEq]
      refine (num_pu g _).go rfl ?_
      rintro _ rfl
      simp only [HN, RW, RX, VOp.fresh, bxC, bsC, un, most, callsOf, seval, Int.reducePow, ↓reduceIte, Nat.reduceEqDiff, reduceCtorEq]
      refine (num_pu g _).go rfl ?_
      rintro _ rfl
      simp only [HN, RW, RX, VOp.fresh, bxC, bsC, un, most, callsOf, seval, Int.reducePow, ↓reduceIte, Nat.reduceEqDiff, reduceCtorEq]
    · simp only [HN, RW, RX, VOp.fresh, bxC, bsC, un, most, callsOf, seval, Int.reducePow, ↓reduceIte, Nat.reduceEqDiff, reduceCtorEq]
      refine (num_pu g _).go rfl ?_
      rintro _ rfl
      simp only [HN, RW, RX, VOp.fresh, bxC, bsC, un, most, callsOf, seval, Int.reducePow, ↓reduceIte, Nat.reduceEqDiff, reduceCtorEq]
      refine sFeats_any g lv.fz (Fz.refl tw) i hw ?_
      simp only [HN, RW, RX, VOp.fresh, bxC, bsC, un, most, callsOf, seval, Int.reducePow, ↓reduceIte, Nat.reduceEqDiff, reduceCtorEq]
      refine (num_pu g _).go rfl ?_
      rintro _ rfl
      have g1 : h'.get 0 = some (.cells [.int .i64 p.x, .int .i64 p.y] 27 0) := (x.2 0 (by rw [← hh1, mk_next]; omega)).trans g0
      simp only [g1, HN, RW, RX, VOp.fresh, bxC, bsC, un, most, callsOf, seval, Int.reducePow, ↓reduceIte, Nat.reduceEqDiff, reduceCtorEq]
      refine (rPoint_pu g p).go rfl ?_
      rintro _ ⟨b, rfl, hb⟩
      have hbf : b = false := by
        cases b with
        | false => rfl
        | true => exact absurd ⟨u, hb.1 rfl, by omega⟩ hno
      subst hbf
      simp only [HN, RW, RX, VOp.fresh, bxC, bsC, un, most, callsOf, seval, Int.reducePow, ↓reduceIte, Nat.reduceEqDiff, reduceCtorEq]
  · simp only [HN, RW, RX, VOp.fresh, bxC, bsC, un, most, callsOf, seval, Int.reducePow, ↓reduceIte, Nat.reduceEqDiff, reduceCtorEq]
    refine win .e [] (fun _ _ _ => True) none [] _ (fun h' x hf => absurd u hf) fun v t h' _ lv i x => ?_
    simp only [HN, RW, RX, VOp.fresh, bxC, bsC, un, most, callsOf, seval, Int.reducePow, ↓reduceIte, Nat.reduceEqDiff, reduceCtorEq]
    refine (num_pu g _).go rfl ?_
    rintro _ rfl
    simp only [HN, RW, RX, VOp.fresh, bxC, bsC, un, most, callsOf, seval, Int.reducePow, ↓reduceIte, Nat.reduceEqDiff, reduceCtorEq]
    refine sFeats_any g lv.fz (Fz.refl tw) i hw ?_
    simp only [HN, RW, RX, VOp.fresh, bxC, bsC, un, most, callsOf, seval, Int.reducePow, ↓reduceIte, Nat.reduceEqDiff, reduceCtorEq]
    refine (num_pu g _).go rfl ?_
    rintro _ rfl
    have hlen := featsUp_len u
    obtain ⟨A, hAe⟩ : ∃ A, A = l'.take (min (m : Int).toNat l.length) := ⟨_, rfl⟩
    rw [← hAe] at hA
    have hpl := perm.length_eq
    have hAl : A.length = min m l.length := by rw [hAe, List.length_take, hpl]; omega
    simp only [hw.len, hA.len, fmin, HN, RW, RX, VOp.fresh, bxC, bsC, un, most, callsOf, seval, Int.reducePow, ↓reduceIte, Nat.reduceEqDiff, reduceCtorEq]
    have g1 : h'.get 0 = some (.cells [.int .i64 p.x, .int .i64 p.y] 27 0) := (x.2 0 (by rw [← hh1, mk_next]; omega)).trans g0
    have nd := perm_nodup perm u.nodup
    have nd2 : A.Pairwise fun a b => a.id ≠ b.id := by rw [hAe]; exact nd.sublist (List.take_sublist _ _)
    have pw2 : A.Pairwise fun a b => ¬ aheadP p b a := by rw [hAe]; exact pw.sublist (List.take_sublist _ _)
    have hin : ∀ f ∈ A, f ∈ l := fun f hf => perm.mem_iff.1 (by rw [hAe] at hf; exact List.mem_of_mem_take hf)
    refine ⟨fun c => absurd (by rw [hAl]; unfold imn; split <;> omega) c, fun _ => ?_⟩
    refine nears1 g hw hA hin (pw2.imp₂ (fun a b h1 h2 => ahead_tot h1 h2) nd2) u.ok hp g1 A.length 0 _ _ _ (by omega) ?_ ?_ ?_ ?_ fun s2 k2 => ?_
    · simp only [sg_set, Nat.reduceEqDiff, ↓reduceIte]
    · simp only [sg_set, Nat.reduceEqDiff, ↓reduceIte]
    · simp only [sg_set, Nat.reduceEqDiff, ↓reduceIte]
    · simp only [sg_set, Nat.reduceEqDiff, ↓reduceIte]
      rfl
    have e0 : sg s2 0 = w := (k2 0 (by decide)).trans (by simp only [sg_set, Nat.reduceEqDiff, ↓reduceIte])
    have e4 : sg s2 4 = .ptr 0 0 := (k2 4 (by decide)).trans (by simp only [sg_set, Nat.reduceEqDiff, ↓reduceIte])
    have e8 : sg s2 8 = tn := (k2 8 (by decide)).trans (by simp only [sg_set, Nat.reduceEqDiff, ↓reduceIte])
    simp only [e0, e4, e8, HN, RW, RX, VOp.fresh, bxC, bsC, un, most, callsOf, seval, Int.reducePow, ↓reduceIte, Nat.reduceEqDiff, reduceCtorEq]
    refine nears2 g hw hA (by omega) hin (fun f hf hx h0 => ?_) u.ok hp g1 l.length 0 _ _ _ (by omega) ?_ ?_ ?_ ?_ fun s3 => ?_
    · have hf' : f ∈ l' := perm.mem_iff.2 hf
      rw [← List.take_append_drop (min (m : Int).toNat l.length) l'] at hf' pw
      rw [← hAe] at hf' pw
      rcases List.mem_append.1 hf' with c | c
      · exact absurd rfl (hx f c)
      · exact (List.pairwise_append.1 pw).2.2 _ (getD_mem.2 ⟨A.length - 1, by omega, rfl⟩) f c
    · simp only [e0, sg_set, Nat.reduceEqDiff, ↓reduceIte]
    · simp only [e4, sg_set, Nat.reduceEqDiff, ↓reduceIte]
    · simp only [e8, sg_set, Nat.reduceEqDiff, ↓reduceIte]
    · simp only [sg_set, Nat.reduceEqDiff, ↓reduceIte]
      rfl
    simp only [RX, VOp.fresh, bxC, bsC, un, most, callsOf, seval, Int.reducePow, ↓reduceIte, Nat.reduceEqDiff, reduceCtorEq]
end
end Go.Proofs.YtpfpngmfooagiaaGreat.VM
namespace Go.Proofs.YtpfpngmfooagiaaGreat.VM
open Go.Shelf Go.Sort
attribute [local irreducible] Af Nx EvO Ev Un Gd Cd EvR EvQ EvC Nc Gc Lp EvM NxM AfM GdM EvMR EvMQ EvMD EvMC Nm Gm
theorem cat_mapN {α : Type} {R : α → List AV → Prop} {f : Nat → α} {c : Nat → List AV} : ∀ {p : List Nat}, (∀ i ∈ p, R (f i) (c i)) → Cat R (p.map f) (p.map c).flatten
  | [], _ => .nil
  | i :: p, h => by
    rw [List.map_cons, List.map_cons, List.flatten_cons]
    exact .cons (h i (.head _)) (cat_mapN fun j hj => h j (.tail _ hj))
theorem range_getF {l : List Feat} : (List.range l.length).map (fun i => l.getD i feat0) = l := by
  apply List.ext_getElem
  · simp
  · intro i h1 h2
    simp [List.getD_eq_getElem?_getD, List.getElem?_eq_getElem h2]
theorem cat_cells {α : Type} {R : α → List AV → Prop} {z : Nat} (hz : 0 < z) (hl : ∀ a c, R a c → c.length = z) : ∀ {l : List α} {cs : List AV}, Cat R l cs → ((List.range l.length).map fun i => (cs.drop (i * z)).take z).flatten = cs
  | _, _, .nil => rfl
  | a :: l, _, .cons (c := c) (k := r) h t => by
    have e := hl _ _ h
    rw [List.length_cons, List.range_succ_eq_map, List.map_cons, List.flatten_cons, List.map_map]
    have e1 : ((c ++ r).drop (0 * z)).take z = c := by rw [Nat.zero_mul, List.drop_zero, List.take_left' e]
    rw [e1]
    congr 1
    have e2 : ((fun i => ((c ++ r).drop (i * z)).take z) ∘ Nat.succ) = fun i => (r.drop (i * z)).take z := by
      funext i
      simp only [Function.comp, Nat.succ_eq_add_one, Nat.add_mul, Nat.one_mul]
      rw [Nat.add_comm (i * z) z, ← List.drop_drop, List.drop_left' e]
    rw [e2]
    exact cat_cells hz hl t
theorem cat_cell {α : Type} {R : α → List AV → Prop} {z : Nat} (hl : ∀ a c, R a c → c.length = z) {l : List α} {cs : List AV} (c : Cat R l cs) {i : Nat} (hi : i < l.length) : R l[i] ((cs.drop (i * z)).take z) := by
  obtain ⟨ci, rr, ed, h⟩ := c.at hl i hi
  rw [ed, List.take_left' (hl _ _ h)]
  exact h
section
variable {P : Program}
theorem sortN_of (g : Pg P tab) {ρ : Ren} (L : SlLaysF0.n6 P ρ) (h6 : ρ.f 6 = 143) (aE : ∀ w, (isAgg (ρ.t 24)).run P w = .ok true w) (zE : ∀ w, (Go.sizeOf (ρ.t 24)).run P w = .ok 6 w) (eg : Enters P 144) : SortN P := by
  refine ⟨fun {H b cap e ver p l cs} hg hc h0 hsm hall => ?_, fun {H} => by rw [← h6]; exact sortF_nil L (by rw [h6]; decide)⟩
  obtain ⟨cell, hcell⟩ : ∃ cell : Nat → List AV, cell = fun i => (cs.drop (i * 6)).take 6 := ⟨_, rfl⟩
  have hR : ∀ i, i < l.length → RFar p (l.getD i feat0) (cell i) := fun i hi => by
    have := cat_cell (trFar p).len hc hi
    rw [hcell, show l.getD i feat0 = l[i] by simp [List.getD_eq_getElem?_getD, List.getElem?_eq_getElem hi]]
    exact this
  have hcells : ((List.range l.length).map cell).flatten = cs := by rw [hcell]; exact cat_cells (by decide) (trFar p).len hc
  have hg' : H.get b = some (.cells ((List.range l.length).map cell).flatten e ver) := by rw [hcells]; exact hg
  obtain ⟨fn, hfn⟩ : ∃ fn : Nat → Nat, fn = fun i => farN p (fBox (l.getD i feat0)) := ⟨_, rfl⟩
  obtain ⟨idn, hid⟩ : ∃ idn : Nat → Int, idn = fun i => (l.getD i feat0).id := ⟨_, rfl⟩
  have hids : ∀ i, i < l.length → 0 ≤ idn i ∧ idn i ≤ 65535 := fun i hi => by
    rw [hid]
    exact hall _ (getD_mem.2 ⟨i, hi, rfl⟩)
  obtain ⟨cf, hcf⟩ : ∃ cf : Nat → Nat → Int, cf = fun i j => cmpF (fn i) (fn j) (idn i) (idn j) := ⟨_, rfl⟩
  have neg : ∀ i j, cf i j < 0 ↔ fn i < fn j ∨ (fn i = fn j ∧ idn i < idn j) := fun i j => by
    rw [hcf]
    simp only [cmpF, cmpN]
    by_cases h1 : fn i < fn j
    · simp [h1]
    · by_cases h2 : fn j < fn i
      · simp [h1, h2]; omega
      · simp [h1, h2]; omega
  have lt : ∀ x y : _root_.Fin l.length, ltOf (fun x y : _root_.Fin l.length => cf x.1 y.1) x y = decide (fn x.1 < fn y.1 ∨ (fn x.1 = fn y.1 ∧ idn x.1 < idn y.1)) := fun x y => by
    show decide (cf x.1 y.1 < 0) = _
    congr 1
    rw [eq_iff_iff]; exact neg _ _
  obtain ⟨pp, sp, ok⟩ := sortF_ok (cell := cell) (told := cell) (cap := cap) L (by rw [h6]; decide) aE zE (by decide) h0 (by omega) (fun i hi => (trFar p).len _ _ (hR i hi)) (fun i hi => (trFar p).one _ _ (hR i hi)) hg' eg (cf := cf)
    ⟨fun x => by rw [lt]; simp, fun x y z h1 h2 => by rw [lt] at *; simp at *; omega, fun x y z h1 h2 => by rw [lt] at *; simp at *; omega⟩
    (fun i hi => Fzs.refl ((trFar p).told _ _ (hR i hi))) fun i j hi hj => by
      obtain ⟨vi, ei, i1, i2, i3⟩ := hR i hi
      obtain ⟨vj, ej, j1, j2, j3⟩ := hR j hj
      rw [ei, ej, hcf, hfn, hid]
      have q1 := hids i hi
      have q2 := hids j hj
      rw [hid] at q1 q2
      exact fcmp_pu g (x1 := .int .i64 (l.getD i feat0).id) (x2 := .int .i64 (l.getD i feat0).shape) (x3 := vi) (y1 := .int .i64 (l.getD j feat0).id) (y2 := .int .i64 (l.getD j feat0).shape) (y3 := vj) (by simp [AV.tolds, AV.told, i3.told tRing]) (by simp [AV.tolds, AV.told, j3.told tRing]) (by simp [List.all_cons, isL_one i3, one_int]) (by simp [List.all_cons, isL_one j3, one_int]) _ _ q1 q2
  have hin : ∀ i ∈ pp, i < l.length := fun i hi => List.mem_range.1 (sp.perm.mem_iff.1 hi)
  refine ⟨pp.map fun i => l.getD i feat0, (pp.map cell).flatten, ?_, ?_, cat_mapN fun i hi => hR i (hin i hi), ?_⟩
  · conv => rhs; rw [← range_getF (l := l)]
    exact sp.perm.map _
  · rw [List.pairwise_map]
    refine sp.rise.imp fun {i j} h hc => h ((neg j i).2 ?_)
    rw [hfn, hid]
    exact hc
  · rw [h6] at ok
    exact ok
end
end Go.Proofs.YtpfpngmfooagiaaGreat.VM
namespace Go.Proofs.YtpfpngmfooagiaaGreat.VM
theorem wFs {c : List AV} (h : Ws [.sl 40 shFeat] c) : ∃ w l, c = [w] ∧ IsL 32 RFeat w l := by
  cases h with | cons h t =>
    cases t
    obtain ⟨l, hl⟩ := h.isL wFeat
    exact ⟨_, l, rfl, Nat.le_trans (Nat.mul_le_mul_left _ (by decide)) hl.1, hl.2⟩
theorem wPt2 {c : List AV} (h : Ws [.int .i64, .int .i64] c) : ∃ p : Pt, c = [.int .i64 p.x, .int .i64 p.y] := by
  obtain ⟨p, e, _⟩ := wPt _ h
  exact ⟨p, e⟩
/-- a struct handed over -/
theorem open_agg {w : World} {v : Value} {avs : List AV} (h : VRs none0 w avs v.cells.toList) (hl : avs.length ≠ 1) : VR none0 w (.agg avs) v := by
  cases v with
  | agg cs => exact .agg h
  | _ => exact absurd h.length hl
end Go.Proofs.YtpfpngmfooagiaaGreat.VM
