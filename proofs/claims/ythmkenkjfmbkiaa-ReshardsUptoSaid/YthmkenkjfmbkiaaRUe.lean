/- Part of a proof: what stands for the program, and its walk. No condition. -/
import Derived.Below
import Derived.ChangeArms
import Derived.ChangeMaps5
import Derived.Laws.Cells
import Derived.Laws.IdiomCopy
import Derived.MapKept
import Derived.OrdersIn
import Derived.RangeFuncLeaves
import Derived.RangeFuncRecord
import Derived.Shelf.Spec.SlicesInsertGrow
import Derived.SizedLaws
import Derived.WalkKit
import Derived.WalkLawsBesides
import GoSem.Claim
import Derived.Test.YthmkenkjfmbkiaaRUd
set_option linter.unusedSimpArgs false
set_option linter.unusedVariables false
set_option linter.defProp false
set_option maxHeartbeats 1000000
namespace Go.Proofs.Ythmkenkjfmbkiaa.VM
attribute [local irreducible] Af Nx EvO Ev Un Gd Cd EvR EvQ EvC Nc Gc Lp EvM NxM AfM GdM EvMR EvMQ EvMD EvMC Nm Gm
section
variable {P : Program}
theorem clonePts_cl (g : Pg P tab) {r : List Pt} {w : AV} (hw : IsL 16 RPt w r) {h : Heap} {Q : AV → Heap → Prop}
    (q : ∀ v t h', Lv h' (h.next ≤ ·) v t → IsL 16 RPt t r → v.cells = some [v] → v.one = true → Ext h h' → Q v h') : Cl P 72 [w] h Q := by
  refine g.cl (vf := v72) rfl rfl ?_
  have hx := hw
  obtain ⟨hb, ⟨rfl, hl⟩ | ⟨c, rfl, hc⟩⟩ := hw
  · have e : eqv .sl .nils .nils = some true := rfl
    simp only [v72, HE, e, RX, VOp.fresh, bxC, bsC, un, most, callsOf, seval, Int.reducePow, ↓reduceIte, Nat.reduceEqDiff, reduceCtorEq]
    exact q .nils .nils _ .nils ⟨hb, .inl ⟨rfl, hl⟩⟩ rfl rfl (Ext.refl h)
  · have e : eqv .sl (.rs c r.length) .nils = some false := rfl
    have x1 := Ext.mk (h := h) (.cells [] 61 0)
    have n1 : (h.mk' h.next (.cells [] 61 0)).next = h.next + 1 := by rw [mk_next]; omega
    obtain ⟨v, h', t, a1, a2, a3, a4, a5, a6, a7⟩ := app_copy (bytes := 16) plainPt hx (h := h.mk' h.next (.cells [] 61 0)) (b := h.next) (by rw [Heap.get_mk, if_pos rfl]) 61
    rw [n1] at a2 a3 a4
    simp only [v72, HE, e, a1, RX, VOp.fresh, bxC, bsC, un, most, callsOf, seval, Int.reducePow, ↓reduceIte, Nat.reduceEqDiff, reduceCtorEq]
    exact q v t h' (a4.weak fun c hc _ => by omega) a5 a6 a7 ⟨by omega, fun b hb => (a3 b (by omega) (by omega)).trans (x1.2 b hb)⟩
theorem fcopy_loop (g : Pg P tab) {rs : List (List Pt)} {w : AV} (hw : IsL 24 RRing w rs) {R : Nat} (n : Nat) :
    ∀ (i : Nat) (A U : List AV) (s : T AV) (h : Heap) (k : List Fr) (Q : Ex → T AV → Heap → Prop), i + n = rs.length → R < h.next → (∃ e ver, h.get R = some (.cells (A ++ List.replicate n .nils) e ver)) → A.length = i → A.all AV.one = true → Lvs h (R < ·) A U → Cat RRing (rs.take i) U →
    sg s 3 = .sl R 0 rs.length rs.length 1 → sg s 11 = w → sg s 12 = .int .i64 rs.length → sg s 13 = .int .i64 i →
    (∀ s' h' A' U', (∃ e ver, h'.get R = some (.cells A' e ver)) → A'.length = rs.length → A'.all AV.one = true → Lvs h' (R < ·) A' U' → Cat RRing rs U' → (∀ b, b < h.next → b ≠ R → h'.get b = h.get b) → h.next ≤ h'.next → (∀ j, j < 4 → sg s' j = sg s j) → Un P k Q (.exit 0) s' h') → Lp P b46_0 s h (Un P k Q) := by
  have hbd := hw.bound (by decide)
  induction n with
  | zero =>
    intro i A U s h k Q hi hR ⟨e, ver, hg⟩ hA ho lv hc t3 t11 t12 t13 hQ
    refine g.lpe b46_0.eq_1 ?_
    have c1 : ¬ ((i : Int) < (rs.length : Int)) := by omega
    simp only [t3, t11, t12, t13, c1, RX, VOp.fresh, bxC, bsC, un, most, callsOf, seval, Int.reducePow, ↓reduceIte, Nat.reduceEqDiff, reduceCtorEq]
    have hi' : i = rs.length := by omega
    subst hi'
    rw [List.take_length] at hc
    rw [List.replicate_zero, List.append_nil] at hg
    exact hQ _ _ A U ⟨e, ver, hg⟩ hA ho lv hc (fun _ _ _ => rfl) (Nat.le_refl _) fun j hj => by simp only [sg_set]; repeat rw [if_neg (by omega)]
  | succ n ih =>
    intro i A U s h k Q hi hR ⟨e, ver, hg⟩ hA ho lv hc t3 t11 t12 t13 hQ
    refine g.lpe b46_0.eq_1 ?_
    have c1 : ((i : Int) < (rs.length : Int)) := by omega
    have w1 : IntKind.i64.wrap ((i : Int) + 1) = ((i + 1 : Nat) : Int) := by rw [w64 (by omega) (by omega)]; push_cast; rfl
    obtain ⟨ci, rr, ⟨va, rfl, hr⟩, hat⟩ := hw.at (fun a c ⟨v, e, _⟩ => by rw [e]; rfl) i (by omega)
    simp only [t3, t11, t12, t13, c1, hat, RX, VOp.fresh, bxC, bsC, un, most, callsOf, seval, Int.reducePow, ↓reduceIte, Nat.reduceEqDiff, reduceCtorEq]
    refine clonePts_cl g hr fun v t h1 lv1 is1 cl1 on1 x1 => ?_
    have hg1 := (x1.2 R hR).trans hg
    have hia : ∀ (hh : Heap) (q : IntKind), iaV hh 1 none (.sl R 0 rs.length rs.length 1) (.int q (i : Int)) = .val (.ptr R i) hh := fun hh q => by
      have : 0 ≤ (i : Int) ∧ (i : Int) < (rs.length : Int) ∧ 1 = 1 := ⟨by omega, by omega, rfl⟩
      simp only [iaV, this, and_self, if_true, Int.toNat_natCast, Nat.zero_add, Nat.mul_one]
    have hwr := wr_at hg1 (show i < (A ++ List.replicate (n + 1) AV.nils).length by rw [List.length_append, hA, List.length_replicate]; omega) on1
    have hset : (A ++ List.replicate (n + 1) AV.nils).set i v = (A ++ [v]) ++ List.replicate n AV.nils := by
      rw [List.set_append, if_neg (by omega), hA, Nat.sub_self, List.replicate_succ, List.set_cons_zero, List.append_assoc]; rfl
    rw [hset] at hwr
    have kp : ∀ c, c ≠ R → (h1.put R (.cells ((A ++ [v]) ++ List.replicate n AV.nils) e (ver + 1))).get c = h1.get c := fun c hc => by rw [Heap.get_put, if_neg hc]
    simp only [t3, t11, t12, t13, hia, hwr, cl1, w1, RW, RX, VOp.fresh, bxC, bsC, un, most, callsOf, seval, Int.reducePow, ↓reduceIte, Nat.reduceEqDiff, reduceCtorEq]
    refine ih (i + 1) (A ++ [v]) (U ++ [t]) _ _ k Q (by omega) (by rw [put_next]; exact Nat.lt_of_lt_of_le hR x1.1) ⟨e, ver + 1, by rw [Heap.get_put, if_pos rfl]⟩ (by rw [List.length_append, hA]; rfl) (by rw [List.all_append, ho]; simp [on1]) ?_ (hc.take (by omega) ⟨t, rfl, is1⟩) ?_ ?_ ?_ ?_ fun s' h' A' U' q1 q2 q3 q4 q5 q6 q7 q8 => ?_
    · have l1 : Lvs h1 (R < ·) (A ++ [v]) (U ++ [t]) := (lv.frame x1.1 fun b _ hb => x1.2 b hb).app (.cons (lv1.weak fun b hb _ => by omega) .nil)
      exact l1.frame (by rw [put_next]; exact Nat.le_refl _) fun b hb _ => kp b (by omega)
    · simp only [t3, sg_set, Nat.reduceEqDiff, ↓reduceIte]
    · simp only [t11, sg_set, Nat.reduceEqDiff, ↓reduceIte]
    · simp only [t12, sg_set, Nat.reduceEqDiff, ↓reduceIte]
    · simp only [sg_set, Nat.reduceEqDiff, ↓reduceIte]
    · refine hQ s' h' A' U' q1 q2 q3 q4 q5 (fun b hb hne => ?_) (by rw [put_next] at q7; exact Nat.le_trans x1.1 q7) fun j hj => ?_
      · rw [q6 b (by rw [put_next]; exact Nat.lt_of_lt_of_le hb x1.1) hne, kp b hne]; exact x1.2 b hb
      · rw [q8 j hj]; simp only [sg_set]; repeat rw [if_neg (by omega)]
theorem fcopy_cl (g : Pg P tab) {f : Feat} {c : List AV} (hf : RFeat f c) {h : Heap} {Q : AV → Heap → Prop}
    (q : ∀ c' t h', Lvs h' (h.next ≤ ·) c' t → RFeat f t → c'.length = 3 → c'.all AV.one = true → Ext h h' → Q (.agg c') h') : Cl P 46 [.agg c] h Q := by
  obtain ⟨w, rfl, h1, h2, hw⟩ := hf
  refine g.cl (vf := v46) rfl rfl ?_
  have hbd := hw.bound (by decide)
  have mS : ∀ (H : Heap) (nm : Nat), mkS H nm [.nils] 62 24 (.int .i64 (f.rings.length : Int)) (.int .i64 (f.rings.length : Int)) = .val (.sl nm 0 f.rings.length f.rings.length 1) (H.mk' nm (.cells (List.replicate f.rings.length .nils) 62 0)) := fun H nm => by
    have := hw.1
    rw [reach_eq] at this
    rw [mkS_ok (by omega) (by rw [Int.toNat_natCast]; omega) (by rw [Int.toNat_natCast]; omega), Int.toNat_natCast]
    have : (List.replicate f.rings.length [AV.nils]).flatten = List.replicate f.rings.length AV.nils := by simp
    rw [this]; rfl
  have ow := isL_one hw
  simp only [v46, HN, hw.len, mS, RW, RX, VOp.fresh, bxC, bsC, un, most, callsOf, seval, Int.reducePow, ↓reduceIte, Nat.reduceEqDiff, reduceCtorEq]
  have g0 : ∀ (X : Blk), (((h.mk' h.next (.cells [.int .i64 f.id, .int .i64 f.shape, w] 50 0)).mk' (h.next + 1) (.cells [.int .i64 0, .int .i64 0, .nils] 50 0)).mk' (h.next + 2) X).get h.next = some (.cells [.int .i64 f.id, .int .i64 f.shape, w] 50 0) := fun X => by
    rw [Heap.get_mk, if_neg (by omega), Heap.get_mk, if_neg (by omega), Heap.get_mk, if_pos rfl]
  have g1 : ∀ (X : Blk), (((h.mk' h.next (.cells [.int .i64 f.id, .int .i64 f.shape, w] 50 0)).mk' (h.next + 1) (.cells [.int .i64 0, .int .i64 0, .nils] 50 0)).mk' (h.next + 2) X).get (h.next + 1) = some (.cells [.int .i64 0, .int .i64 0, .nils] 50 0) := fun X => by
    rw [Heap.get_mk, if_neg (by omega), Heap.get_mk, if_pos rfl]
  have g2 : ∀ (X : Blk), (((h.mk' h.next (.cells [.int .i64 f.id, .int .i64 f.shape, w] 50 0)).mk' (h.next + 1) (.cells [.int .i64 0, .int .i64 0, .nils] 50 0)).mk' (h.next + 2) X).get (h.next + 2) = some X := fun X => by
    rw [Heap.get_mk, if_pos rfl]
  have n0 : ∀ (X : Blk), (((h.mk' h.next (.cells [.int .i64 f.id, .int .i64 f.shape, w] 50 0)).mk' (h.next + 1) (.cells [.int .i64 0, .int .i64 0, .nils] 50 0)).mk' (h.next + 2) X).next = h.next + 3 := fun X => by rw [mk_next, mk_next, mk_next]; omega
  have x0 : ∀ (X : Blk), Ext h (((h.mk' h.next (.cells [.int .i64 f.id, .int .i64 f.shape, w] 50 0)).mk' (h.next + 1) (.cells [.int .i64 0, .int .i64 0, .nils] 50 0)).mk' (h.next + 2) X) := fun X => ((Ext.refl h).mkn (Nat.le_refl _) _ |>.mkn (by omega) _).mkn (by omega) _
  have g0' := g0 (.cells (List.replicate f.rings.length .nils) 62 0)
  have g1' := g1 (.cells (List.replicate f.rings.length .nils) 62 0)
  have g2' := g2 (.cells (List.replicate f.rings.length .nils) 62 0)
  have n0' := n0 (.cells (List.replicate f.rings.length .nils) 62 0)
  have x0' := x0 (.cells (List.replicate f.rings.length .nils) 62 0)
  generalize ((h.mk' h.next (.cells [.int .i64 f.id, .int .i64 f.shape, w] 50 0)).mk' (h.next + 1) (.cells [.int .i64 0, .int .i64 0, .nils] 50 0)).mk' (h.next + 2) (.cells (List.replicate f.rings.length .nils) 62 0) = H at *
  clear g0 g1 g2 n0 x0
  refine fcopy_loop g hw (R := h.next + 2) f.rings.length 0 [] [] _ H _ _ (by omega) (by omega) ⟨62, 0, g2'⟩ rfl rfl .nil .nil ?_ ?_ ?_ ?_ fun s' h' A U ⟨e, ver, hA⟩ hl ho lv hc kp hn ks => ?_
  · simp only [sg_set, Nat.reduceEqDiff, ↓reduceIte]
  · simp only [sg_set, Nat.reduceEqDiff, ↓reduceIte]
  · simp only [sg_set, Nat.reduceEqDiff, ↓reduceIte]
  · simp only [sg_set, Nat.reduceEqDiff, ↓reduceIte]
    rfl
  have t1 : sg s' 1 = .ptr h.next 0 := (ks 1 (by decide)).trans (by simp only [sg_set, Nat.reduceEqDiff, ↓reduceIte])
  have t2 : sg s' 2 = .ptr (h.next + 1) 0 := (ks 2 (by decide)).trans (by simp only [sg_set, Nat.reduceEqDiff, ↓reduceIte])
  have t3 : sg s' 3 = .sl (h.next + 2) 0 f.rings.length f.rings.length 1 := (ks 3 (by decide)).trans (by simp only [sg_set, Nat.reduceEqDiff, ↓reduceIte])
  have gb := (kp h.next (by omega) (by omega)).trans g0'
  have gc := (kp (h.next + 1) (by omega) (by omega)).trans g1'
  simp only [t1, t2, t3, gb, gc, HN, RW, RX, VOp.fresh, bxC, bsC, un, most, callsOf, seval, Int.reducePow, ↓reduceIte, Nat.reduceEqDiff, reduceCtorEq]
  obtain ⟨tv, lr, ir⟩ : ∃ tv, Lv h' (h.next + 2 ≤ ·) (.sl (h.next + 2) 0 f.rings.length f.rings.length 1) tv ∧ IsL 24 RRing tv f.rings := by
    by_cases z : f.rings.length = 0
    · have z' : f.rings = [] := List.eq_nil_of_length_eq_zero z
      rw [z]
      exact ⟨.rs [] 0, ⟨[], .sl0, rfl, Own.nil, fun b hb => by simp at hb⟩, hw.1, .inr ⟨[], by rw [z], by rw [z']; exact .nil⟩⟩
    · refine ⟨.rs U f.rings.length, ?_, hw.1, .inr ⟨U, rfl, hc⟩⟩
      have := LR.lv (h := h') (B := (h.next + 2 ≤ ·)) (v := .sl (h.next + 2) 0 f.rings.length f.rings.length 1) (sz := 1) (t := U) (n := f.rings.length) ⟨A, .inr ⟨_, e, ver, rfl, by omega, by omega, by rw [hl, Nat.mul_one], hA⟩, lv.weak fun b hb _ => ⟨by omega, by simp [blkOf]; omega⟩, fun b hb => by simp [blkOf] at hb; omega⟩
      rwa [cRow_s _ (by omega)] at this
  refine q [.int .i64 f.id, .int .i64 f.shape, .sl (h.next + 2) 0 f.rings.length f.rings.length 1] [.int .i64 f.id, .int .i64 f.shape, tv] _ (((Lvs.cons .int (.cons .int (.cons lr .nil))).put (by omega) _ |>.put (by omega) _).weak fun c hc _ => by omega) ⟨tv, rfl, h1, h2, ir⟩ rfl rfl ⟨by simp only [put_next]; omega, fun b hb => ?_⟩
  rw [Heap.get_put, if_neg (by omega), Heap.get_put, if_neg (by omega), kp b (by omega) (by omega)]
  exact x0'.2 b hb
end
end Go.Proofs.Ythmkenkjfmbkiaa.VM
namespace Go.Proofs.Ythmkenkjfmbkiaa.VM
attribute [local irreducible] Af Nx EvO Ev Un Gd Cd EvR EvQ EvC Nc Gc Lp EvM NxM AfM GdM EvMR EvMQ EvMD EvMC Nm Gm
theorem ic_bare : ∀ l : List Int, AV.bares (ic l) = true
  | [] => rfl
  | _ :: l => by
    show (AV.bare _ && AV.bares (ic l)) = true
    rw [ic_bare l]; rfl
theorem WRow.lv {h : Heap} {N b : Nat} {l : List Int} {v : AV} (w : WRow h N l v b) (h0 : 0 < l.length) : Lv h (· = b) v (tI l) := by
  obtain ⟨cap, e, ver, z, rfl, h2, h3, h4, h5⟩ := w
  refine ⟨[b], (Fd.sl (cs := ic l) (cs' := ic l) (D := []) h0 h3 h4 ?_ (Fds.tolds (ic_told l))).cast rfl, rfl, ?_, fun c hc => by simpa using hc⟩
  · rw [cut_eq, List.drop_zero, Nat.mul_one, List.take_left' (ic_len l), if_pos (ic_len l)]
  · intro c hc
    obtain rfl : c = b := by simpa using hc
    exact ⟨_, e, ver, h4, by rw [bares_app, ic_bare, h5]; rfl⟩
/-- what is put for a feature -/
def putF (f : Feat) : Op := ⟨0, f, 0, ⟨0, [], []⟩⟩
def mapO (M : Mp) : Op := ⟨2, ⟨0, 0, []⟩, 0, M⟩
def rsO (M : Mp) (fs : List Feat) : List Op := mapO M :: fs.map putF
def RPut (f : Feat) (c : List AV) : Prop := ∃ v, c = [.int .i64 0, .int .i64 f.id, .int .i64 f.shape, v, .int .i64 0, .int .i64 0, .nils, .nils] ∧ I64 f.id ∧ I64 f.shape ∧ IsL 24 RRing v f.rings
theorem RPut.op {f : Feat} {c : List AV} (h : RPut f c) : ROp (putF f) c := by
  obtain ⟨v, rfl, h1, h2, h3⟩ := h
  exact ⟨v, .nils, .nils, rfl, ⟨by show -9223372036854775808 ≤ (0 : Int); omega, by show (0 : Int) ≤ 9223372036854775807; omega⟩, h1, h2, h3, ⟨by show -9223372036854775808 ≤ (0 : Int); omega, by show (0 : Int) ≤ 9223372036854775807; omega⟩, ⟨by show -9223372036854775808 ≤ (0 : Int); omega, by show (0 : Int) ≤ 9223372036854775807; omega⟩, isL_nil 8 RInt, isL_nil 8 RInt⟩
theorem i64_0 : I64 0 := ⟨by omega, by omega⟩
theorem Cat.put {fs : List Feat} {tc : List AV} (h : Cat RPut fs tc) : Cat ROp (fs.map putF) tc := by
  induction h with
  | nil => exact .nil
  | cons h t ih => exact .cons h.op ih
section
variable {P : Program}
theorem rops_loop (g : Pg P tab) {fs : List Feat} {w : AV} (hw : IsL 40 RFeat w fs) (hsm : fs.length ≤ 31) {N0 : Nat} {T0 : List AV} (n : Nat) :
    ∀ (i : Nat) (tc : List AV) (s : T AV) (h : Heap) (k : List Fr) (Q : Ex → T AV → Heap → Prop), i + n = fs.length → N0 ≤ h.next → LR h (N0 ≤ ·) (sg s 12) 8 (T0 ++ tc) (i + 1) → Cat RPut (fs.take i) tc →
    sg s 32 = w → sg s 33 = .int .i64 fs.length → sg s 34 = .int .i64 i →
    (∀ s' h' tc', LR h' (N0 ≤ ·) (sg s' 12) 8 (T0 ++ tc') (fs.length + 1) → Cat RPut fs tc' → (∀ b, b < N0 → h'.get b = h.get b) → N0 ≤ h'.next → (∀ j, j < 10 → sg s' j = sg s j) → Un P k Q (.exit 0) s' h') → Lp P b14_0 s h (Un P k Q) := by
  induction n with
  | zero =>
    intro i tc s h k Q hi hh r hc t32 t33 t34 hQ
    refine g.lpe b14_0.eq_1 ?_
    have c1 : ¬ ((i : Int) < (fs.length : Int)) := by omega
    simp only [t32, t33, t34, c1, RX, VOp.fresh, bxC, bsC, un, most, callsOf, seval, Int.reducePow, ↓reduceIte, Nat.reduceEqDiff, reduceCtorEq]
    have hi' : i = fs.length := by omega
    subst hi'
    rw [List.take_length] at hc
    refine hQ _ _ _ ?_ hc (fun _ _ => rfl) hh fun j hj => by simp only [sg_set]; repeat rw [if_neg (by omega)]
    simp only [sg_set, Nat.reduceEqDiff, ↓reduceIte]
    exact r
  | succ n ih =>
    intro i tc s h k Q hi hh r hc t32 t33 t34 hQ
    refine g.lpe b14_0.eq_1 ?_
    have c1 : ((i : Int) < (fs.length : Int)) := by omega
    have w1 : IntKind.i64.wrap ((i : Int) + 1) = ((i + 1 : Nat) : Int) := by rw [w64 (by omega) (by omega)]; push_cast; rfl
    have hm : (i + 1 + 1) * 112 ≤ most2 := by unfold most2; omega
    obtain ⟨ci, rr, ⟨va, rfl, i1, i2, i3⟩, hat⟩ := hw.at zFeat i (by omega)
    have ova := isL_one i3
    simp only [t32, t33, t34, c1, hat, ova, HN, RW, RX, VOp.fresh, bxC, bsC, un, most, callsOf, seval, Int.reducePow, ↓reduceIte, Nat.reduceEqDiff, reduceCtorEq]
    refine fcopy_cl g (f := fs[i]) ⟨va, rfl, i1, i2, i3⟩ fun c1' t1 h1 lv1 is1 ln1 on1 e1 => ?_
    obtain ⟨x1, x2, x3, rfl⟩ := len3 ln1
    have on1' := on1
    simp only [List.all_cons, List.all_nil, Bool.and_true, Bool.and_eq_true] at on1'
    obtain ⟨o1, o2, o3⟩ := on1'
    have ne1 := e1.1
    simp only [put_next, mk_next] at ne1
    have xh : Ext h h1 := (((Ext.refl h).mkn (Nat.le_refl _) _).putn (Nat.le_refl _) _).trans e1
    have em := Ext.mk (h := h1) (.cells [.int .i64 0, x1, x2, x3, .int .i64 0, .int .i64 0, .nils, .nils] 52 0)
    have nb : (h1.mk' h1.next (.cells [.int .i64 0, x1, x2, x3, .int .i64 0, .int .i64 0, .nils, .nils] 52 0)).next = h1.next + 1 := by rw [mk_next]; omega
    have hlt := r.lt
    have r2 : LR h1 (N0 ≤ ·) (sg s 12) 8 (T0 ++ tc) (i + 1) := r.frame xh.1 fun b _ hb => xh.2 b hb
    have a0 : Lvs h1 (fun b => N0 ≤ b ∧ b ∉ blkOf (sg s 12)) [.int .i64 0, x1, x2, x3, .int .i64 0, .int .i64 0, .nils, .nils] ([.int .i64 0] ++ t1 ++ [.int .i64 0, .int .i64 0, .nils, .nils]) :=
      (Lvs.cons (l := []) .int .nil).app (lv1.weak fun b hb _ => ⟨by simp only [put_next, mk_next] at hb; omega, fun hc => by have := hlt b hc; simp only [put_next, mk_next] at hb; omega⟩) |>.app (.cons .int (.cons .int (.cons .nils (.cons .nils .nil))))
    have on8 : [AV.int .i64 0, x1, x2, x3, .int .i64 0, .int .i64 0, .nils, .nils].all AV.one = true := by simp only [List.all_cons, List.all_nil, one_int, o1, o2, o3, Bool.and_true, Bool.and_self]; rfl
    obtain ⟨H3, p3, r3, n3, k3⟩ := (r2.frame em.1 fun b _ hb => em.2 b hb).push (nb := h1.next) (eb := 52) (vb := 0) (c := [.int .i64 0, x1, x2, x3, .int .i64 0, .int .i64 0, .nils, .nils]) (by rw [Heap.get_mk, if_pos rfl]) rfl on8 (a0.frame em.1 fun b _ hb => em.2 b hb) (by rw [nb]; omega) (bytes := 112) hm 52
    rw [nb] at p3 r3 n3 k3
    have hv := r2.inB
    have kk3 : ∀ b, b < N0 → H3.get b = h.get b := fun b hb => (k3 b (fun hc => by have := hv b hc; omega) (by omega)).trans ((em.2 b (by omega)).trans (xh.2 b (by omega)))
    simp only [t32, t33, t34, o1, o2, o3, p3, w1, HN, RW, RX, VOp.fresh, bxC, bsC, un, most, callsOf, seval, Int.reducePow, ↓reduceIte, Nat.reduceEqDiff, reduceCtorEq]
    obtain ⟨tv, rfl, j1, j2, j3⟩ := is1
    refine ih (i + 1) (tc ++ [.int .i64 0, .int .i64 (fs[i]).id, .int .i64 (fs[i]).shape, tv, .int .i64 0, .int .i64 0, .nils, .nils]) _ H3 k Q (by omega) (by omega) ?_ (hc.take (by omega) ⟨tv, rfl, j1, j2, j3⟩) ?_ ?_ ?_ ?_
    · simp only [sg_set, Nat.reduceEqDiff, ↓reduceIte]
      rw [← List.append_assoc]
      exact r3
    · simp only [t32, sg_set, Nat.reduceEqDiff, ↓reduceIte]
    · simp only [t33, sg_set, Nat.reduceEqDiff, ↓reduceIte]
    · simp only [sg_set, Nat.reduceEqDiff, ↓reduceIte]
    · intro s' h' tc' q1 q2 q3 q4 q5
      exact hQ s' h' tc' q1 q2 (fun b hb => (q3 b hb).trans (kk3 b hb)) q4 fun j hj => by rw [q5 j hj]; simp only [sg_set]; repeat rw [if_neg (by omega)]
theorem IxErr {nodes k a t e : Int} {m : Mp} (c : ChErr nodes m k a t e) : e ≠ 0 ∧ ∀ i, ¬ ChYes nodes m k a t i := by
  rcases c with ⟨no, rfl⟩ | ⟨_, he, rfl⟩ | ⟨_, _, rfl, i, hi, no⟩
  · exact ⟨by omega, fun i y => no y.1⟩
  · exact ⟨by omega, fun i y => y.2.1 he⟩
  · refine ⟨by omega, fun j y => ?_⟩
    obtain rfl := y.2.2.1.uniq y.1.1.rise hi
    rcases no with no | no
    · exact y.2.2.2.1 no
    · exact no y.2.2.2.2
/-- when the shard is parted -/
def RsYes (nodes : Int) (m : Mp) (k a t : Int) (fs : List Feat) (i : Nat) : Prop := ChYes nodes m k a t i ∧ fs.length ≤ 31 ∧ opsOk nodes (rsO (chgR m k a t i) fs)
theorem rops_cl (g : Pg P tab) (hins : InsOk P) {m : Mp} {v u w : AV} {fs : List Feat} (hv : IsL 8 RInt v m.starts) (hu : IsL 8 RInt u m.owners) (hw : IsL 40 RFeat w fs) {nodes k a t : Int} (ha : I64 a) (ht : I64 t) {h : Heap} {Q : AV → Heap → Prop}
    (qN : ∀ h', Ext h h' → (∀ i, ¬ RsYes nodes m k a t fs i) → Q (.tup [.nils, .int .i64 2200]) h')
    (qY : ∀ h' i x tc, RsYes nodes m k a t fs i → LR h' (h.next ≤ ·) x 8 ([.int .i64 2, .int .i64 0, .int .i64 0, .nils, .int .i64 0, .int .i64 (chgR m k a t i).epoch, tI (chgR m k a t i).starts, tI (chgR m k a t i).owners] ++ tc) (fs.length + 1) → Cat RPut fs tc → Ext h h' → Q (.tup [x, .int .i64 0]) h') :
    Cl P 14 [.agg [.int .i64 m.epoch, v, u], .int .i64 nodes, .agg [.int .i64 k, .int .i64 a, .int .i64 t], w] h Q := by
  refine g.cl (vf := v14) rfl rfl ?_
  simp only [v14, HN, RW, RX, VOp.fresh, bxC, bsC, un, most, callsOf, seval, Int.reducePow, ↓reduceIte, Nat.reduceEqDiff, reduceCtorEq]
  have x0 : Ext h ((h.mk' h.next (.cells [.int .i64 m.epoch, v, u] 24 0)).mk' (h.next + 1) (.cells [.int .i64 k, .int .i64 a, .int .i64 t] 26 0)) := ((Ext.refl h).mkn (Nat.le_refl _) _).mkn (by omega) _
  have n0 : ((h.mk' h.next (.cells [.int .i64 m.epoch, v, u] 24 0)).mk' (h.next + 1) (.cells [.int .i64 k, .int .i64 a, .int .i64 t] 26 0)).next = h.next + 2 := by rw [mk_next, mk_next]; omega
  refine change_cl g hins hv hu ha ht ?_ ?_
  · intro h' e x c
    have x1 := x0.trans x
    obtain ⟨he, hno⟩ := IxErr c
    simp only [he, HN, RW, RX, VOp.fresh, bxC, bsC, un, most, callsOf, seval, Int.reducePow, ↓reduceIte, Nat.reduceEqDiff, reduceCtorEq]
    exact qN _ (((x0.trans x).mkn x1.1 _).putn x1.1 _) fun i y => hno i y.1
  · intro h' i sv ov b b' c ws wo hne x
    have x1 := x0.trans x
    have nx : h.next + 2 ≤ h'.next := by have := x.1; rw [n0] at this; exact this
    by_cases hl : 32 ≤ fs.length
    · have hl' : (32 : Int) ≤ (fs.length : Int) := by omega
      simp only [hw.len, hl', ws.one, wo.one, HN, RW, RX, VOp.fresh, bxC, bsC, un, most, callsOf, seval, Int.reducePow, ↓reduceIte, Nat.reduceEqDiff, reduceCtorEq]
      exact qN _ ((x1.mkn x1.1 _).putn x1.1 _) fun i y => by have := y.2.1; omega
    have hl' : ¬ (32 : Int) ≤ (fs.length : Int) := by omega
    obtain ⟨⟨⟨p1, p2, p3, p4, p5, p6, p7, p8, p9⟩, k0, k2, a0, a1⟩, he, hi, hn, ok⟩ := id c
    obtain ⟨r1, r2, r3, r4, r5, r6⟩ := chgR_ok hv hu ⟨k0, k2⟩ ha ht hi p6 p7 hn
    obtain ⟨z1, z2, z3', z4⟩ := id ok
    generalize hM : chgR m k a t i = M at *
    have os := ws.one
    have oo := wo.one
    rw [n0] at ws wo
    have bb : h.next + 2 ≤ b ∧ b < h'.next := by obtain ⟨_, _, _, _, _, q1, q2, _⟩ := id ws; exact ⟨q1, q2⟩
    have bb' : h.next + 2 ≤ b' ∧ b' < h'.next := by obtain ⟨_, _, _, _, _, q1, q2, _⟩ := id wo; exact ⟨q1, q2⟩
    simp only [hw.len, hl', os, oo, HN, RW, RX, VOp.fresh, bxC, bsC, un, most, callsOf, seval, Int.reducePow, ↓reduceIte, Nat.reduceEqDiff, reduceCtorEq]
    have xH : Ext h (((h'.mk' h'.next (.cells [.int .i64 0, .nils, .nils] 24 0)).put h'.next (.cells [.int .i64 M.epoch, sv, ov] 24 1)).mk' (h'.next + 1) (.cells [.int .i64 2, .int .i64 0, .int .i64 0, .nils, .int .i64 0, .int .i64 M.epoch, sv, ov] 52 0)) := ((x1.mkn x1.1 _).putn x1.1 _).mkn (by omega) _
    have kH : ∀ c, c < h'.next → (((h'.mk' h'.next (.cells [.int .i64 0, .nils, .nils] 24 0)).put h'.next (.cells [.int .i64 M.epoch, sv, ov] 24 1)).mk' (h'.next + 1) (.cells [.int .i64 2, .int .i64 0, .int .i64 0, .nils, .int .i64 0, .int .i64 M.epoch, sv, ov] 52 0)).get c = h'.get c := fun c hc => by rw [Heap.get_mk, if_neg (by omega), Heap.get_put, if_neg (by omega), Heap.get_mk, if_neg (by omega)]
    have gH : (((h'.mk' h'.next (.cells [.int .i64 0, .nils, .nils] 24 0)).put h'.next (.cells [.int .i64 M.epoch, sv, ov] 24 1)).mk' (h'.next + 1) (.cells [.int .i64 2, .int .i64 0, .int .i64 0, .nils, .int .i64 0, .int .i64 M.epoch, sv, ov] 52 0)).get (h'.next + 1) = some (.cells [.int .i64 2, .int .i64 0, .int .i64 0, .nils, .int .i64 0, .int .i64 M.epoch, sv, ov] 52 0) := by rw [Heap.get_mk, if_pos rfl]
    have nH : (((h'.mk' h'.next (.cells [.int .i64 0, .nils, .nils] 24 0)).put h'.next (.cells [.int .i64 M.epoch, sv, ov] 24 1)).mk' (h'.next + 1) (.cells [.int .i64 2, .int .i64 0, .int .i64 0, .nils, .int .i64 0, .int .i64 M.epoch, sv, ov] 52 0)).next = h'.next + 2 := by rw [mk_next, put_next, mk_next]; omega
    generalize ((h'.mk' h'.next (.cells [.int .i64 0, .nils, .nils] 24 0)).put h'.next (.cells [.int .i64 M.epoch, sv, ov] 24 1)).mk' (h'.next + 1) (.cells [.int .i64 2, .int .i64 0, .int .i64 0, .nils, .int .i64 0, .int .i64 M.epoch, sv, ov] 52 0) = H at *
    have lrow : LR H (h.next ≤ ·) (.sl (h'.next + 1) 0 1 1 8) 8 ([.int .i64 2, .int .i64 0, .int .i64 0, .nils, .int .i64 0, .int .i64 M.epoch, tI M.starts, tI M.owners] ++ []) (0 + 1) := by
      refine ⟨[.int .i64 2, .int .i64 0, .int .i64 0, .nils, .int .i64 0, .int .i64 M.epoch, sv, ov], .inr ⟨_, 52, 0, rfl, by omega, by omega, rfl, gH⟩, ?_, fun c hc => by simp [blkOf] at hc; omega⟩
      have l1 := ((ws.lv r3).frame (h' := H) (by omega) fun c hc hl => kH c hl).weak (B' := fun c => h.next ≤ c ∧ c ∉ blkOf (.sl (h'.next + 1) 0 1 1 8)) fun c hc _ => ⟨by omega, by simp [blkOf]; omega⟩
      have l2 := ((wo.lv r4).frame (h' := H) (by omega) fun c hc hl => kH c hl).weak (B' := fun c => h.next ≤ c ∧ c ∉ blkOf (.sl (h'.next + 1) 0 1 1 8)) fun c hc _ => ⟨by omega, by simp [blkOf]; omega⟩
      exact .cons .int (.cons .int (.cons .int (.cons .nils (.cons .int (.cons .int (.cons l1 (.cons l2 .nil)))))))
    refine rops_loop g hw (by omega) (N0 := h.next) (T0 := [.int .i64 2, .int .i64 0, .int .i64 0, .nils, .int .i64 0, .int .i64 M.epoch, tI M.starts, tI M.owners]) fs.length 0 [] _ H _ _ (by omega) (by omega) ?_ .nil ?_ ?_ ?_ fun s' h2 tc r hc hk hn2 ks => ?_
    · simp only [sg_set, Nat.reduceEqDiff, ↓reduceIte]
      exact lrow
    · simp only [sg_set, Nat.reduceEqDiff, ↓reduceIte]
    · simp only [sg_set, Nat.reduceEqDiff, ↓reduceIte]
    · simp only [sg_set, Nat.reduceEqDiff, ↓reduceIte]
      rfl
    have t1 : sg s' 1 = .int .i64 nodes := (ks 1 (by decide)).trans (by simp only [sg_set, Nat.reduceEqDiff, ↓reduceIte])
    have cop := Cat.put hc
    have isl : IsL 112 ROp (cRow ([.int .i64 2, .int .i64 0, .int .i64 0, .nils, .int .i64 0, .int .i64 M.epoch, tI M.starts, tI M.owners] ++ tc) (fs.length + 1)) (rsO M fs) := by
      have hl2 : (rsO M fs).length = fs.length + 1 := by simp [rsO]
      rw [← hl2]
      refine row_isL (by rw [hl2, reach_eq]; omega) (.cons (a := mapO M) ⟨.nils, tI M.starts, tI M.owners, rfl, ?_, ?_, ?_, isL_nil 24 RRing, ?_, (show I64 M.epoch from ⟨by omega, by omega⟩), tI_is r1 r5, tI_is r2 r6⟩ cop)
      · exact (show I64 2 from ⟨by omega, by omega⟩)
      all_goals exact i64_0
    have e2 : Ext h h2 := ⟨hn2, fun c hc => (hk c hc).trans (xH.2 c hc)⟩
    simp only [t1, RX, VOp.fresh, bxC, bsC, un, most, callsOf, seval, Int.reducePow, ↓reduceIte, Nat.reduceEqDiff, reduceCtorEq]
    refine (opsMay_pu g isl).cl (.cons r.lv.fz (.cons (.int _ _) .nil)) ?_
    rintro _ ⟨bb2, rfl, hb⟩
    cases bb2 with
    | false =>
      simp only [RX, VOp.fresh, bxC, bsC, un, most, callsOf, seval, Int.reducePow, ↓reduceIte, Nat.reduceEqDiff, reduceCtorEq]
      refine qN h2 e2 fun j y => ?_
      obtain rfl := y.1.2.2.1.uniq y.1.1.1.rise hi
      rw [RsYes, hM] at y
      simpa using hb.2 y.2.2
    | true =>
      simp only [RX, VOp.fresh, bxC, bsC, un, most, callsOf, seval, Int.reducePow, ↓reduceIte, Nat.reduceEqDiff, reduceCtorEq]
      exact qY h2 i _ tc ⟨by rw [← hM] at ok; exact ⟨⟨⟨p1, p2, p3, p4, p5, p6, p7, p8, p9⟩, k0, k2, a0, a1⟩, he, hi, hn, ok⟩, by omega, by rw [hM]; exact hb.1 rfl⟩ (by rw [hM]; exact r) hc e2
end
end Go.Proofs.Ythmkenkjfmbkiaa.VM
namespace Go.Proofs.Ythmkenkjfmbkiaa.VM
attribute [local irreducible] Af Nx EvO Ev Un Gd Cd EvR EvQ EvC Nc Gc Lp EvM NxM AfM GdM EvMR EvMQ EvMD EvMC Nm Gm
mutual
theorem sh_told {n : Nat} : ∀ {x : AV}, x.told = true → sh n x = x
  | .undef, _ | .bool _, _ | .int .., _ | .str _, _ | .nilp, _ | .nils, _ | .nilm, _ | .nilf, _ | .rs .., _ | .rp _, _ | .map _, _ | .fn .., _ => rfl
  | .ptr .., h => by simp [AV.told] at h
  | .sl .., h => by simp [AV.told] at h
  | .agg l, h => by rw [sh, shs_tolds (by simpa [AV.told] using h)]
  | .tup l, h => by rw [sh, shs_tolds (by simpa [AV.told] using h)]
theorem shs_tolds {n : Nat} : ∀ {l : List AV}, AV.tolds l = true → shs n l = l
  | [], _ => rfl
  | x :: l, h => by
    simp only [AV.tolds, Bool.and_eq_true] at h
    rw [shs, sh_told h.1, shs_tolds h.2]
end
mutual
theorem sh_bare {n : Nat} : ∀ {x : AV}, (sh n x).bare = x.bare
  | .undef | .bool _ | .int .. | .str _ | .nilp | .nils | .nilm | .nilf | .rs .. | .rp _ | .map _ | .yld _ | .fn .. => rfl
  | .ptr .. => rfl
  | .sl .. => rfl
  | .agg l => by rw [sh]; simp only [AV.bare]; exact shs_bares
  | .tup l => by rw [sh]; simp only [AV.bare]; exact shs_bares
theorem shs_bares {n : Nat} : ∀ {l : List AV}, AV.bares (shs n l) = AV.bares l
  | [] => rfl
  | x :: l => by rw [shs]; simp only [AV.bares]; rw [sh_bare, shs_bares]
end
section
variable {h h0 : Heap} {D : List Nat}
mutual
theorem Fd.laid (hD : ∀ b ∈ D, b < h0.next) : ∀ {x y : AV} {E : List Nat}, Fd h0 x y E → (∀ b ∈ E, b ∈ D) → Fd (VM.laid h h0 D) (sh h.next x) y (E.map (h.next + ·))
  | _, _, _, .told hx, _ => by rw [sh_told hx]; exact .told hx
  | _, _, _, .sl hl hn hg hc t, hE => by
    rw [sh]
    exact .sl hl (by show _ < h.next + h0.next; omega) (laid_new hn (hE _ List.mem_cons_self) hg) (shs_cut hc) (t.laid hD fun b hb => hE b (List.mem_cons_of_mem _ hb))
  | _, _, _, .sl0, _ => by rw [sh]; exact .sl0
  | _, _, _, .ptr hn hg t, hE => by
    rw [sh]
    exact .ptr (by show _ < h.next + h0.next; omega) (laid_new hn (hE _ List.mem_cons_self) hg) (by rw [← shs_drop]; exact t.laid hD fun b hb => hE b (List.mem_cons_of_mem _ hb))
  | _, _, _, .agg t, hE => by rw [sh]; exact .agg (t.laid hD hE)
  | _, _, _, .tup t, hE => by rw [sh]; exact .tup (t.laid hD hE)
theorem Fds.laid (hD : ∀ b ∈ D, b < h0.next) : ∀ {x y : List AV} {E : List Nat}, Fds h0 x y E → (∀ b ∈ E, b ∈ D) → Fds (VM.laid h h0 D) (shs h.next x) y (E.map (h.next + ·))
  | _, _, _, .nil, _ => .nil
  | _, _, _, .cons f t, hE => by
    rw [shs, List.map_append]
    exact .cons (f.laid hD fun b hb => hE b (List.mem_append_left _ hb)) (t.laid hD fun b hb => hE b (List.mem_append_right _ hb))
end
end
section
variable {P : Program}
theorem Cl.laid {f : Nat} {args args' : List AV} {h : Heap} {R : AV → Prop} {Q : AV → Heap → Prop} (ha : Fzs true h args args') (c : Cl P f args' ⟨0, .e⟩ fun v h0 => ∃ t, Lv h0 (fun _ => True) v t ∧ R t)
    (q : ∀ v t h', Lv h' (h.next ≤ ·) v t → R t → Ext h h' → Q v h') : Cl P f args h Q := by
  obtain ⟨v, h0, o, t, ⟨D, fd, hb, own, _⟩, hR⟩ := c
  have hlt := fd.lt
  refine ⟨_, _, OK.laid ha o hb own hlt, q _ t _ ⟨D.map (h.next + ·), fd.laid hlt fun b hb => hb, by rw [sh_bare]; exact hb, ?_, ?_⟩ hR (laid_ext h h0 D)⟩
  · intro b hb'
    obtain ⟨d, hd, rfl⟩ := List.mem_map.1 hb'
    obtain ⟨l, e, ver, g1, g2⟩ := own d hd
    exact ⟨_, e, ver, laid_new (hlt d hd) hd g1, by rw [shs_bares]; exact g2⟩
  · intro b hb'
    obtain ⟨d, hd, rfl⟩ := List.mem_map.1 hb'
    exact Nat.le_add_right _ _
end
end Go.Proofs.Ythmkenkjfmbkiaa.VM
namespace Go.Proofs.Ythmkenkjfmbkiaa.VM
attribute [local irreducible] Af Nx EvO Ev Un Gd Cd EvR EvQ EvC Nc Gc Lp EvM NxM AfM GdM EvMR EvMQ EvMD EvMC Nm Gm
section
variable {h : Heap} {B : Nat → Prop}
theorem Lvs.uncons {cs k : List AV} {y : AV} (l : Lvs h B cs (y :: k)) : ∃ x c', cs = x :: c' ∧ Lv h B x y ∧ Lvs h B c' k := by
  obtain ⟨D, f, hb, own, i⟩ := l
  match f with
  | .cons (x := x) (l := c') f1 t =>
    simp only [AV.bares, Bool.and_eq_true] at hb
    exact ⟨x, c', rfl, ⟨_, f1, hb.1, fun b hb => own b (List.mem_append_left _ hb), fun b hb => i b (List.mem_append_left _ hb)⟩, ⟨_, t, hb.2, fun b hb => own b (List.mem_append_right _ hb), fun b hb => i b (List.mem_append_right _ hb)⟩⟩
theorem Lvs.drop {k : List AV} : ∀ (n : Nat) {cs : List AV}, Lvs h B cs k → Lvs h B (cs.drop n) (k.drop n) := by
  intro n
  induction n generalizing k with
  | zero => intro cs l; exact l
  | succ n ih =>
    intro cs l
    cases k with
    | nil =>
      obtain ⟨D, f, _⟩ := l
      cases f
      exact .nil
    | cons y k =>
      obtain ⟨x, c', rfl, lx, lt⟩ := l.uncons
      exact ih lt
end
end Go.Proofs.Ythmkenkjfmbkiaa.VM
namespace Go.Proofs.Ythmkenkjfmbkiaa.VM
attribute [local irreducible] Af Nx EvO Ev Un Gd Cd EvR EvQ EvC Nc Gc Lp EvM NxM AfM GdM EvMR EvMQ EvMD EvMC Nm Gm
section
variable {P : Program}
theorem Cl.laidR {f : Nat} {args args' : List AV} {h : Heap} {sz : Nat} {R : Int → List AV → Nat → Prop} {Q : AV → Heap → Prop} (ha : Fzs true h args args') (c : Cl P f args' ⟨0, .e⟩ fun v h0 => ∃ x e t n, v = .tup [x, .int .i64 e] ∧ LR h0 (fun _ => True) x sz t n ∧ R e t n)
    (q : ∀ x e t n h', LR h' (h.next ≤ ·) x sz t n → R e t n → Ext h h' → Q (.tup [x, .int .i64 e]) h') : Cl P f args h Q := by
  obtain ⟨_, h0, o, x, e, t, n, rfl, ⟨cs, row, ⟨D, fd, hb, own, hi⟩, _⟩, hR⟩ := c
  have hlt := fd.lt
  rcases row with ⟨rfl, rfl, rfl⟩ | ⟨b, eb, vb, rfl, hn, hbn, hl, hg⟩
  · have o2 := OK.laid (D := D) ha o rfl own hlt
    cases fd
    exact ⟨_, _, o2, q .nils e [] 0 _ (.nil _ _ _) hR (laid_ext h h0 _)⟩
  · have own2 : Own h0 (b :: D) := fun c hc => by
      rcases List.mem_cons.1 hc with rfl | hc
      · exact ⟨cs, eb, vb, hg, hb⟩
      · exact own c hc
    have hlt2 : ∀ c ∈ b :: D, c < h0.next := fun c hc => by
      rcases List.mem_cons.1 hc with rfl | hc
      · exact hbn
      · exact hlt c hc
    have o2 := OK.laid (D := b :: D) ha o rfl own2 hlt2
    have fd2 := fd.laid (h := h) (D := b :: D) hlt2 fun c hc => List.mem_cons_of_mem _ hc
    refine ⟨_, _, o2, q (.sl (h.next + b) 0 n n sz) e t n _ ⟨shs h.next cs, .inr ⟨h.next + b, eb, vb, rfl, hn, by show _ < h.next + h0.next; omega, ?_, laid_new hbn List.mem_cons_self hg⟩, ⟨D.map (h.next + ·), fd2, by rw [shs_bares]; exact hb, ?_, ?_⟩, fun c hc => by simp [blkOf] at hc; omega⟩ hR (laid_ext h h0 _)⟩
    · rw [shs_map, List.length_map]; exact hl
    · intro c hc
      obtain ⟨d, hd, rfl⟩ := List.mem_map.1 hc
      obtain ⟨l, e2, ver, g1, g2⟩ := own d hd
      exact ⟨_, e2, ver, laid_new (hlt d hd) (List.mem_cons_of_mem _ hd) g1, by rw [shs_bares]; exact g2⟩
    · intro c hc
      obtain ⟨d, hd, rfl⟩ := List.mem_map.1 hc
      have := (hi d hd).2
      simp [blkOf] at this
      exact ⟨Nat.le_add_right _ _, by simp [blkOf]; omega⟩
end
section
variable {P : Program}
theorem awake22_pu (g : Pg P tab) (hins : InsOk P) : Pu P 21 [] (fun v => v = .bool true) := g.runX (insX_ok hins) (n := 400) (by kernel_rfl)
end
end Go.Proofs.Ythmkenkjfmbkiaa.VM
namespace Go.Proofs.Ythmkenkjfmbkiaa.VM
attribute [local irreducible] Af Nx EvO Ev Un Gd Cd EvR EvQ EvC Nc Gc Lp EvM NxM AfM GdM EvMR EvMQ EvMD EvMC Nm Gm
theorem ChYes.eight {nodes k a t : Int} {m : Mp} {i : Nat} (c : ChYes nodes m k a t i) : ChYes 8 m k a t i := ⟨⟨c.1.1.eight, c.1.2⟩, c.2.1, c.2.2.1, c.2.2.2.1, c.2.2.2.2.eight⟩
theorem wFeatsL {c : List AV} (h : Ws [.sl 40 shFeat] c) : ∃ w l, c = [w] ∧ IsL 40 RFeat w l := by
  cases h with | cons h1 t =>
    cases t
    obtain ⟨l, hl⟩ := h1.isL wFeat
    exact ⟨_, l, rfl, hl⟩
end Go.Proofs.Ythmkenkjfmbkiaa.VM
namespace Go.Proofs.Ythmkenkjfmbkiaa.VM
section
variable {n : Int} {m : Mp} {a t : Int} {i : Nat}
theorem chg0_ok (ok : mpOk n m) (he : m.epoch ≠ 65535) (a0 : 0 ≤ a) (a1 : a < 4294967296) (hi : IxAt m.starts a i) : mpOk n (chgR m 0 a t i) ↔ m.starts.getD i 0 ≠ a ∧ m.starts.length ≠ 32 := by
  obtain ⟨p1, p2, p3, p4, p5, p6, p7, p8, p9⟩ := id ok
  obtain ⟨i1, i2, i3⟩ := id hi
  have hio : i < m.owners.length := by omega
  have li : (ins m.starts (i + 1) a).length = m.starts.length + 1 := ins_len (by omega) _
  have lo : (ins m.owners (i + 1) (m.owners.getD i 0)).length = m.owners.length + 1 := ins_len (by omega) _
  constructor
  · rintro ⟨q1, q2, q3, q4, q5, q6, q7, q8, q9⟩
    have q6' : (ins m.starts (i + 1) a).length ≤ 32 := q6
    have r1 := (q9 (i + 1) (by show i + 1 < (ins m.starts (i + 1) a).length; omega)).2.1
    have r2 : (ins m.starts (i + 1) a).getD i 0 < (ins m.starts (i + 1) a).getD (i + 1) 0 := by
      rcases r1 with h | h
      · omega
      · exact h
    rw [ins_getD i1, ins_getD i1, if_pos (Nat.le_refl _), if_neg (by omega), if_pos rfl] at r2
    exact ⟨by omega, by omega⟩
  · rintro ⟨h1, h2⟩
    refine ⟨p1, p2, by show 1 ≤ m.epoch + 1; omega, by show m.epoch + 1 ≤ 65535; omega, by show 1 ≤ (ins m.starts (i + 1) a).length; omega, by show (ins m.starts (i + 1) a).length ≤ 32; omega, by show (ins m.owners (i + 1) (m.owners.getD i 0)).length = (ins m.starts (i + 1) a).length; omega, ?_, fun j hj => ?_⟩
    · show (ins m.starts (i + 1) a).getD 0 0 = 0
      rw [ins_getD i1, if_pos (Nat.zero_le _)]; exact p8
    · have hj' : j < m.starts.length + 1 := by rw [← li]; exact hj
      show (ins m.starts (i + 1) a).getD j 0 < 4294967296 ∧ (j = 0 ∨ (ins m.starts (i + 1) a).getD (j - 1) 0 < (ins m.starts (i + 1) a).getD j 0) ∧ 0 ≤ (ins m.owners (i + 1) (m.owners.getD i 0)).getD j 0 ∧ (ins m.owners (i + 1) (m.owners.getD i 0)).getD j 0 < n
      rw [ins_getD i1, ins_getD i1, ins_getD hio]
      by_cases c1 : j ≤ i
      · obtain ⟨z1, z2, z3, z4⟩ := p9 j (by omega)
        rw [if_pos c1, if_pos c1, if_pos (by omega)]
        exact ⟨z1, z2, z3, z4⟩
      · rw [if_neg c1, if_neg c1]
        by_cases c2 : j = i + 1
        · obtain ⟨z1, z2, z3, z4⟩ := p9 i i1
          rw [if_pos c2, if_pos c2, if_pos (by omega)]
          refine ⟨a1, .inr ?_, z3, z4⟩
          rw [show j - 1 = i by omega]; omega
        · obtain ⟨z1, z2, z3, z4⟩ := p9 (j - 1) (by omega)
          rw [if_neg c2, if_neg c2]
          refine ⟨z1, .inr ?_, z3, z4⟩
          rw [if_neg (by omega)]
          by_cases c3 : j - 1 = i + 1
          · rw [if_pos c3]
            have := i3 (by omega)
            rw [c3]; exact this
          · rw [if_neg c3]
            rcases z2 with h | h
            · omega
            · exact h
theorem chg1_ok (ok : mpOk n m) (he : m.epoch ≠ 65535) (hi : IxAt m.starts a i) : mpOk n (chgR m 1 a t i) ↔ 0 ≤ t ∧ t < n := by
  obtain ⟨p1, p2, p3, p4, p5, p6, p7, p8, p9⟩ := id ok
  have i1 := hi.1
  have e : chgR m 1 a t i = ⟨m.epoch + 1, m.starts, m.owners.set i t⟩ := rfl
  rw [e]
  constructor
  · rintro ⟨q1, q2, q3, q4, q5, q6, q7, q8, q9⟩
    have z := (q9 i i1).2.2
    have g : (m.owners.set i t).getD i 0 = t := (setI_getD (by omega)).trans (if_pos rfl)
    have z' : 0 ≤ (m.owners.set i t).getD i 0 ∧ (m.owners.set i t).getD i 0 < n := z
    rw [g] at z'
    exact z'
  · rintro ⟨h0, h1⟩
    refine ⟨p1, p2, by show 1 ≤ m.epoch + 1; omega, by show m.epoch + 1 ≤ 65535; omega, p5, p6, by show (m.owners.set i t).length = _; rw [List.length_set]; exact p7, p8, fun j hj => ?_⟩
    have hj' : j < m.starts.length := hj
    obtain ⟨z1, z2, z3, z4⟩ := p9 j hj
    refine ⟨z1, z2, ?_, ?_⟩
    · show 0 ≤ (m.owners.set i t).getD j 0
      rw [setI_getD (by omega)]; split
      · exact h0
      · exact z3
    · show (m.owners.set i t).getD j 0 < n
      rw [setI_getD (by omega)]; split
      · exact h1
      · exact z4
theorem erase_getD {l : List Int} {k j : Nat} : (l.eraseIdx k).getD j 0 = if j < k then l.getD j 0 else l.getD (j + 1) 0 := by
  rw [List.getD_eq_getElem?_getD, List.getElem?_eraseIdx]
  split <;> rw [List.getD_eq_getElem?_getD]
theorem chg2_ok (ok : mpOk n m) (he : m.epoch ≠ 65535) (hi : IxAt m.starts a i) (hn : i + 1 ≠ m.starts.length) : mpOk n (chgR m 2 a t i) := by
  obtain ⟨p1, p2, p3, p4, p5, p6, p7, p8, p9⟩ := id ok
  have i1 := hi.1
  have e : chgR m 2 a t i = ⟨m.epoch + 1, m.starts.eraseIdx (i + 1), m.owners.eraseIdx (i + 1)⟩ := rfl
  have ls : (m.starts.eraseIdx (i + 1)).length = m.starts.length - 1 := List.length_eraseIdx_of_lt (by omega)
  have lo : (m.owners.eraseIdx (i + 1)).length = m.owners.length - 1 := List.length_eraseIdx_of_lt (by omega)
  rw [e]
  refine ⟨p1, p2, by show 1 ≤ m.epoch + 1; omega, by show m.epoch + 1 ≤ 65535; omega, by show 1 ≤ (m.starts.eraseIdx (i + 1)).length; omega, by show (m.starts.eraseIdx (i + 1)).length ≤ 32; omega, by show (m.owners.eraseIdx (i + 1)).length = (m.starts.eraseIdx (i + 1)).length; omega, ?_, fun j hj => ?_⟩
  · show (m.starts.eraseIdx (i + 1)).getD 0 0 = 0
    rw [erase_getD, if_pos (by omega)]; exact p8
  · have hj' : j < m.starts.length - 1 := by rw [← ls]; exact hj
    show (m.starts.eraseIdx (i + 1)).getD j 0 < 4294967296 ∧ (j = 0 ∨ (m.starts.eraseIdx (i + 1)).getD (j - 1) 0 < (m.starts.eraseIdx (i + 1)).getD j 0) ∧ 0 ≤ (m.owners.eraseIdx (i + 1)).getD j 0 ∧ (m.owners.eraseIdx (i + 1)).getD j 0 < n
    rw [erase_getD, erase_getD, erase_getD]
    by_cases c1 : j < i + 1
    · obtain ⟨z1, z2, z3, z4⟩ := p9 j (by omega)
      rw [if_pos c1, if_pos c1, if_pos (by omega)]
      exact ⟨z1, z2, z3, z4⟩
    · obtain ⟨z1, z2, z3, z4⟩ := p9 (j + 1) (by omega)
      rw [if_neg c1, if_neg c1]
      refine ⟨z1, .inr ?_, z3, z4⟩
      by_cases c2 : j - 1 < i + 1
      · rw [if_pos c2]
        exact ok.rise.lt (by omega) (by omega)
      · rw [if_neg c2]
        exact ok.rise.lt (by omega) (by omega)
end
end Go.Proofs.Ythmkenkjfmbkiaa.VM
namespace Go.Proofs.Ythmkenkjfmbkiaa.VM
attribute [local irreducible] Af Nx EvO Ev Un Gd Cd EvR EvQ EvC Nc Gc Lp EvM NxM AfM GdM EvMR EvMQ EvMD EvMC Nm Gm
section
variable {P : Program}
theorem rat_loop (g : Pg P tab) {m : Mp} {v u : AV} (hv : IsL 8 RInt v m.starts) (hr : Rise m.starts) (hlen : m.starts.length ≤ 32) {A : Int} {j : Nat} (hj : IxAt m.starts A j) {h : Heap} {b e ver : Nat} (hg : h.get b = some (.cells [.int .i64 m.epoch, v, u] e ver)) (r : Nat) : ∀ (n : Nat) (s : T AV) (k : List Fr) (Q : Ex → T AV → Heap → Prop), n + r = j → sg s 1 = .int .i64 A → sg s 2 = .ptr b 0 → sg s 5 = .int .i64 n →
    (∀ s', sg s' 5 = .int .i64 j → Un P k Q (.exit 0) s' h) → Lp P b56_0 s h (Un P k Q) := by
  have hj1 := hj.1
  induction r with
  | zero =>
    intro n s k Q hn t1 t2 t5 hK
    obtain rfl : n = j := by omega
    refine g.lpe b56_0.eq_1 ?_
    have w1 : IntKind.i64.wrap ((n : Int) + 1) = ((n + 1 : Nat) : Int) := by rw [w64 (by omega) (by omega)]; push_cast; rfl
    by_cases hl : n + 1 < m.starts.length
    · have c1 : ((n + 1 : Nat) : Int) < (m.starts.length : Int) := by omega
      obtain ⟨r1, _, g1⟩ := getInt hv (n + 1) hl
      have c2 : ¬ m.starts.getD (n + 1) 0 ≤ A := by have := hj.2.2 hl; omega
      simp only [t1, t2, t5, hg, hv.len, w1, c1, c2, g1, RX, VOp.fresh, bxC, bsC, un, most, callsOf, seval, Int.reducePow, ↓reduceIte, Nat.reduceEqDiff, reduceCtorEq]
      refine hK _ ?_
      simp only [t5, sg_set, Nat.reduceEqDiff, ↓reduceIte]
    · have c1 : ¬ ((n + 1 : Nat) : Int) < (m.starts.length : Int) := by omega
      simp only [t1, t2, t5, hg, hv.len, w1, c1, RX, VOp.fresh, bxC, bsC, un, most, callsOf, seval, Int.reducePow, ↓reduceIte, Nat.reduceEqDiff, reduceCtorEq]
      refine hK _ ?_
      simp only [t5, sg_set, Nat.reduceEqDiff, ↓reduceIte]
  | succ r ih =>
    intro n s k Q hn t1 t2 t5 hK
    refine g.lpe b56_0.eq_1 ?_
    have w1 : IntKind.i64.wrap ((n : Int) + 1) = ((n + 1 : Nat) : Int) := by rw [w64 (by omega) (by omega)]; push_cast; rfl
    have c1 : ((n + 1 : Nat) : Int) < (m.starts.length : Int) := by omega
    obtain ⟨r1, _, g1⟩ := getInt hv (n + 1) (by omega)
    have c2 : m.starts.getD (n + 1) 0 ≤ A := by
      rcases Nat.lt_or_ge (n + 1) j with e | e
      · have := hr.lt e hj1; have := hj.2.1; omega
      · rw [show n + 1 = j by omega]; exact hj.2.1
    simp only [t1, t2, t5, hg, hv.len, w1, c1, c2, g1, RX, VOp.fresh, bxC, bsC, un, most, callsOf, seval, Int.reducePow, ↓reduceIte, Nat.reduceEqDiff, reduceCtorEq]
    refine ih (n + 1) _ k Q (by omega) ?_ ?_ ?_ hK
    · simp only [t1, sg_set, Nat.reduceEqDiff, ↓reduceIte]
    · simp only [t2, sg_set, Nat.reduceEqDiff, ↓reduceIte]
    · simp only [sg_set, Nat.reduceEqDiff, ↓reduceIte]
theorem rat_pu (g : Pg P tab) {m : Mp} {v u : AV} (hv : IsL 8 RInt v m.starts) (hr : Rise m.starts) (hlen : m.starts.length ≤ 32) {A : Int} {j : Nat} (hj : IxAt m.starts A j) : Pu P 56 [.agg [.int .i64 m.epoch, v, u], .int .i64 A] (fun x => x = .int .i64 j) := by
  refine g.pu (vf := v56) rfl rfl ?_
  simp only [v56, RX, VOp.fresh, bxC, bsC, un, most, callsOf, seval, Int.reducePow, ↓reduceIte, Nat.reduceEqDiff, reduceCtorEq]
  refine rat_loop g hv hr hlen hj (b := 0) (e := 24) (ver := 0) (by rw [Heap.get_mk, if_pos rfl]) j 0 _ _ _ (by omega) ?_ ?_ ?_ fun s' t5 => ?_
  · simp only [sg_set, Nat.reduceEqDiff, ↓reduceIte]
  · simp only [sg_set, Nat.reduceEqDiff, ↓reduceIte]
  · simp only [sg_set, Nat.reduceEqDiff, ↓reduceIte]
    rfl
  · simp only [t5, RX, VOp.fresh, bxC, bsC, un, most, callsOf, seval, Int.reducePow, ↓reduceIte, Nat.reduceEqDiff, reduceCtorEq]
theorem SRow.tl {r : Bool} {h : Heap} {v : AV} {R : List Int} (s : SRow h v 1 (ic R) R.length) (h0 : 0 < R.length) : Fz r h v (tI R) := by
  rcases s with ⟨_, e, _⟩ | ⟨b, e, ver, rfl, hb, hg, hl, ho⟩
  · omega
  · exact .sl h0 hg (by rw [cut_eq, List.drop_zero, Nat.mul_one, List.take_of_length_le (by rw [ic_len]; exact Nat.le_refl _), if_pos (ic_len R)]) (ic_fz R)
theorem ic_app (a b : List Int) : ic a ++ ic b = ic (a ++ b) := by simp [ic]
theorem rsHi {l : List Int} {i : Nat} (hi : i ≤ l.length) : sliceV 1 (.rs (ic l) l.length) none (some (.int .i64 (i : Int))) none = some (.rs (ic (l.take i)) i) := by
  simp [sliceV, bounds, nat_of hi, ic, List.map_take]
theorem rsLo {l : List Int} {i : Nat} (hi : i ≤ l.length) : sliceV 1 (.rs (ic l) l.length) (some (.int .i64 (i : Int))) none none = some (.rs (ic (l.drop i)) (l.length - i)) := by
  have : (List.drop i (List.map (AV.int .i64) l)).take (l.length - i) = List.drop i (List.map (AV.int .i64) l) := List.take_of_length_le (by simp)
  simp [sliceV, bounds, nat_of hi, ic, List.map_drop, this]
theorem rs_cells {l : List Int} {n : Nat} (hn : l.length = n) (H : Heap) : cellsOf H 1 n (.rs (ic l) n) = some (ic l) := by
  simp only [cellsOf, Nat.mul_one]
  rw [cut_eq, List.drop_zero, List.take_of_length_le (by rw [ic_len]; omega), if_pos (by rw [ic_len]; exact hn)]
theorem rcut_cl (g : Pg P tab) {l : List Int} {w : AV} (hw : IsL 8 RInt w l) (h0 : 0 < l.length) (h32 : l.length ≤ 100) {i : Nat} (hi : i ≤ l.length) {x : Int} {b : Bool} (hb : b = true → i < l.length ∧ 2 ≤ l.length) {h : Heap} {Q : AV → Heap → Prop}
    (q : ∀ v h', SRow h' v 1 (ic (if b then l.eraseIdx i else ins l i x)) (if b then l.eraseIdx i else ins l i x).length → Ext h h' → (∀ c ∈ blkOf v, h.next ≤ c) → Q v h') : Cl P 57 [w, .int .i64 i, .int .i64 x, .bool b] h Q := by
  obtain ⟨hbd, ⟨rfl, hl⟩ | ⟨c, rfl, hc⟩⟩ := hw
  · rw [hl] at h0; simp at h0
  obtain rfl := cat_int hc
  refine g.cl (vf := v57) rfl rfl ?_
  have hi1 := rsHi hi
  have hi2 := rsLo hi
  have x0 := Ext.mk (h := h) (.cells [] 3 0)
  have nx0 : (h.mk' h.next (.cells [] 3 0)).next = h.next + 1 := by rw [mk_next]; omega
  have s0 : SRow (h.mk' h.next (.cells [] 3 0)) (.sl h.next 0 0 0 1) 1 (ic []) 0 := .inr ⟨h.next, 3, 0, rfl, by omega, by rw [Heap.get_mk, if_pos rfl]; rfl, rfl, rfl⟩
  obtain ⟨v1, h1, e1, s1, n1, b1, k1⟩ := s0.app (x := .rs (ic (l.take i)) i) (c := ic (l.take i)) (m := i) (rs_cells (by rw [List.length_take]; omega) _) rfl (by rw [ic_len, List.length_take]; omega) (ic_one _) (bytes := 8) (by unfold most2; omega) 3
  rw [ic_app, List.nil_append, Nat.zero_add] at s1
  rw [nx0] at n1 b1 k1
  have g1 : ∀ c ∈ blkOf v1, h.next ≤ c := fun c hc => by
    rcases b1 c hc with e | e
    · simp [blkOf] at e; omega
    · omega
  have x1 : Ext h h1 := ⟨by omega, fun c hc => (k1 c (by omega) (by simp [blkOf]; omega)).trans (x0.2 c hc)⟩
  simp only [v57, hi1, e1, HN, RW, RX, VOp.fresh, bxC, bsC, un, most, callsOf, seval, Int.reducePow, ↓reduceIte, Nat.reduceEqDiff, reduceCtorEq]
  cases b with
  | true =>
    obtain ⟨hb1, hb2⟩ := hb rfl
    have w1 : IntKind.i64.wrap ((i : Int) + 1) = ((i + 1 : Nat) : Int) := by rw [w64 (by omega) (by omega)]; push_cast; rfl
    have hi3 := rsLo (l := l) (i := i + 1) (by omega)
    obtain ⟨v2, h2, e2, s2, n2, b2, k2⟩ := s1.app (x := .rs (ic (l.drop (i + 1))) (l.length - (i + 1))) (c := ic (l.drop (i + 1))) (m := l.length - (i + 1)) (rs_cells (by rw [List.length_drop]) _) rfl (by rw [ic_len, List.length_drop]; omega) (ic_one _) (bytes := 8) (by unfold most2; omega) 3
    rw [ic_app] at s2
    have er : l.take i ++ l.drop (i + 1) = l.eraseIdx i := (List.eraseIdx_eq_take_drop_succ l i).symm
    have le : (l.eraseIdx i).length = l.length - 1 := List.length_eraseIdx_of_lt hb1
    rw [er, show i + (l.length - (i + 1)) = (l.eraseIdx i).length by omega] at s2
    simp only [w1, hi3, e2, RW, RX, VOp.fresh, bxC, bsC, un, most, callsOf, seval, Int.reducePow, ↓reduceIte, Nat.reduceEqDiff, reduceCtorEq]
    exact q v2 h2 s2 ⟨by have := x1.1; omega, fun c hc => (k2 c (by have := x1.1; omega) (fun e => by have := g1 c e; omega)).trans (x1.2 c hc)⟩ fun c hc => (b2 c hc).elim (g1 c) fun e => by have := x1.1; omega
  | false =>
    have xm := Ext.mk (h := h1) (.cells [.int .i64 x] 3 0)
    have nm : (h1.mk' h1.next (.cells [.int .i64 x] 3 0)).next = h1.next + 1 := by rw [mk_next]; omega
    obtain ⟨v2, h2, e2, s2, n2, b2, k2⟩ := (s1.ext xm).app (x := .sl h1.next 0 1 1 1) (c := [.int .i64 x]) (m := 1) (cells_of (by rw [Heap.get_mk, if_pos rfl]) rfl 0) rfl rfl rfl (bytes := 8) (by unfold most2; omega) 3
    rw [show [AV.int .i64 x] = ic [x] from rfl, ic_app] at s2
    rw [nm] at n2 b2 k2
    obtain ⟨v3, h3, e3, s3, n3, b3, k3⟩ := s2.app (x := .rs (ic (l.drop i)) (l.length - i)) (c := ic (l.drop i)) (m := l.length - i) (rs_cells (by rw [List.length_drop]) _) rfl (by rw [ic_len, List.length_drop]; omega) (ic_one _) (bytes := 8) (by unfold most2; omega) 3
    have er : l.take i ++ [x] ++ l.drop i = ins l i x := by simp [ins]
    have li : (ins l i x).length = l.length + 1 := ins_len hi _
    rw [ic_app, er, show i + 1 + (l.length - i) = (ins l i x).length by omega] at s3
    have g2 : ∀ c ∈ blkOf v2, h.next ≤ c := fun c hc => (b2 c hc).elim (g1 c) fun e => by have := x1.1; omega
    simp only [e2, hi2, e3, HN, RW, RX, VOp.fresh, bxC, bsC, un, most, callsOf, seval, Int.reducePow, ↓reduceIte, Nat.reduceEqDiff, reduceCtorEq]
    exact q v3 h3 s3 ⟨by have := x1.1; omega, fun c hc => (k3 c (by have := x1.1; omega) (fun e => by have := g2 c e; omega)).trans ((k2 c (by have := x1.1; omega) (fun e => by have := g1 c e; omega)).trans ((xm.2 c (by have := x1.1; omega)).trans (x1.2 c hc)))⟩ fun c hc => (b3 c hc).elim (g2 c) fun e => by have := x1.1; omega
end
end Go.Proofs.Ythmkenkjfmbkiaa.VM
namespace Go.Proofs.Ythmkenkjfmbkiaa.VM
attribute [local irreducible] Af Nx EvO Ev Un Gd Cd EvR EvQ EvC Nc Gc Lp EvM NxM AfM GdM EvMR EvMQ EvMD EvMC Nm Gm
section
variable {P : Program} {m : Mp} {v u : AV} {k a t nodes : Int}
theorem rchange_pu (g : Pg P tab) (hv : IsL 8 RInt v m.starts) (hu : IsL 8 RInt u m.owners) (ha : I64 a) (ht : I64 t) :
    Pu P 29 [.agg [.int .i64 m.epoch, v, u], .int .i64 nodes, .agg [.int .i64 k, .int .i64 a, .int .i64 t]] (fun R => (∃ e, ChErr nodes m k a t e ∧ R = .tup [.agg z3, .int .i64 e]) ∨ ∃ i, ChYes nodes m k a t i ∧ R = .tup [toldMp (chgR m k a t i), .int .i64 0]) := by
  have ov := isL_one hv
  have ou := isL_one hu
  have tl : ∀ l, AV.tolds l = true → AV.tolds (.agg [.int .i64 m.epoch, v, u] :: l) = true := fun l hl => by simp only [AV.tolds, AV.told, hv.told tInt, hu.told tInt, hl, Bool.and_true, Bool.and_self]
  have bad : ∀ (e : Int) (H : Heap), ChErr nodes m k a t e → Tl H (.tup [.agg z3, .int .i64 e]) (fun R => (∃ e, ChErr nodes m k a t e ∧ R = .tup [.agg z3, .int .i64 e]) ∨ ∃ i, ChYes nodes m k a t i ∧ R = .tup [toldMp (chgR m k a t i), .int .i64 0]) := fun e H c =>
    ⟨_, .tup (.cons (.agg (.cons (.int _ _) (.cons .nils (.cons .nils .nil)))) (.cons (.int _ _) .nil)), .inl ⟨e, c, rfl⟩⟩
  refine g.pu (vf := v29) rfl rfl ?_
  simp only [v29, RW, RX, VOp.fresh, bxC, bsC, un, most, callsOf, seval, Int.reducePow, ↓reduceIte, Nat.reduceEqDiff, reduceCtorEq]
  refine (rMap_pu g hv hu).go (tl _ rfl) ?_
  rintro x ⟨b, rfl, hb⟩
  by_cases pre : ChP nodes m k a
  · have hb1 : b = true := hb.2 pre.1
    subst hb1
    obtain ⟨p1, p2, p3, p4, p5⟩ := id pre
    have c1 : ¬ k < 0 := by omega
    have c2 : ¬ 2 < k := by omega
    have c3 : ¬ a < 0 := by omega
    have c4 : ¬ 4294967296 ≤ a := by omega
    by_cases he : m.epoch = 65535
    · simp only [c1, c2, c3, c4, he, RW, RX, VOp.fresh, bxC, bsC, un, most, callsOf, seval, Int.reducePow, ↓reduceIte, Nat.reduceEqDiff, reduceCtorEq]
      exact bad 701 _ (.inr (.inl ⟨pre, he, rfl⟩))
    · have he1 := p1.2.2.1
      have he2 := p1.2.2.2.1
      have h0 : 0 < m.starts.length := p1.2.2.2.2.1
      have w1 : IntKind.i64.wrap (m.epoch + 1) = m.epoch + 1 := w64 (by omega) (by omega)
      obtain ⟨i, hi⟩ := ixAt_ex p1.rise h0 (d := a) (by have := p1.2.2.2.2.2.2.2.1; omega)
      simp only [c1, c2, c3, c4, he, RW, RX, VOp.fresh, bxC, bsC, un, most, callsOf, seval, Int.reducePow, ↓reduceIte, Nat.reduceEqDiff, reduceCtorEq]
      refine (rat_pu g hv p1.rise p1.2.2.2.2.2.1 hi).go (tl _ rfl) ?_
      rintro _ rfl
      simp only [w1, RW, RX, VOp.fresh, bxC, bsC, un, most, callsOf, seval, Int.reducePow, ↓reduceIte, Nat.reduceEqDiff, reduceCtorEq]
      refine EvMD.lk (fun _ _ h => (.undef, h)) ?_
      have hlo := p1.2.2.2.2.2.2.1
      have hls := p1.2.2.2.2.2.1
      simp only [w1, RW, RX, VOp.fresh, bxC, bsC, un, most, callsOf, seval, Int.reducePow, ↓reduceIte, Nat.reduceEqDiff, reduceCtorEq]
      have g0 : ((((((({ next := 0, t := T.e } : Heap).mk' 0 (.cells [.int .i64 m.epoch, v, u] 24 0)).mk' 1 (.cells [.int .i64 k, .int .i64 a, .int .i64 t] 26 0)).mk' 2 (.cells z3 24 0)).mk' 6 .dead).mk' 10 .dead).mk' 15 .dead).get 0 = some (.cells [.int .i64 m.epoch, v, u] 24 0) := by simp only [RW, RX, VOp.fresh, bxC, bsC, un, most, callsOf, seval, Int.reducePow, ↓reduceIte, Nat.reduceEqDiff, reduceCtorEq]
      have g1 : ((((((({ next := 0, t := T.e } : Heap).mk' 0 (.cells [.int .i64 m.epoch, v, u] 24 0)).mk' 1 (.cells [.int .i64 k, .int .i64 a, .int .i64 t] 26 0)).mk' 2 (.cells z3 24 0)).mk' 6 .dead).mk' 10 .dead).mk' 15 .dead).get 1 = some (.cells [.int .i64 k, .int .i64 a, .int .i64 t] 26 0) := by simp only [RW, RX, VOp.fresh, bxC, bsC, un, most, callsOf, seval, Int.reducePow, ↓reduceIte, Nat.reduceEqDiff, reduceCtorEq]
      have g2 : ((((((({ next := 0, t := T.e } : Heap).mk' 0 (.cells [.int .i64 m.epoch, v, u] 24 0)).mk' 1 (.cells [.int .i64 k, .int .i64 a, .int .i64 t] 26 0)).mk' 2 (.cells z3 24 0)).mk' 6 .dead).mk' 10 .dead).mk' 15 .dead).get 2 = some (.cells z3 24 0) := by simp only [RW, RX, VOp.fresh, bxC, bsC, un, most, callsOf, seval, Int.reducePow, ↓reduceIte, Nat.reduceEqDiff, reduceCtorEq]
      have n0 : ((((((({ next := 0, t := T.e } : Heap).mk' 0 (.cells [.int .i64 m.epoch, v, u] 24 0)).mk' 1 (.cells [.int .i64 k, .int .i64 a, .int .i64 t] 26 0)).mk' 2 (.cells z3 24 0)).mk' 6 .dead).mk' 10 .dead).mk' 15 .dead).next = 16 := by simp only [mk_next]; omega
      generalize (((((({ next := 0, t := T.e } : Heap).mk' 0 (.cells [.int .i64 m.epoch, v, u] 24 0)).mk' 1 (.cells [.int .i64 k, .int .i64 a, .int .i64 t] 26 0)).mk' 2 (.cells z3 24 0)).mk' 6 .dead).mk' 10 .dead).mk' 15 .dead = H at *
      have k6 : ∀ c, c ≠ 6 → (H.mk' 6 (.cells [] 3 0)).get c = H.get c := fun c hc => by rw [Heap.get_mk, if_neg hc]
      have s0 : SRow (H.mk' 6 (.cells [] 3 0)) (.sl 6 0 0 0 1) 1 (ic []) 0 := .inr ⟨6, 3, 0, rfl, by rw [mk_next]; omega, by rw [Heap.get_mk, if_pos rfl]; rfl, rfl, rfl⟩
      obtain ⟨q1, q2⟩ := isL_cells hv (H.mk' 6 (.cells [] 3 0))
      obtain ⟨v1, h1, e1, s1, n1, b1, k1⟩ := s0.app (x := v) (c := ic m.starts) (m := m.starts.length) q2 q1 (by rw [ic_len]; omega) (ic_one _) (bytes := 8) (by unfold most2; omega) 3
      have g01 := (k1 0 (by rw [mk_next]; omega) (by simp [blkOf])).trans ((k6 0 (by omega)).trans g0)
      simp only [w1, e1, g01, RW, RX, VOp.fresh, bxC, bsC, un, most, callsOf, seval, Int.reducePow, ↓reduceIte, Nat.reduceEqDiff, reduceCtorEq]
      have n1' : 16 ≤ h1.next := by rw [mk_next] at n1; omega
      have k10 : ∀ c, c ≠ 10 → (h1.mk' 10 (.cells [] 3 0)).get c = h1.get c := fun c hc => by rw [Heap.get_mk, if_neg hc]
      have s0' : SRow (h1.mk' 10 (.cells [] 3 0)) (.sl 10 0 0 0 1) 1 (ic []) 0 := .inr ⟨10, 3, 0, rfl, by rw [mk_next]; omega, by rw [Heap.get_mk, if_pos rfl]; rfl, rfl, rfl⟩
      obtain ⟨q3, q4⟩ := isL_cells hu (h1.mk' 10 (.cells [] 3 0))
      obtain ⟨v2, h2, e2, s2, n2, b2, k2⟩ := s0'.app (x := u) (c := ic m.owners) (m := m.owners.length) q4 q3 (by rw [ic_len]; omega) (ic_one _) (bytes := 8) (by unfold most2; omega) 3
      have g11 := (k1 1 (by rw [mk_next]; omega) (by simp [blkOf])).trans ((k6 1 (by omega)).trans g1)
      have g21 := (k1 2 (by rw [mk_next]; omega) (by simp [blkOf])).trans ((k6 2 (by omega)).trans g2)
      have g02 := (k2 0 (by rw [mk_next]; omega) (by simp [blkOf])).trans ((k10 0 (by omega)).trans g01)
      have g12 := (k2 1 (by rw [mk_next]; omega) (by simp [blkOf])).trans ((k10 1 (by omega)).trans g11)
      have g22 := (k2 2 (by rw [mk_next]; omega) (by simp [blkOf])).trans ((k10 2 (by omega)).trans g21)
      have on1 := s1.one
      have on2 := s2.one
      have ce1 := s1.cells
      have ce2 := s2.cells
      simp only [w1, e2, g02, on1, on2, ce1, ce2, RW, RX, VOp.fresh, bxC, bsC, un, most, callsOf, seval, Int.reducePow, ↓reduceIte, Nat.reduceEqDiff, reduceCtorEq]
      have g06 := (k6 0 (by omega)).trans g0
      have g010 := (k10 0 (by omega)).trans g01
      have k15 : ∀ (X : Blk) c, c ≠ 15 → (h2.mk' 15 X).get c = h2.get c := fun X c hc => by rw [Heap.get_mk, if_neg hc]
      have g015 := (k15 (.cells z3 24 0) 0 (by omega)).trans g02
      refine ⟨⟨⟨?_, ?_, ?_, ?_, ?_, trivial⟩, ⟨?_, trivial⟩, ⟨?_, ?_, ?_, trivial⟩, trivial⟩, ?_⟩
      · show Lk _ _ _ _
        simp only [Lk, wanted, g0, g06, g01, g010, g02, g015, RX, VOp.fresh, bxC, bsC, un, most, callsOf, seval, Int.reducePow, ↓reduceIte, Nat.reduceEqDiff, reduceCtorEq]
      · show Lk _ _ _ _
        simp only [Lk, wanted, g0, g06, g01, g010, g02, g015, RX, VOp.fresh, bxC, bsC, un, most, callsOf, seval, Int.reducePow, ↓reduceIte, Nat.reduceEqDiff, reduceCtorEq]
      · show Lk _ _ _ _
        simp only [Lk, wanted, g0, g06, g01, g010, g02, g015, RX, VOp.fresh, bxC, bsC, un, most, callsOf, seval, Int.reducePow, ↓reduceIte, Nat.reduceEqDiff, reduceCtorEq]
      · show Lk _ _ _ _
        simp only [Lk, wanted, g0, g06, g01, g010, g02, g015, RX, VOp.fresh, bxC, bsC, un, most, callsOf, seval, Int.reducePow, ↓reduceIte, Nat.reduceEqDiff, reduceCtorEq]
      · show Lk _ _ _ _
        simp only [Lk, wanted, g0, g06, g01, g010, g02, g015, RX, VOp.fresh, bxC, bsC, un, most, callsOf, seval, Int.reducePow, ↓reduceIte, Nat.reduceEqDiff, reduceCtorEq]
      · show Lk _ _ _ _
        simp only [Lk, wanted, g0, g06, g01, g010, g02, g015, RX, VOp.fresh, bxC, bsC, un, most, callsOf, seval, Int.reducePow, ↓reduceIte, Nat.reduceEqDiff, reduceCtorEq]
      · show Lk _ _ _ _
        simp only [Lk, wanted, g0, g06, g01, g010, g02, g015, RX, VOp.fresh, bxC, bsC, un, most, callsOf, seval, Int.reducePow, ↓reduceIte, Nat.reduceEqDiff, reduceCtorEq]
      · show Lk _ _ _ _
        simp only [Lk, wanted, g0, g06, g01, g010, g02, g015, RX, VOp.fresh, bxC, bsC, un, most, callsOf, seval, Int.reducePow, ↓reduceIte, Nat.reduceEqDiff, reduceCtorEq]
      · show Lk _ _ _ _
        simp only [Lk, wanted, g0, g06, g01, g010, g02, g015, RX, VOp.fresh, bxC, bsC, un, most, callsOf, seval, Int.reducePow, ↓reduceIte, Nat.reduceEqDiff, reduceCtorEq]
      have nH6 : (H.mk' 6 (.cells [] 3 0)).next = 16 := by rw [mk_next]; omega
      have nH10 : (h1.mk' 10 (.cells [] 3 0)).next = h1.next := by rw [mk_next]; omega
      rw [nH6] at b1 k1
      rw [nH10] at n2 b2 k2
      have bv1 : ∀ c ∈ blkOf v1, c ≠ 10 ∧ c ≠ 15 := fun c hc => by
        rcases b1 c hc with e | e
        · simp [blkOf] at e; omega
        · omega
      have bv2 : ∀ c ∈ blkOf v2, c ≠ 15 := fun c hc => by
        rcases b2 c hc with e | e
        · simp [blkOf] at e; omega
        · omega
      have s1b : SRow h2 v1 1 (ic m.starts) m.starts.length := by
        rw [← ic_len m.starts, ic_len] at *
        have s1' := s1
        simp only [Nat.zero_add, List.nil_append, show ic ([] : List Int) = [] from rfl] at s1'
        exact s1'.frame (by omega) fun c hc => (k2 c (s1'.lt c hc) (by have := bv1 c hc; simp [blkOf]; omega)).trans (k10 c (bv1 c hc).1)
      have s2b : SRow h2 v2 1 (ic m.owners) m.owners.length := by
        simpa only [Nat.zero_add, List.nil_append, show ic ([] : List Int) = [] from rfl] using s2
      have kF : ∀ (X Y : Blk) c, c ≠ 15 → ((h2.mk' 15 X).put 15 Y).get c = h2.get c := fun X Y c hc => by rw [Heap.get_put, if_neg hc, Heap.get_mk, if_neg hc]
      have nF : ∀ (X Y : Blk), ((h2.mk' 15 X).put 15 Y).next = h2.next := fun X Y => by rw [put_next, mk_next]; omega
      have s1c := s1b.frame (h' := (h2.mk' 15 (.cells [.int .i64 0, .nils, .nils] 24 0)).put 15 (.cells [.int .i64 (m.epoch + 1), v1, v2] 24 1)) (by rw [nF]; exact Nat.le_refl _) fun c hc => kF _ _ c (bv1 c hc).2
      have s2c := s2b.frame (h' := (h2.mk' 15 (.cells [.int .i64 0, .nils, .nils] 24 0)).put 15 (.cells [.int .i64 (m.epoch + 1), v1, v2] 24 1)) (by rw [nF]; exact Nat.le_refl _) fun c hc => kF _ _ c (bv2 c hc)
      have g03 := (kF (.cells [.int .i64 0, .nils, .nils] 24 0) (.cells [.int .i64 (m.epoch + 1), v1, v2] 24 1) 0 (by omega)).trans g02
      have g13 := (kF (.cells [.int .i64 0, .nils, .nils] 24 0) (.cells [.int .i64 (m.epoch + 1), v1, v2] 24 1) 1 (by omega)).trans g12
      have g23 := (kF (.cells [.int .i64 0, .nils, .nils] 24 0) (.cells [.int .i64 (m.epoch + 1), v1, v2] 24 1) 2 (by omega)).trans g22
      have g153 : ((h2.mk' 15 (.cells [.int .i64 0, .nils, .nils] 24 0)).put 15 (.cells [.int .i64 (m.epoch + 1), v1, v2] 24 1)).get 15 = some (.cells [.int .i64 (m.epoch + 1), v1, v2] 24 1) := by rw [Heap.get_put, if_pos rfl]
      have n3 := nF (.cells [.int .i64 0, .nils, .nils] 24 0) (.cells [.int .i64 (m.epoch + 1), v1, v2] 24 1)
      generalize (h2.mk' 15 (.cells [.int .i64 0, .nils, .nils] 24 0)).put 15 (.cells [.int .i64 (m.epoch + 1), v1, v2] 24 1) = h3 at *
      clear kF nF g02 g22 g015 k15 g06 g010 g01 g11 g21
      obtain ⟨r1, _, ia1⟩ := getInt hv i hi.1
      have hi32 := hi.1
      have w2 : IntKind.i64.wrap ((i : Int) + 1) = ((i + 1 : Nat) : Int) := by rw [w64 (by omega) (by omega)]; push_cast; rfl
      have hil := hi.1
      by_cases k0 : k = 0
      · subst k0
        have fact := chg0_ok (t := t) p1 he p4 p5 hi
        by_cases d1 : m.starts.getD i 0 = a
        · simp only [w1, g03, g12, g13, g23, g153, ia1, d1, RW, RX, VOp.fresh, bxC, bsC, un, most, callsOf, seval, Int.reducePow, ↓reduceIte, Nat.reduceEqDiff, reduceCtorEq]
          exact bad 700 _ (.inr (.inr ⟨pre, he, rfl, i, hi, .inr fun o => (fact.1 o).1 d1⟩))
        · by_cases d2 : m.starts.length = 32
          · have d2' : ((m.starts.length : Nat) : Int) = 32 := by omega
            simp only [w1, g03, g12, g13, g23, g153, ia1, d1, hv.len, d2', RW, RX, VOp.fresh, bxC, bsC, un, most, callsOf, seval, Int.reducePow, ↓reduceIte, Nat.reduceEqDiff, reduceCtorEq]
            exact bad 700 _ (.inr (.inr ⟨pre, he, rfl, i, hi, .inr fun o => (fact.1 o).2 d2⟩))
          · have d2' : ¬ ((m.starts.length : Nat) : Int) = 32 := by omega
            simp only [w1, g03, g12, g13, g23, g153, ia1, d1, hv.len, d2', w2, RW, RX, VOp.fresh, bxC, bsC, un, most, callsOf, seval, Int.reducePow, ↓reduceIte, Nat.reduceEqDiff, reduceCtorEq]
            have hlen2 : i + 1 ≤ m.starts.length := hil
            refine rcut_cl g hv h0 (by omega) (i := i + 1) hil (b := false) (fun e => by cases e) fun v4 h4 s4 x4 b4 => ?_
            have g04 := (x4.2 0 (by omega)).trans g03
            have g14 := (x4.2 1 (by omega)).trans g13
            have g24 := (x4.2 2 (by omega)).trans g23
            have g154 := (x4.2 15 (by omega)).trans g153
            have on4 := s4.one
            have ce4 := s4.cells
            obtain ⟨r2, _, ia2⟩ := getInt hu i (by omega)
            simp only [w2, g04, g14, g24, g154, ia2, on4, ce4, hu.len, RW, RX, VOp.fresh, bxC, bsC, un, most, callsOf, seval, Int.reducePow, ↓reduceIte, Nat.reduceEqDiff, reduceCtorEq]
            have h3n : 16 ≤ h3.next := by omega
            have x4n := x4.1
            refine rcut_cl g hu (by omega) (by omega) (i := i + 1) (by omega) (b := false) (fun e => by cases e) fun v5 h5 s5 x5 b5 => ?_
            have x5n := x5.1
            rw [put_next] at x5n
            have g155 := (x5.2 15 (by rw [put_next]; omega)).trans (by rw [Heap.get_put, if_pos rfl])
            have g25 := (x5.2 2 (by rw [put_next]; omega)).trans ((by rw [Heap.get_put, if_neg (by omega)] : (h4.put 15 (.cells [.int .i64 (m.epoch + 1), v4, v2] 24 2)).get 2 = h4.get 2).trans g24)
            have on5 := s5.one
            have ce5 := s5.cells
            simp only [g155, g25, on4, ce4, on5, ce5, RW, RX, VOp.fresh, bxC, bsC, un, most, callsOf, seval, Int.reducePow, ↓reduceIte, Nat.reduceEqDiff, reduceCtorEq]
            have f4 : SRow h5 v4 1 (ic (ins m.starts (i + 1) a)) (ins m.starts (i + 1) a).length := s4.frame (by omega) fun c hc => (x5.2 c (by rw [put_next]; exact s4.lt c hc)).trans (by have := b4 c hc; rw [Heap.get_put, if_neg (by omega)])
            have fin : ∀ {v : AV} {R : List Int} (X Y : Blk), SRow h5 v 1 (ic R) R.length → (∀ c ∈ blkOf v, 16 ≤ c) → SRow ((h5.put 15 X).put 2 Y) v 1 (ic R) R.length := fun X Y s hb => s.frame (by simp only [put_next]; exact Nat.le_refl _) fun c hc => by
              have := hb c hc
              rw [Heap.get_put, if_neg (by omega), Heap.get_put, if_neg (by omega)]
            have hio : i < m.owners.length := by omega
            have li : (ins m.starts (i + 1) a).length = m.starts.length + 1 := ins_len hil _
            have lo : (ins m.owners (i + 1) (m.owners.getD i 0)).length = m.owners.length + 1 := ins_len (by omega) _
            refine ⟨_, .tup (.cons (.agg (.cons (.int _ _) (.cons ((fin _ _ f4 fun c hc => by have := b4 c hc; omega).tl (by omega)) (.cons ((fin _ _ s5 fun c hc => by have := b5 c hc; rw [put_next] at this; omega).tl (by show 0 < (ins m.owners (i + 1) (m.owners.getD i 0)).length; omega)) .nil)))) (.cons (.int _ _) .nil)), .inr ⟨i, ⟨pre, he, hi, by simp, fact.2 ⟨d1, d2⟩⟩, rfl⟩⟩
      by_cases k1' : k = 1
      · subst k1'
        have fact := chg1_ok (t := t) p1 he hi
        by_cases d1 : t < 0
        · simp only [w1, g03, g12, g13, g23, g153, d1, RW, RX, VOp.fresh, bxC, bsC, un, most, callsOf, seval, Int.reducePow, ↓reduceIte, Nat.reduceEqDiff, reduceCtorEq]
          exact bad 700 _ (.inr (.inr ⟨pre, he, rfl, i, hi, .inr fun o => by have := (fact.1 o).1; omega⟩))
        by_cases d2 : nodes ≤ t
        · simp only [w1, g03, g12, g13, g23, g153, d1, d2, RW, RX, VOp.fresh, bxC, bsC, un, most, callsOf, seval, Int.reducePow, ↓reduceIte, Nat.reduceEqDiff, reduceCtorEq]
          exact bad 700 _ (.inr (.inr ⟨pre, he, rfl, i, hi, .inr fun o => by have := (fact.1 o).2; omega⟩))
        · rcases s2c with ⟨_, e, _⟩ | ⟨b3, e3, ver3, rfl, hb3, hg3, hl3, ho3⟩
          · omega
          have hio : i < m.owners.length := by omega
          have hia : ∀ (hh : Heap) (q : IntKind), iaV hh 1 none (.sl b3 0 m.owners.length m.owners.length 1) (.int q (i : Int)) = .val (.ptr b3 i) hh := fun hh q => by
            have : 0 ≤ (i : Int) ∧ (i : Int) < (m.owners.length : Int) ∧ 1 = 1 := ⟨by omega, by omega, rfl⟩
            simp only [iaV, this, and_self, if_true, Int.toNat_natCast, Nat.zero_add, Nat.mul_one]
          have hw := wr_at hg3 (show i < (ic m.owners).length by rw [ic_len]; exact hio) (x := .int .i64 t) rfl
          have b3n : b3 = 10 ∨ h1.next ≤ b3 := by
            rcases b2 b3 (by simp [blkOf]) with e | e
            · exact .inl (by simpa [blkOf] using e)
            · exact .inr e
          have nb15 : ¬ 15 = b3 := by omega
          have nb2 : ¬ 2 = b3 := by omega
          have on3 := s1c.one
          have ce3 := s1c.cells
          simp only [w1, g03, g12, g13, g23, g153, d1, d2, hia, hw, nb15, nb2, on3, ce3, RW, RX, VOp.fresh, bxC, bsC, un, most, callsOf, seval, Int.reducePow, ↓reduceIte, Nat.reduceEqDiff, reduceCtorEq]
          have v1b : ∀ c ∈ blkOf v1, c ≠ b3 ∧ c ≠ 2 := fun c hc => by
            have l1 := s1.lt c hc
            rcases b1 c hc with e | e
            · simp [blkOf] at e; omega
            · omega
          have hset : (ic m.owners).set i (.int .i64 t) = ic (m.owners.set i t) := by simp [ic]
          have f1 : ∀ Y : Blk, SRow ((h3.put b3 (.cells ((ic m.owners).set i (.int .i64 t)) e3 (ver3 + 1))).put 2 Y) v1 1 (ic m.starts) m.starts.length := fun Y => s1c.frame (by simp only [put_next]; exact Nat.le_refl _) fun c hc => by
            have := v1b c hc
            rw [Heap.get_put, if_neg this.2, Heap.get_put, if_neg this.1]
          have f2 : ∀ Y : Blk, SRow ((h3.put b3 (.cells ((ic m.owners).set i (.int .i64 t)) e3 (ver3 + 1))).put 2 Y) (.sl b3 0 m.owners.length m.owners.length 1) 1 (ic (m.owners.set i t)) (m.owners.set i t).length := fun Y => .inr ⟨b3, e3, ver3 + 1, by rw [List.length_set], by simp only [put_next]; exact hb3, by rw [Heap.get_put, if_neg (Ne.symm nb2), Heap.get_put, if_pos rfl, hset], by rw [ic_len, Nat.mul_one], ic_one _⟩
          exact ⟨_, .tup (.cons (.agg (.cons (.int _ _) (.cons ((f1 _).tl h0) (.cons ((f2 _).tl (by rw [List.length_set]; omega)) .nil)))) (.cons (.int _ _) .nil)), .inr ⟨i, ⟨pre, he, hi, by simp, fact.2 ⟨by omega, by omega⟩⟩, rfl⟩⟩
      · obtain rfl : k = 2 := by omega
        by_cases d1 : i + 1 = m.starts.length
        · have d1' : ((i + 1 : Nat) : Int) = ((m.starts.length : Nat) : Int) := by omega
          simp only [w1, w2, g03, g12, g13, g23, g153, hv.len, d1', RW, RX, VOp.fresh, bxC, bsC, un, most, callsOf, seval, Int.reducePow, ↓reduceIte, Nat.reduceEqDiff, reduceCtorEq]
          exact bad 700 _ (.inr (.inr ⟨pre, he, rfl, i, hi, .inl ⟨rfl, d1⟩⟩))
        · have d1' : ¬ ((i + 1 : Nat) : Int) = ((m.starts.length : Nat) : Int) := by omega
          simp only [w1, w2, g03, g12, g13, g23, g153, hv.len, d1', RW, RX, VOp.fresh, bxC, bsC, un, most, callsOf, seval, Int.reducePow, ↓reduceIte, Nat.reduceEqDiff, reduceCtorEq]
          refine rcut_cl g hv h0 (by omega) (i := i + 1) hil (b := true) (fun _ => ⟨by omega, by omega⟩) fun v4 h4 s4 x4 b4 => ?_
          have g04 := (x4.2 0 (by omega)).trans g03
          have g14 := (x4.2 1 (by omega)).trans g13
          have g24 := (x4.2 2 (by omega)).trans g23
          have g154 := (x4.2 15 (by omega)).trans g153
          have on4 := s4.one
          have ce4 := s4.cells
          simp only [w2, g04, g14, g24, g154, on4, ce4, hu.len, RW, RX, VOp.fresh, bxC, bsC, un, most, callsOf, seval, Int.reducePow, ↓reduceIte, Nat.reduceEqDiff, reduceCtorEq]
          have h3n : 16 ≤ h3.next := by omega
          have x4n := x4.1
          refine rcut_cl g hu (by omega) (by omega) (i := i + 1) (by omega) (b := true) (fun _ => ⟨by omega, by omega⟩) fun v5 h5 s5 x5 b5 => ?_
          have x5n := x5.1
          rw [put_next] at x5n
          have g155 := (x5.2 15 (by rw [put_next]; omega)).trans (by rw [Heap.get_put, if_pos rfl])
          have g25 := (x5.2 2 (by rw [put_next]; omega)).trans ((by rw [Heap.get_put, if_neg (by omega)] : (h4.put 15 (.cells [.int .i64 (m.epoch + 1), v4, v2] 24 2)).get 2 = h4.get 2).trans g24)
          have on5 := s5.one
          have ce5 := s5.cells
          simp only [g155, g25, on4, ce4, on5, ce5, RW, RX, VOp.fresh, bxC, bsC, un, most, callsOf, seval, Int.reducePow, ↓reduceIte, Nat.reduceEqDiff, reduceCtorEq]
          have f4 : SRow h5 v4 1 (ic (m.starts.eraseIdx (i + 1))) (m.starts.eraseIdx (i + 1)).length := s4.frame (by omega) fun c hc => (x5.2 c (by rw [put_next]; exact s4.lt c hc)).trans (by have := b4 c hc; rw [Heap.get_put, if_neg (by omega)])
          have fin : ∀ {v : AV} {R : List Int} (X Y : Blk), SRow h5 v 1 (ic R) R.length → (∀ c ∈ blkOf v, 16 ≤ c) → SRow ((h5.put 15 X).put 2 Y) v 1 (ic R) R.length := fun X Y s hb => s.frame (by simp only [put_next]; exact Nat.le_refl _) fun c hc => by
            have := hb c hc
            rw [Heap.get_put, if_neg (by omega), Heap.get_put, if_neg (by omega)]
          have li : (m.starts.eraseIdx (i + 1)).length = m.starts.length - 1 := List.length_eraseIdx_of_lt (by omega)
          have lo : (m.owners.eraseIdx (i + 1)).length = m.owners.length - 1 := List.length_eraseIdx_of_lt (by omega)
          refine ⟨_, .tup (.cons (.agg (.cons (.int _ _) (.cons ((fin _ _ f4 fun c hc => by have := b4 c hc; omega).tl (by omega)) (.cons ((fin _ _ s5 fun c hc => by have := b5 c hc; rw [put_next] at this; omega).tl (by show 0 < (m.owners.eraseIdx (i + 1)).length; omega)) .nil)))) (.cons (.int _ _) .nil)), .inr ⟨i, ⟨pre, he, hi, fun e => d1 e.2, chg2_ok p1 he hi d1⟩, rfl⟩⟩
  · have go : ∀ H : Heap, _ := fun H => bad 700 H (.inl ⟨pre, rfl⟩)
    cases b with
    | false =>
      simp only [RW, RX, VOp.fresh, bxC, bsC, un, most, callsOf, seval, Int.reducePow, ↓reduceIte, Nat.reduceEqDiff, reduceCtorEq]
      exact go _
    | true =>
      have p1 := hb.1 rfl
      by_cases c1 : k < 0
      · simp only [c1, RW, RX, VOp.fresh, bxC, bsC, un, most, callsOf, seval, Int.reducePow, ↓reduceIte, Nat.reduceEqDiff, reduceCtorEq]
        exact go _
      by_cases c2 : 2 < k
      · simp only [c1, c2, RW, RX, VOp.fresh, bxC, bsC, un, most, callsOf, seval, Int.reducePow, ↓reduceIte, Nat.reduceEqDiff, reduceCtorEq]
        exact go _
      by_cases c3 : a < 0
      · simp only [c1, c2, c3, RW, RX, VOp.fresh, bxC, bsC, un, most, callsOf, seval, Int.reducePow, ↓reduceIte, Nat.reduceEqDiff, reduceCtorEq]
        exact go _
      by_cases c4 : 4294967296 ≤ a
      · simp only [c1, c2, c3, c4, RW, RX, VOp.fresh, bxC, bsC, un, most, callsOf, seval, Int.reducePow, ↓reduceIte, Nat.reduceEqDiff, reduceCtorEq]
        exact go _
      · exact absurd ⟨p1, by omega, by omega, by omega, by omega⟩ pre
end
end Go.Proofs.Ythmkenkjfmbkiaa.VM
namespace Go.Proofs.Ythmkenkjfmbkiaa.Hil
def dig (rx ry : Nat) : Nat := if ry = 1 then (if rx = 1 then 2 else 1) else (if rx = 1 then 3 else 0)
def hcell : Nat → Nat → Nat → Nat
  | 0, _, _ => 0
  | n + 1, x, y => 4 ^ n * dig (x / 2 ^ n % 2) (y / 2 ^ n % 2) +
      (if y / 2 ^ n % 2 = 1 then hcell n (x % 2 ^ n) (y % 2 ^ n)
       else if x / 2 ^ n % 2 = 1 then hcell n (2 ^ n - 1 - y % 2 ^ n) (2 ^ n - 1 - x % 2 ^ n)
       else hcell n (y % 2 ^ n) (x % 2 ^ n))
def trn (s : Nat) (g : Nat) (p : Nat × Nat) : Nat × Nat :=
  if g = 0 then (p.2, p.1) else if g = 1 then (p.1, p.2 + s) else if g = 2 then (p.1 + s, p.2 + s) else (s - 1 - p.2 + s, s - 1 - p.1)
end Go.Proofs.Ythmkenkjfmbkiaa.Hil
namespace Go.Proofs.Ythmkenkjfmbkiaa.VM
open Go.Proofs.Ythmkenkjfmbkiaa.Hil
/-- a box that may be -/
def bxOk (a b c d : Int) : Prop := 0 ≤ a ∧ a ≤ 4294967295 ∧ 0 ≤ b ∧ b ≤ 4294967295 ∧ 0 ≤ c ∧ c ≤ 4294967295 ∧ 0 ≤ d ∧ d ≤ 4294967295 ∧ a ≤ c ∧ b ≤ d
instance (a b c d : Int) : Decidable (bxOk a b c d) := by unfold bxOk; infer_instance
end Go.Proofs.Ythmkenkjfmbkiaa.VM
namespace Go.Proofs.Ythmkenkjfmbkiaa.VM
attribute [local irreducible] Af Nx EvO Ev Un Gd Cd EvR EvQ EvC Nc Gc Lp EvM NxM AfM GdM EvMR EvMQ EvMD EvMC Nm Gm
def bOk (b : Bx) : Prop := bxOk b.x0 b.y0 b.x1 b.y1
instance (b : Bx) : Decidable (bOk b) := by unfold bOk; infer_instance
theorem featOk.first {f : Feat} (h : featOk f) : 0 < f.rings.length ∧ 0 < (f.rings.getD 0 []).length := by
  obtain ⟨_, _, h1, _, h2⟩ := h
  refine ⟨by omega, ?_⟩
  rcases h2 with ⟨_, _, h3, _⟩ | ⟨_, _, h3⟩ | ⟨_, h3⟩
  · omega
  · have := h3.1; omega
  · have := (h3 0 (by omega)).1; omega
end Go.Proofs.Ythmkenkjfmbkiaa.VM
namespace Go.Proofs.Ythmkenkjfmbkiaa.VM
attribute [local irreducible] Af Nx EvO Ev Un Gd Cd EvR EvQ EvC Nc Gc Lp EvM NxM AfM GdM EvMR EvMQ EvMD EvMC Nm Gm
def kc (l : List Int) : List AV := l.map (.int .i64)
end Go.Proofs.Ythmkenkjfmbkiaa.VM
namespace Go.Proofs.Ythmkenkjfmbkiaa.VM
attribute [local irreducible] Af Nx EvO Ev Un Gd Cd EvR EvQ EvC Nc Gc Lp EvM NxM AfM GdM EvMR EvMQ EvMD EvMC Nm Gm
section
variable {P : Program} {m : Mp} {v u v' u' : AV} {nodes k a t : Int}
theorem ChErr.uniq {e e' : Int} (c : ChErr nodes m k a t e) (c' : ChErr nodes m k a t e') : e = e' := by
  rcases c with ⟨h1, rfl⟩ | ⟨h1, h2, rfl⟩ | ⟨h1, h2, rfl, _⟩ <;> rcases c' with ⟨k1, rfl⟩ | ⟨k1, k2, rfl⟩ | ⟨k1, k2, rfl, _⟩ <;> first | rfl | exact absurd k1 h1 | exact absurd h1 k1 | exact absurd k2 h2 | exact absurd h2 k2
theorem lints_tI {h : Heap} {B : Nat → Prop} {x : AV} {l : List Int} (a : Lv h B x (tI l)) (h0 : 0 < l.length) (hl : l.length ≤ 1000000) (h64 : ∀ x ∈ l, I64 x) : LInts h B x := by
  refine LInts.of (l := l) ?_ ?_
  · have : cInts l = tI l := cRow_s _ h0
    rw [this]; exact a
  · exact ⟨hl, h64⟩
end
end Go.Proofs.Ythmkenkjfmbkiaa.VM
namespace Go.Proofs.Ythmkenkjfmbkiaa.VM
attribute [local irreducible] Af Nx EvO Ev Un Gd Cd EvR EvQ EvC Nc Gc Lp EvM NxM AfM GdM EvMR EvMQ EvMD EvMC Nm Gm
section
variable {P : Program}
theorem ext_box (h : Heap) (x y : Blk) : Ext h ((h.mk' h.next x).put h.next y) := ⟨by rw [put_next, mk_next]; omega, fun b hb => by rw [Heap.get_put, if_neg (by omega), Heap.get_mk, if_neg (by omega)]⟩
end
end Go.Proofs.Ythmkenkjfmbkiaa.VM
namespace Go.Proofs.Ythmkenkjfmbkiaa.VM
attribute [local irreducible] Af Nx EvO Ev Un Gd Cd EvR EvQ EvC Nc Gc Lp EvM NxM AfM GdM EvMR EvMQ EvMD EvMC Nm Gm
theorem wC37 {c : List AV} (h : Ws [.int .i64, .int .i64, .int .i64] c) : ∃ k a t : Int, c = [.int .i64 k, .int .i64 a, .int .i64 t] ∧ I64 a ∧ I64 t := by
  cases h with | cons h1 t => cases t with | cons h2 t => cases t with | cons h3 t =>
    cases t; cases h1 with | int _ n1 w1 => cases h2 with | int _ n2 w2 => cases h3 with | int _ n3 w3 =>
      exact ⟨n1, n2, n3, rfl, i64_wf w2, i64_wf w3⟩
end Go.Proofs.Ythmkenkjfmbkiaa.VM
namespace Go.Proofs.Ythmkenkjfmbkiaa.VM
attribute [local irreducible] Af Nx EvO Ev Un Gd Cd EvR EvQ EvC Nc Gc Lp EvM NxM AfM GdM EvMR EvMQ EvMD EvMC Nm Gm
theorem opsOk.eight {nodes : Int} {l : List Op} (h : opsOk nodes l) : opsOk 8 l := by
  obtain ⟨h1, h2, h3⟩ := h
  refine ⟨h1, h2, fun i hi => ?_⟩
  obtain ⟨a, b, c⟩ := h3 i hi
  refine ⟨?_, b, c⟩
  rcases a with a | a | ⟨a1, a2, a3⟩
  · exact .inl a
  · exact .inr (.inl a)
  · exact .inr (.inr ⟨a1, a2.eight, a3⟩)
end Go.Proofs.Ythmkenkjfmbkiaa.VM
namespace Go.Proofs.Ythmkenkjfmbkiaa.VM
attribute [local irreducible] Af Nx EvO Ev Un Gd Cd EvR EvQ EvC Nc Gc Lp EvM NxM AfM GdM EvMR EvMQ EvMD EvMC Nm Gm
theorem trOp : Tr ROp 8 := ⟨zOp, fun a c ⟨v, x, y, e, _, _, _, h4, _, _, h7, h8⟩ => by rw [e]; simp [List.all_cons, isL_one h4, isL_one h7, isL_one h8, one_int], tOp⟩
theorem opsOk_down {nodes : Int} {M : Mp} {fs : List Feat} (ok : mpOk nodes M) (h : opsOk 8 (rsO M fs)) : opsOk nodes (rsO M fs) := by
  obtain ⟨h1, h2, h3⟩ := h
  refine ⟨h1, h2, fun i hi => ?_⟩
  obtain ⟨a, b, c⟩ := h3 i hi
  refine ⟨?_, b, c⟩
  cases i with
  | zero => exact .inr (.inr ⟨rfl, ok, rfl, rfl, rfl, rfl⟩)
  | succ i =>
    have hl : i < fs.length := by simp [rsO] at hi; omega
    have e : (rsO M fs).getD (i + 1) op0 = putF fs[i] := by
      simp [rsO, List.getD_eq_getElem?_getD, hl]
    rw [e] at a ⊢
    rcases a with a | a | a
    · exact .inl a
    · exact .inr (.inl a)
    · exact absurd a.1 (by show ¬ (0 : Int) = 2; decide)
section
variable {P : Program}
theorem refOps_loop (g : Pg P tab) {fs : List Feat} {w : AV} (hw : IsL 40 RFeat w fs) (hsz : fs.length ≤ 1048576) {M : Mp} (n : Nat) :
    ∀ (i : Nat) (t : T AV) (h : Heap) (k : List Fr) (Q : Ex → T AV → Heap → Prop), i + n = fs.length → RowT ROp 8 h (sg t 12) (rsO M (fs.take i)) → sg t 3 = w → sg t 13 = .int .i64 i →
    (∀ t' h', RowT ROp 8 h' (sg t' 12) (rsO M fs) → Un P k Q (.exit 0) t' h') → Lp P b15_0 t h (Un P k Q) := by
  induction n with
  | zero =>
    intro i t h k Q hn r t3 t13 hQ
    refine g.lpe b15_0.eq_1 ?_
    have c1 : ¬ ((i : Int) < (fs.length : Int)) := by omega
    simp only [t3, t13, hw.len, c1, RX, VOp.fresh, bxC, bsC, un, most, callsOf, seval, Int.reducePow, ↓reduceIte, Nat.reduceEqDiff, reduceCtorEq]
    rw [List.take_of_length_le (by omega)] at r
    refine hQ _ _ ?_
    simp only [sg_set, Nat.reduceEqDiff, ↓reduceIte]
    exact r
  | succ n ih =>
    intro i t h k Q hn r t3 t13 hQ
    refine g.lpe b15_0.eq_1 ?_
    have c1 : ((i : Int) < (fs.length : Int)) := by omega
    have w1 : IntKind.i64.wrap ((i : Int) + 1) = ((i + 1 : Nat) : Int) := by rw [w64 (by omega) (by omega)]; push_cast; rfl
    obtain ⟨ci, rr, ⟨va, rfl, i1, i2, i3⟩, hat⟩ := hw.at zFeat i (by omega)
    have ova := isL_one i3
    have hs : fs.take (i + 1) = fs.take i ++ [fs[i]] := List.take_succ_eq_append_getElem (by omega)
    have hop : ROp (putF fs[i]) [.int .i64 0, .int .i64 fs[i].id, .int .i64 fs[i].shape, va, .int .i64 0, .int .i64 0, .nils, .nils] := RPut.op ⟨va, rfl, i1, i2, i3⟩
    have hl : (rsO M (fs.take i)).length = i + 1 := by simp [rsO]; omega
    have e1 := Ext.mk (h := h) (.cells [.int .i64 0, .int .i64 fs[i].id, .int .i64 fs[i].shape, va, .int .i64 0, .int .i64 0, .nils, .nils] 52 0)
    have n1 : (h.mk' h.next (.cells [.int .i64 0, .int .i64 fs[i].id, .int .i64 fs[i].shape, va, .int .i64 0, .int .i64 0, .nils, .nils] 52 0)).next = h.next + 1 := by rw [mk_next]; omega
    obtain ⟨h2, p2, r2, n2, k2⟩ := (r.ext e1).push trOp (a := putF fs[i]) hop (nb := h.next) (eb := 52) (vb := 0) (by rw [Heap.get_mk, if_pos rfl]) (bytes := 112) (by rw [hl]; unfold most2; omega) 52
    rw [n1] at p2 r2 n2 k2
    simp only [t3, t13, hw.len, c1, hat, ova, p2, w1, HN, RW, RX, VOp.fresh, bxC, bsC, un, most, callsOf, seval, Int.reducePow, ↓reduceIte, Nat.reduceEqDiff, reduceCtorEq]
    refine ih (i + 1) _ h2 k Q (by omega) ?_ ?_ ?_ hQ
    · simp only [sg_set, Nat.reduceEqDiff, ↓reduceIte]
      rw [hs]
      have : rsO M (fs.take i ++ [fs[i]]) = rsO M (fs.take i) ++ [putF fs[i]] := by
        unfold rsO
        rw [List.map_append]
        rfl
      rw [this]
      exact r2
    · simp only [t3, sg_set, Nat.reduceEqDiff, ↓reduceIte]
    · simp only [sg_set, Nat.reduceEqDiff, ↓reduceIte]
theorem refOps_ft (g : Pg P tab) {m : Mp} {v u w : AV} {fs : List Feat} (hv : IsL 8 RInt v m.starts) (hu : IsL 8 RInt u m.owners) (hw : IsL 40 RFeat w fs) (hsz : fs.length ≤ 1048576) {nodes k a t : Int} (ha : I64 a) (ht : I64 t) :
    Ft P 15 [.agg [.int .i64 m.epoch, v, u], .int .i64 nodes, .agg [.int .i64 k, .int .i64 a, .int .i64 t], w] (fun z => ((∀ i, ¬ RsYes nodes m k a t fs i) ∧ z = .tup [.nils, .int .i64 2200]) ∨ ∃ i y, RsYes nodes m k a t fs i ∧ IsL 112 ROp y (rsO (chgR m k a t i) fs) ∧ z = .tup [y, .int .i64 0]) := by
  have ov := isL_one hv
  have ou := isL_one hu
  refine Ft.of fun h => g.cl (vf := v15) rfl rfl ?_
  simp only [v15, ov, ou, HN, RW, RX, VOp.fresh, bxC, bsC, un, most, callsOf, seval, Int.reducePow, ↓reduceIte, Nat.reduceEqDiff, reduceCtorEq]
  refine (rchange_pu g hv hu ha ht).go (by simp [AV.tolds, AV.told, hv.told tInt, hu.told tInt]) ?_
  rintro _ (⟨e, c, rfl⟩ | ⟨i, c, rfl⟩)
  · obtain ⟨he, hno⟩ := IxErr c
    simp only [he, HN, RW, RX, VOp.fresh, bxC, bsC, un, most, callsOf, seval, Int.reducePow, ↓reduceIte, Nat.reduceEqDiff, reduceCtorEq]
    exact ⟨_, [], .told rfl, .inl ⟨fun i y => hno i y.1, rfl⟩⟩
  · obtain ⟨⟨⟨p1, p2, p3, p4, p5, p6, p7, p8, p9⟩, k0, k2, a0, a1⟩, he, hi, hn, ok⟩ := id c
    obtain ⟨r1, r2, r3, r4, r5, r6⟩ := chgR_ok hv hu ⟨k0, k2⟩ ha ht hi p6 p7 hn
    obtain ⟨z1, z2, z3', z4, _⟩ := id ok
    have hM : chgR m k a t i = chgR m k a t i := rfl
    generalize hMM : chgR m k a t i = M at *
    have is1 := tI_is r1 r5
    have is2 := tI_is r2 r6
    have o1 := isL_one is1
    have o2 := isL_one is2
    simp only [toldMp, o1, o2, HN, RW, RX, VOp.fresh, bxC, bsC, un, most, callsOf, seval, Int.reducePow, ↓reduceIte, Nat.reduceEqDiff, reduceCtorEq]
    have hro : ROp (mapO M) [.int .i64 2, .int .i64 0, .int .i64 0, .nils, .int .i64 0, .int .i64 M.epoch, tI M.starts, tI M.owners] := by
      refine ⟨.nils, tI M.starts, tI M.owners, rfl, ?_, ?_, ?_, isL_nil 24 RRing, ?_, (show I64 M.epoch from ⟨by omega, by omega⟩), is1, is2⟩
      · exact (show I64 2 from ⟨by omega, by omega⟩)
      all_goals exact i64_0
    refine refOps_loop g hw hsz (M := M) fs.length 0 _ _ _ _ (by omega) ?_ ?_ ?_ fun t' h' r => ?_
    · simp only [sg_set, Nat.reduceEqDiff, ↓reduceIte]
      refine ⟨_, .inr ⟨h.next + 3, 52, 0, rfl, by simp [rsO], ?_, ?_, by rw [Heap.get_mk, if_pos rfl]⟩, ?_⟩
      · simp only [mk_next, put_next]; omega
      · simp [rsO]
      · have := Cat.cons hro (Cat.nil (R := ROp))
        rwa [List.append_nil] at this
    · simp only [sg_set, Nat.reduceEqDiff, ↓reduceIte]
    · simp only [sg_set, Nat.reduceEqDiff, ↓reduceIte]
      rfl
    · have hl2 : (rsO M fs).length = fs.length + 1 := by simp [rsO]
      obtain ⟨v', D, fd, isv⟩ := r.fd trOp (b := 112) (by rw [hl2, reach_eq]; omega)
      simp only [RX, VOp.fresh, bxC, bsC, un, most, callsOf, seval, Int.reducePow, ↓reduceIte, Nat.reduceEqDiff, reduceCtorEq]
      refine (rOps_pu g isv).cl (.cons fd.fz .nil) ?_
      rintro _ ⟨b, rfl, hb⟩
      cases b with
      | false =>
        simp only [RX, VOp.fresh, bxC, bsC, un, most, callsOf, seval, Int.reducePow, ↓reduceIte, Nat.reduceEqDiff, reduceCtorEq]
        refine ⟨_, [], .told rfl, .inl ⟨fun j y => ?_, rfl⟩⟩
        obtain rfl := y.1.2.2.1.uniq y.1.1.1.rise hi
        have := hb.2 (by rw [← hMM]; exact y.2.2.eight)
        cases this
      | true =>
        simp only [RX, VOp.fresh, bxC, bsC, un, most, callsOf, seval, Int.reducePow, ↓reduceIte, Nat.reduceEqDiff, reduceCtorEq]
        have hok := hb.1 rfl
        refine ⟨.tup [v', .int .i64 0], _, .tup (.cons fd (.cons (.told rfl) .nil)), .inr ⟨i, v', ⟨by rw [← hMM] at ok; exact ⟨⟨⟨p1, p2, p3, p4, p5, p6, p7, p8, p9⟩, k0, k2, a0, a1⟩, he, hi, hn, ok⟩, by have := hok.2.1; omega, ?_⟩, by rw [hMM]; exact isv, rfl⟩⟩
        rw [hMM]
        exact opsOk_down ok hok
end
section
variable {h : Heap} {B : Nat → Prop}
theorem LPts.ofIs {x v : AV} {r : List Pt} (a : Lv h B x v) (hi : IsL 16 RPt v r) (h0 : 0 < r.length) (h1 : r.length ≤ 1000000) : LPts h B x := by
  rcases hi.2 with ⟨rfl, rfl⟩ | ⟨c, rfl, hc⟩
  · simp at h0
  · rw [← cRow_s c h0] at a
    obtain ⟨b, off, cap, rfl, hB, hb, hg⟩ := a.row_inv (z := 2) h0 (Cat.length zPt hc)
    refine .inr ⟨b, off, r.length, cap, rfl, h1, hB, hb, fun i hi => ?_⟩
    obtain ⟨ci, rr, ed, rfl, _⟩ := hc.at zPt i hi
    have e : c[i * 2]? = some (.int .i64 r[i].x) := by
      have : (c.drop (i * 2))[0]? = some (.int .i64 r[i].x) := by rw [ed]; rfl
      rwa [List.getElem?_drop, Nat.add_zero] at this
    obtain ⟨y, ay, ly⟩ := hg _ _ e
    rw [ly.int_inv] at ay
    exact ⟨_, ay⟩
theorem LRings.ofIs {x v : AV} {rs : List (List Pt)} (a : Lv h B x v) (hi : IsL 24 RRing v rs) (h0 : 0 < rs.length) (h1 : rs.length ≤ 1000000) (hr : ∀ r ∈ rs, 0 < r.length ∧ r.length ≤ 1000000) : LRings h B x := by
  rcases hi.2 with ⟨rfl, rfl⟩ | ⟨c, rfl, hc⟩
  · simp at h0
  · rw [← cRow_s c h0] at a
    obtain ⟨b, off, cap, rfl, hB, hb, hg⟩ := a.row_inv (z := 1) h0 (Cat.length zRing hc)
    refine .inr ⟨b, off, rs.length, cap, rfl, h1, hB, hb, fun i hi => ?_⟩
    obtain ⟨ci, rr, ed, vi, rfl, hvi⟩ := hc.at zRing i hi
    have e : c[i]? = some vi := by
      have : (c.drop (i * 1))[0]? = some vi := by rw [ed]; rfl
      rwa [List.getElem?_drop, Nat.add_zero, Nat.mul_one] at this
    obtain ⟨y, ay, ly⟩ := hg _ _ e
    obtain ⟨q1, q2⟩ := hr rs[i] (List.getElem_mem hi)
    exact ⟨y, ay, LPts.ofIs ly hvi q1 q2⟩
theorem featOk_rings {f : Feat} (ok : featOk f) : 0 < f.rings.length ∧ f.rings.length ≤ 1000000 ∧ ∀ r ∈ f.rings, 0 < r.length ∧ r.length ≤ 1000000 := by
  obtain ⟨_, _, h1, h2, h3⟩ := ok
  refine ⟨by omega, by omega, fun r hr => ?_⟩
  obtain ⟨i, hi, rfl⟩ := List.getElem_of_mem hr
  rcases h3 with ⟨_, e1, e2, _⟩ | ⟨_, e1, e2⟩ | ⟨_, e⟩
  · obtain rfl : i = 0 := by omega
    rw [getD_ring (by omega)] at e2
    omega
  · obtain rfl : i = 0 := by omega
    rw [getD_ring (by omega)] at e2
    obtain ⟨q1, q2, _⟩ := e2
    omega
  · have e2 := e i hi
    rw [getD_ring hi] at e2
    obtain ⟨q1, q2, _⟩ := e2
    omega
theorem LOps.ofRow {x : AV} {M : Mp} {fs : List Feat} {tc : List AV} (r : LR h B x 8 ([.int .i64 2, .int .i64 0, .int .i64 0, .nils, .int .i64 0, .int .i64 M.epoch, tI M.starts, tI M.owners] ++ tc) (fs.length + 1)) (hc : Cat RPut fs tc) (hl : fs.length ≤ 1000)
    (ok : ∀ f ∈ fs, featOk f) (s0 : 0 < M.starts.length ∧ M.starts.length ≤ 1000000 ∧ ∀ x ∈ M.starts, I64 x) (o0 : 0 < M.owners.length ∧ M.owners.length ≤ 1000000 ∧ ∀ x ∈ M.owners, I64 x) : LOps h B x := by
  have lv := r.lv
  have hlen : ([.int .i64 2, .int .i64 0, .int .i64 0, .nils, .int .i64 0, .int .i64 M.epoch, tI M.starts, tI M.owners] ++ tc).length = (fs.length + 1) * 8 := by
    have := Cat.length (z := 8) (fun a c (h : RPut a c) => by obtain ⟨v, rfl, _⟩ := h; rfl) hc
    simp only [List.length_append, List.length_cons, List.length_nil, this]; omega
  obtain ⟨b, off, cap, rfl, hB, hb, hg⟩ := lv.row_inv (z := 8) (by omega) hlen
  refine .inr ⟨b, off, fs.length + 1, cap, rfl, by unfold most3; omega, hB, hb, fun i hi => ?_⟩
  have any : ∀ {j}, AtI h b j → AtE h b j := fun ⟨m, hm⟩ => ⟨_, hm, rfl⟩
  have num : ∀ j (m : Int), ([.int .i64 2, .int .i64 0, .int .i64 0, .nils, .int .i64 0, .int .i64 M.epoch, tI M.starts, tI M.owners] ++ tc)[j]? = some (.int .i64 m) → AtI h b (off + j) := fun j m hy => by
    obtain ⟨x, ax, lx⟩ := hg j _ hy
    rw [lx.int_inv] at ax
    exact ⟨_, ax⟩
  cases i with
  | zero =>
    rw [Nat.zero_mul, Nat.add_zero]
    obtain ⟨x3, a3, l3⟩ := hg 3 .nils rfl
    obtain ⟨x6, a6, l6⟩ := hg 6 (tI M.starts) rfl
    obtain ⟨x7, a7, l7⟩ := hg 7 (tI M.owners) rfl
    exact ⟨num 1 0 rfl, any (num 2 0 rfl), ⟨x3, a3, .inl l3.nils_inv⟩, num 4 0 rfl, any (num 5 _ rfl), ⟨x6, a6, lints_tI l6 s0.1 s0.2.1 s0.2.2⟩, x7, a7, lints_tI l7 o0.1 o0.2.1 o0.2.2⟩
  | succ i =>
    obtain ⟨ci, rr, ed, w, rfl, j1, j2, j3⟩ := hc.at (z := 8) (fun a c (h : RPut a c) => by obtain ⟨v, rfl, _⟩ := h; rfl) i (by omega)
    have get : ∀ j y, [AV.int .i64 0, .int .i64 fs[i].id, .int .i64 fs[i].shape, w, .int .i64 0, .int .i64 0, .nils, .nils][j]? = some y → ([.int .i64 2, .int .i64 0, .int .i64 0, .nils, .int .i64 0, .int .i64 M.epoch, tI M.starts, tI M.owners] ++ tc)[(i + 1) * 8 + j]? = some y := fun j y hy => by
      obtain ⟨hj, _⟩ := List.getElem?_eq_some_iff.1 hy
      rw [List.getElem?_append_right (by simp; omega)]
      have : (tc.drop (i * 8))[j]? = some y := by rw [ed, List.getElem?_append_left hj]; exact hy
      rw [List.getElem?_drop] at this
      rw [← this]
      congr 1
      simp only [List.length_cons, List.length_nil]
      omega
    obtain ⟨x3, a3, l3⟩ := hg _ _ (get 3 w rfl)
    obtain ⟨x6, a6, l6⟩ := hg _ _ (get 6 .nils rfl)
    obtain ⟨x7, a7, l7⟩ := hg _ _ (get 7 .nils rfl)
    obtain ⟨q1, q2, q3⟩ := featOk_rings (ok fs[i] (List.getElem_mem (by omega)))
    have n1 := num _ _ (get 1 _ rfl)
    have n2 := num _ _ (get 2 _ rfl)
    have n4 := num _ _ (get 4 _ rfl)
    have n5 := num _ _ (get 5 _ rfl)
    simp only [← Nat.add_assoc] at n1 n2 n4 n5 a3 a6 a7
    exact ⟨n1, any n2, ⟨x3, a3, LRings.ofIs l3 j3 q1 q2 q3⟩, n4, any n5, ⟨x6, a6, .inl l6.nils_inv⟩, x7, a7, .inl l7.nils_inv⟩
end
end Go.Proofs.Ythmkenkjfmbkiaa.VM
namespace Go.Proofs.Ythmkenkjfmbkiaa.VM
attribute [local irreducible] Af Nx EvO Ev Un Gd Cd EvR EvQ EvC Nc Gc Lp EvM NxM AfM GdM EvMR EvMQ EvMD EvMC Nm Gm
section
variable {P : Program}
theorem rops_isL {m : Mp} {v u : AV} {fs : List Feat} {tc : List AV} (hv : IsL 8 RInt v m.starts) (hu : IsL 8 RInt u m.owners) {nodes k a t : Int} (ha : I64 a) (ht : I64 t) {i : Nat} (y : RsYes nodes m k a t fs i) (c : Cat RPut fs tc) :
    IsL 112 ROp (cRow ([.int .i64 2, .int .i64 0, .int .i64 0, .nils, .int .i64 0, .int .i64 (chgR m k a t i).epoch, tI (chgR m k a t i).starts, tI (chgR m k a t i).owners] ++ tc) (fs.length + 1)) (rsO (chgR m k a t i) fs) := by
  obtain ⟨⟨⟨⟨p1, p2, p3, p4, p5, p6, p7, p8, p9⟩, k0, k2, a0, a1⟩, he, hi, hn, ok⟩, hl, _⟩ := y
  obtain ⟨r1, r2, r3, r4, r5, r6⟩ := chgR_ok hv hu ⟨k0, k2⟩ ha ht hi p6 p7 hn
  obtain ⟨z1, z2, z3', z4, _⟩ := ok
  generalize chgR m k a t i = M at *
  have hl2 : (rsO M fs).length = fs.length + 1 := by simp [rsO]
  rw [← hl2]
  refine row_isL (by rw [hl2, reach_eq]; omega) (.cons (a := mapO M) ⟨.nils, tI M.starts, tI M.owners, rfl, ?_, ?_, ?_, isL_nil 24 RRing, ?_, (show I64 M.epoch from ⟨by omega, by omega⟩), tI_is r1 r5, tI_is r2 r6⟩ (Cat.put c))
  · exact (show I64 2 from ⟨by omega, by omega⟩)
  all_goals exact i64_0
theorem rops_lr (g : Pg P tab) (hins : InsOk P) {m : Mp} {v u w : AV} {fs : List Feat} (hv : IsL 8 RInt v m.starts) (hu : IsL 8 RInt u m.owners) (hw : IsL 40 RFeat w fs) {nodes k a t : Int} (ha : I64 a) (ht : I64 t) {h : Heap} {args : List AV} {Q : AV → Heap → Prop} (hA : Fzs true h args [.agg [.int .i64 m.epoch, v, u], .int .i64 nodes, .agg [.int .i64 k, .int .i64 a, .int .i64 t], w])
    (qN : ∀ h', Ext h h' → (∀ i, ¬ RsYes nodes m k a t fs i) → Q (.tup [.nils, .int .i64 2200]) h')
    (qY : ∀ h' i x tc, RsYes nodes m k a t fs i → LR h' (h.next ≤ ·) x 8 ([.int .i64 2, .int .i64 0, .int .i64 0, .nils, .int .i64 0, .int .i64 (chgR m k a t i).epoch, tI (chgR m k a t i).starts, tI (chgR m k a t i).owners] ++ tc) (fs.length + 1) → Cat RPut fs tc → Ext h h' → Q (.tup [x, .int .i64 0]) h') : Cl P 14 args h Q := by
  refine Cl.laidR (sz := 8) (R := fun e tl n => (e = 2200 ∧ n = 0 ∧ tl = [] ∧ ∀ i, ¬ RsYes nodes m k a t fs i) ∨ (e = 0 ∧ n = fs.length + 1 ∧ ∃ i tc, RsYes nodes m k a t fs i ∧ tl = [.int .i64 2, .int .i64 0, .int .i64 0, .nils, .int .i64 0, .int .i64 (chgR m k a t i).epoch, tI (chgR m k a t i).starts, tI (chgR m k a t i).owners] ++ tc ∧ Cat RPut fs tc)) hA ?_ ?_
  · refine rops_cl g hins hv hu hw ha ht (fun h' x no => ⟨.nils, 2200, [], 0, rfl, .nil _ _ _, .inl ⟨rfl, rfl, rfl, no⟩⟩) fun h' i x tc y r c xx => ⟨x, 0, _, _, rfl, r.weak fun _ _ _ => trivial, .inr ⟨rfl, rfl, i, tc, y, rfl, c⟩⟩
  · rintro x e tl n h' r (⟨rfl, rfl, rfl, no⟩ | ⟨rfl, rfl, i, tc, y, rfl, c⟩) xx
    · have : x = .nils := by
        obtain ⟨cs, row, _⟩ := r
        rcases row with ⟨rfl, _⟩ | ⟨_, _, _, _, h0, _⟩
        · rfl
        · omega
      subst this
      exact qN h' xx no
    · exact qY h' i x tc y r c xx
theorem sim_ext {h h1 h2 : Heap} (x : Ext h h1) (s : Sim (h.next ≤ ·) h1 h2) : Ext h h2 := ⟨Nat.le_trans x.1 s.1, fun b hb => by
  rw [(s.2 b (Nat.lt_of_lt_of_le hb x.1)).1 (by omega)]; exact x.2 b hb⟩
theorem reshards_pu (g : Pg P tab) (hins : InsOk P) {m : Mp} {v u w : AV} {fs : List Feat} (he : I64 m.epoch) (hv : IsL 8 RInt v m.starts) (hu : IsL 8 RInt u m.owners) (hw : IsL 40 RFeat w fs) (hsz : fs.length ≤ 1048576) (nodes : Int) {k a t : Int} (ha : I64 a) (ht : I64 t) :
    Pu P 3 [.agg [.int .i64 m.epoch, v, u], .int .i64 nodes, .agg [.int .i64 k, .int .i64 a, .int .i64 t], w] (fun z => z = .bool true) := by
  refine g.pu (vf := v3) rfl rfl ?_
  have ov := isL_one hv
  have ou := isL_one hu
  simp only [v3, ov, ou, RW, RX, VOp.fresh, bxC, bsC, un, most, callsOf, seval, Int.reducePow, ↓reduceIte, Nat.reduceEqDiff, reduceCtorEq]
  obtain ⟨h0, e0⟩ : ∃ h0, h0 = (((⟨0, .e⟩ : Heap).mk' 0 (.cells [.int .i64 m.epoch, v, u] 24 0)).mk' 1 (.cells [.int .i64 k, .int .i64 a, .int .i64 t] 26 0)) := ⟨_, rfl⟩
  have n0 : h0.next = 2 := by rw [e0]; rfl
  have a0 : h0.get 0 = some (.cells [.int .i64 m.epoch, v, u] 24 0) := by rw [e0]; rfl
  have a1 : h0.get 1 = some (.cells [.int .i64 k, .int .i64 a, .int .i64 t] 26 0) := by rw [e0]; rfl
  rw [← e0]
  clear e0
  refine copyMap_cl g ⟨v, u, rfl, he, hv, hu⟩ fun c tt h1 lx hm hlc hone x1 => ?_
  obtain ⟨v', u', rfl, _, hv', hu'⟩ := hm
  simp only [RW, RX, VOp.fresh, bxC, bsC, un, most, callsOf, seval, Int.reducePow, ↓reduceIte, Nat.reduceEqDiff, reduceCtorEq]
  refine copyFeats_cl g hw fun y ty h2 ly isy cy oy x2 => ?_
  have hlcut : part true c 0 3 = some (.agg c) := by
    have : VM.cut c 0 3 = some c := by rw [cut_eq, List.drop_zero, List.take_of_length_le (by omega), if_pos hlc]
    simp only [part, this, if_true]
  have g12 : h2.get 1 = some (.cells [.int .i64 k, .int .i64 a, .int .i64 t] 26 0) := ((x1.trans x2).2 1 (by omega)).trans a1
  have ne1 : ¬ 1 = h2.next := by have := (x1.trans x2).1; omega
  simp only [hone, hlc, oy, hlcut, g12, ne1, List.append_nil, RW, RX, VOp.fresh, bxC, bsC, un, most, callsOf, seval, Int.reducePow, ↓reduceIte, Nat.reduceEqDiff, reduceCtorEq]
  have x3 := ext_box h2 (.cells [.int .i64 0, .nils, .nils] 24 0) (.cells c 24 1)
  obtain ⟨h3, e3⟩ : ∃ h3, h3 = ((h2.mk' h2.next (.cells [.int .i64 0, .nils, .nils] 24 0)).put h2.next (.cells c 24 1)) := ⟨_, rfl⟩
  obtain ⟨X, hX⟩ : ∃ X, X = h2.next := ⟨_, rfl⟩
  have x03 : Ext h0 h3 := x1.trans (x2.trans (by rw [e3]; exact x3))
  have x13 : Ext h1 h3 := x2.trans (by rw [e3]; exact x3)
  have x23 : Ext h2 h3 := by rw [e3]; exact x3
  have n3 : h3.next = h2.next + 1 := by rw [e3, put_next, mk_next]; omega
  have gX : h3.get X = some (.cells c 24 1) := by rw [hX, e3, Heap.get_put, if_pos rfl]
  have lx3 : Lvs h3 (2 ≤ ·) c [.int .i64 m.epoch, v', u'] := (lx.frame x13.1 fun b _ hb => x13.2 b hb).weak fun b hb _ => by rw [n0] at hb; exact hb
  have ly3 : Lv h3 (2 ≤ ·) y ty := (ly.frame x23.1 fun b _ hb => x23.2 b hb).weak fun b hb _ => by have := x1.1; omega
  have lX : X < h3.next := by omega
  have h31 : 2 ≤ h3.next := by have := x03.1; omega
  rw [← e3, ← hX]
  have g0 := (x03.2 0 (by omega)).trans a0
  have g1 := (x03.2 1 (by omega)).trans a1
  clear e3 x3 x2 x1 a0 a1 ly lx
  have fA : Fzs true h3 [.agg c, .int .i64 nodes, .agg [.int .i64 k, .int .i64 a, .int .i64 t], y] [.agg [.int .i64 m.epoch, v', u'], .int .i64 nodes, .agg [.int .i64 k, .int .i64 a, .int .i64 t], ty] :=
    .cons (.agg lx3.fzs) (.cons (.int _ _) (.cons (.agg (.cons (.int _ _) (.cons (.int _ _) (.cons (.int _ _) .nil)))) (.cons ly3.fz .nil)))
  refine rops_lr g hins hv' hu' isy ha ht fA ?_ ?_
  · intro h4 x4 no
    have g04 := (x4.2 0 (by omega)).trans g0
    have g14 := (x4.2 1 (by omega)).trans g1
    simp only [g04, g14, ov, ou, RW, RX, VOp.fresh, bxC, bsC, un, most, callsOf, seval, Int.reducePow, ↓reduceIte, Nat.reduceEqDiff, reduceCtorEq]
    refine (refOps_ft g hv hu hw hsz ha ht).cl ?_
    rintro _ (⟨_, rfl⟩ | ⟨i, yy, yes, _, rfl⟩)
    · simp only [RW, RX, VOp.fresh, bxC, bsC, un, most, callsOf, seval, Int.reducePow, ↓reduceIte, Nat.reduceEqDiff, reduceCtorEq]
      refine (sOps_pu g (isL_nil 112 ROp) (isL_nil 112 ROp)).go rfl ?_
      rintro _ rfl
      simp only [RW, RX, VOp.fresh, bxC, bsC, un, most, callsOf, seval, Int.reducePow, ↓reduceIte, Nat.reduceEqDiff, reduceCtorEq]
      refine (num_pu g _).go rfl ?_
      rintro _ rfl
      simp only [RW, RX, VOp.fresh, bxC, bsC, un, most, callsOf, seval, Int.reducePow, ↓reduceIte, Nat.reduceEqDiff, reduceCtorEq]
      refine spOps_cl g (B := (h3.next ≤ ·)) (.inl rfl) fun _ h5 s5 => ?_
      have x5 := sim_ext x4 s5
      have g05 := (x5.2 0 (by omega)).trans g0
      have gX5 := (x5.2 X lX).trans gX
      have lx5 := lx3.frame x5.1 fun b _ hb => x5.2 b hb
      have ly5 := ly3.frame x5.1 fun b _ hb => x5.2 b hb
      simp only [g05, gX5, hlcut, ov, ou, RW, RX, VOp.fresh, bxC, bsC, un, most, callsOf, seval, Int.reducePow, ↓reduceIte, Nat.reduceEqDiff, reduceCtorEq]
      refine (sMap_pu g (e := m.epoch) hv' hu' hv hu).cl (.cons (.agg lx5.fzs) (.cons (Fz.refl (by simp [AV.told, AV.tolds, hv.told tInt, hu.told tInt])) .nil)) ?_
      rintro _ rfl
      simp only [RW, RX, VOp.fresh, bxC, bsC, un, most, callsOf, seval, Int.reducePow, ↓reduceIte, Nat.reduceEqDiff, reduceCtorEq]
      refine (sFeats_pu g isy hw).cl (.cons ly5.fz (.cons (Fz.refl (hw.told tFeat)) .nil)) ?_
      rintro _ rfl
      simp only [RW, RX, VOp.fresh, bxC, bsC, un, most, callsOf, seval, Int.reducePow, ↓reduceIte, Nat.reduceEqDiff, reduceCtorEq]
      refine (awake22_pu g hins).go rfl ?_
      rintro _ rfl
      simp only [RW, RX, VOp.fresh, bxC, bsC, un, most, callsOf, seval, Int.reducePow, ↓reduceIte, Nat.reduceEqDiff, reduceCtorEq]
    · exact absurd yes (no i)
  · intro h4 i x tc yes r hc x4
    have g04 := (x4.2 0 (by omega)).trans g0
    have g14 := (x4.2 1 (by omega)).trans g1
    have ox := r.one
    simp only [g04, g14, ov, ou, ox, RW, RX, VOp.fresh, bxC, bsC, un, most, callsOf, seval, Int.reducePow, ↓reduceIte, Nat.reduceEqDiff, reduceCtorEq]
    refine (refOps_ft g hv hu hw hsz ha ht).cl ?_
    rintro _ (⟨no, _⟩ | ⟨j, yy, yes2, isyy, rfl⟩)
    · exact absurd yes (no i)
    · obtain rfl := yes2.1.2.2.1.uniq yes2.1.1.1.rise yes.1.2.2.1
      have oyy := isL_one isyy
      simp only [oyy, RW, RX, VOp.fresh, bxC, bsC, un, most, callsOf, seval, Int.reducePow, ↓reduceIte, Nat.reduceEqDiff, reduceCtorEq]
      refine (sOps_pu g (rops_isL hv hu ha ht yes hc) isyy).cl (.cons r.lv.fz (.cons (Fz.refl (isyy.told tOp)) .nil)) ?_
      rintro _ rfl
      simp only [RW, RX, VOp.fresh, bxC, bsC, un, most, callsOf, seval, Int.reducePow, ↓reduceIte, Nat.reduceEqDiff, reduceCtorEq]
      refine (num_pu g _).go rfl ?_
      rintro _ rfl
      simp only [RW, RX, VOp.fresh, bxC, bsC, un, most, callsOf, seval, Int.reducePow, ↓reduceIte, Nat.reduceEqDiff, reduceCtorEq]
      have lops : LOps h4 (h3.next ≤ ·) x := by
        obtain ⟨⟨⟨⟨p1, p2, p3, p4, p5, p6, p7, p8, p9⟩, k0, k2, a0, a1⟩, he, hi, hn, ok⟩, hl, oks⟩ := yes
        obtain ⟨r1, r2, r3, r4, r5, r6⟩ := chgR_ok hv hu ⟨k0, k2⟩ ha ht hi p6 p7 hn
        obtain ⟨z1, z2, z3, z4, z5, z6, z7, _⟩ := ok
        refine LOps.ofRow r hc (by omega) (fun f hf => ?_) ⟨by omega, r5, r1⟩ ⟨by omega, r6, r2⟩
        obtain ⟨q, hq, rfl⟩ := List.getElem_of_mem hf
        have := (oks.2.2 (q + 1) (by simp [rsO]; omega)).1
        rw [show (rsO (chgR m k a t j) fs).getD (q + 1) op0 = putF fs[q] by simp [rsO, List.getD_eq_getElem?_getD, hq]] at this
        rcases this with c | c | c
        · exact c.2.1
        · exact absurd c.1 (by show ¬ (0 : Int) = 1; decide)
        · exact absurd c.1 (by show ¬ (0 : Int) = 2; decide)
      refine spOps_cl g lops fun _ h5 s5 => ?_
      have x5 := sim_ext x4 s5
      have g05 := (x5.2 0 (by omega)).trans g0
      have gX5 := (x5.2 X lX).trans gX
      have lx5 := lx3.frame x5.1 fun b _ hb => x5.2 b hb
      have ly5 := ly3.frame x5.1 fun b _ hb => x5.2 b hb
      simp only [g05, gX5, hlcut, ov, ou, RW, RX, VOp.fresh, bxC, bsC, un, most, callsOf, seval, Int.reducePow, ↓reduceIte, Nat.reduceEqDiff, reduceCtorEq]
      refine (sMap_pu g (e := m.epoch) hv' hu' hv hu).cl (.cons (.agg lx5.fzs) (.cons (Fz.refl (by simp [AV.told, AV.tolds, hv.told tInt, hu.told tInt])) .nil)) ?_
      rintro _ rfl
      simp only [RW, RX, VOp.fresh, bxC, bsC, un, most, callsOf, seval, Int.reducePow, ↓reduceIte, Nat.reduceEqDiff, reduceCtorEq]
      refine (sFeats_pu g isy hw).cl (.cons ly5.fz (.cons (Fz.refl (hw.told tFeat)) .nil)) ?_
      rintro _ rfl
      simp only [RW, RX, VOp.fresh, bxC, bsC, un, most, callsOf, seval, Int.reducePow, ↓reduceIte, Nat.reduceEqDiff, reduceCtorEq]
      refine (awake22_pu g hins).go rfl ?_
      rintro _ rfl
      simp only [RW, RX, VOp.fresh, bxC, bsC, un, most, callsOf, seval, Int.reducePow, ↓reduceIte, Nat.reduceEqDiff, reduceCtorEq]
end
end Go.Proofs.Ythmkenkjfmbkiaa.VM
