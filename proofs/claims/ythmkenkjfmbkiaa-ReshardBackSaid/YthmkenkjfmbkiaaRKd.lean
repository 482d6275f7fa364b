/- Part of a proof: what stands for the program, and its walk. No condition. -/
import Derived.Below
import Derived.ChangeArms
import Derived.ChangeMaps5
import Derived.Laws.Cells
import Derived.Laws.IdiomCopy
import Derived.MapKept
import Derived.Orders
import Derived.Shelf.Spec.SlicesInsertGrow
import Derived.SizedLaws
import Derived.WalkKit
import Derived.WalkLawsBesides
import GoSem.Claim
import Derived.Test.YthmkenkjfmbkiaaRKc
set_option linter.unusedSimpArgs false
set_option linter.unusedVariables false
set_option linter.defProp false
set_option maxHeartbeats 1000000
namespace Go.Proofs.Ythmkenkjfmbkiaa.VM
theorem ins_getD {l : List Int} {i : Nat} {x : Int} (h : i < l.length) (j : Nat) : (ins l (i + 1) x).getD j 0 = if j ≤ i then l.getD j 0 else if j = i + 1 then x else l.getD (j - 1) 0 := by
  have hl : (l.take (i + 1)).length = i + 1 := by rw [List.length_take]; omega
  unfold ins
  rw [List.getD_eq_getElem?_getD]
  by_cases h1 : j ≤ i
  · rw [if_pos h1, List.getElem?_append_left (by omega), List.getElem?_take_of_lt (by omega), List.getD_eq_getElem?_getD]
  · rw [if_neg h1, List.getElem?_append_right (by omega), hl]
    by_cases h2 : j = i + 1
    · rw [if_pos h2, h2, Nat.sub_self]; rfl
    · rw [if_neg h2, show j - (i + 1) = (j - 1 - (i + 1)) + 1 by omega, List.getElem?_cons_succ, List.getElem?_drop, List.getD_eq_getElem?_getD, show i + 1 + (j - 1 - (i + 1)) = j - 1 by omega]
theorem erase_ins {l : List Int} {i : Nat} {x : Int} (h : i ≤ l.length) : (ins l i x).eraseIdx i = l := by
  have hl : (l.take i).length = i := by rw [List.length_take]; omega
  unfold ins
  rw [List.eraseIdx_append_of_length_le (by omega), hl, Nat.sub_self, List.eraseIdx_cons_zero, List.take_append_drop]
section
variable {m : Mp} {A : Int} {i : Nat}
/-- what holds where a stretch was split -/
structure Sp (m : Mp) (A : Int) (i : Nat) : Prop where
  ok : mpOk 8 m
  hi : i < m.starts.length
  lo : m.starts.getD i 0 < A
  up : i + 1 < m.starts.length → A < m.starts.getD (i + 1) 0
  a0 : 1 ≤ A
  a1 : A < 4294967296
  le : m.starts.length ≤ 31
  ep : m.epoch ≤ 65534
theorem Sp.of (c : ChYes 8 m 0 A 0 i) : Sp m A i := by
  obtain ⟨⟨ok, _, _, h0, h1⟩, he, hi, _, ok1⟩ := c
  have hi1 := hi.1
  have ok' := ok
  obtain ⟨p1, p2, p3, p4, p5, p6, p7, p8, p9⟩ := ok
  obtain ⟨q1, q2, q3, q4, q5, q6, q7, q8, q9⟩ := ok1
  have li : (ins m.starts (i + 1) A).length = m.starts.length + 1 := ins_len (by omega) _
  have r1 : (ins m.starts (i + 1) A).getD i 0 < (ins m.starts (i + 1) A).getD (i + 1) 0 := by
    rcases (q9 (i + 1) (by show i + 1 < (ins m.starts (i + 1) A).length; rw [li]; omega)).2.1 with h | h
    · omega
    · exact h
  rw [ins_getD hi1, ins_getD hi1, if_pos (Nat.le_refl _), if_neg (by omega), if_pos rfl] at r1
  have s0 : 0 ≤ m.starts.getD i 0 := by
    rcases Nat.eq_zero_or_pos i with h | h
    · rw [h, p8]; exact Int.le_refl _
    · have := ok'.rise.lt h hi1
      rw [p8] at this; omega
  refine ⟨ok', hi1, r1, hi.2.2, by omega, h1, ?_, by omega⟩
  have : (ins m.starts (i + 1) A).length ≤ 32 := q6
  omega
theorem Sp.ix2 (c : Sp m A i) : IxAt (ins m.starts (i + 1) A) (A - 1) i := by
  have li : (ins m.starts (i + 1) A).length = m.starts.length + 1 := ins_len (by have := c.hi; omega) _
  refine ⟨by rw [li]; have := c.hi; omega, ?_, fun h => ?_⟩
  · rw [ins_getD c.hi, if_pos (Nat.le_refl _)]; have := c.lo; omega
  · rw [ins_getD c.hi, if_neg (by omega), if_pos rfl]; omega
/-- whose stretch a place is in does not change by splitting -/
theorem Sp.own (c : Sp m A i) {B : Int} {k k1 : Nat} (hk : IxAt m.starts B k) (hk1 : IxAt (ins m.starts (i + 1) A) B k1) : (ins m.owners (i + 1) (m.owners.getD i 0)).getD k1 0 = m.owners.getD k 0 := by
  have li : (ins m.starts (i + 1) A).length = m.starts.length + 1 := ins_len (by have := c.hi; omega) _
  have hi := c.hi
  have hio : i < m.owners.length := by rw [c.ok.2.2.2.2.2.2.1]; exact hi
  have lo := c.lo
  have up := c.up
  obtain ⟨a1, a2, a3⟩ := hk1
  rw [li] at a1 a3
  rw [ins_getD hi] at a2
  rw [ins_getD hio]
  by_cases h1 : k1 ≤ i
  · rw [if_pos h1] at a2 ⊢
    have : IxAt m.starts B k1 := by
      refine ⟨by omega, a2, fun h => ?_⟩
      have a4 := a3 (by omega)
      rw [ins_getD hi] at a4
      by_cases h2 : k1 + 1 ≤ i
      · rw [if_pos h2] at a4; exact a4
      · rw [if_neg h2, if_pos (by omega)] at a4
        obtain rfl : k1 = i := by omega
        have := up h; omega
    rw [hk.uniq c.ok.rise this]
  · rw [if_neg h1] at a2 ⊢
    by_cases h2 : k1 = i + 1
    · rw [if_pos h2] at a2 ⊢
      have : IxAt m.starts B i := by
        refine ⟨hi, by omega, fun h => ?_⟩
        have a4 := a3 (by omega)
        rw [ins_getD hi, if_neg (by omega), if_neg (by omega)] at a4
        rw [h2] at a4
        exact a4
      rw [hk.uniq c.ok.rise this]
    · rw [if_neg h2] at a2 ⊢
      have : IxAt m.starts B (k1 - 1) := by
        refine ⟨by omega, a2, fun h => ?_⟩
        have a4 := a3 (by omega)
        rw [ins_getD hi, if_neg (by omega), if_neg (by omega)] at a4
        rw [show k1 + 1 - 1 = k1 - 1 + 1 by omega] at a4
        exact a4
      rw [hk.uniq c.ok.rise this]
end
end Go.Proofs.Ythmkenkjfmbkiaa.VM
namespace Go.Proofs.Ythmkenkjfmbkiaa.VM
attribute [local irreducible] Af Nx EvO Ev Un Gd Cd EvR EvQ EvC Nc Gc Lp EvM NxM AfM GdM EvMR EvMQ EvMD EvMC Nm Gm
theorem low32 (t : Int) : ∃ A : Int, 0 ≤ A ∧ A < 4294967296 ∧ bitsOf .and .i64 t 4294967295 = A := by
  have h1 := and_any t (n := 32) (by decide)
  have h2 := Nat.mod_lt (t % 18446744073709551616).toNat (show 0 < 2 ^ 32 by decide)
  have h3 : bitsOf .and .i64 t 4294967295 = (((t % 18446744073709551616).toNat % 2 ^ 32 : Nat) : Int) := by simpa using h1
  exact ⟨_, by omega, by omega, h3⟩
theorem low8 (t : Int) : ∃ d : Int, 0 ≤ d ∧ d < 8 ∧ IntKind.i64.wrap ((IntKind.u64.wrap t).tmod 8) = d := by
  have e1 : IntKind.u64.wrap t = t % 18446744073709551616 := IntKind.wrap_u64 t
  have h0 : 0 ≤ t % 18446744073709551616 := Int.emod_nonneg _ (by decide)
  have e2 : (t % 18446744073709551616).tmod 8 = t % 18446744073709551616 % 8 := Int.tmod_eq_emod_of_nonneg h0
  rw [e1, e2]
  have h3 := Int.emod_lt_of_pos (t % 18446744073709551616) (show (0 : Int) < 8 by decide)
  have h4 := Int.emod_nonneg (t % 18446744073709551616) (show (8 : Int) ≠ 0 by decide)
  exact ⟨_, h4, h3, w64 (by omega) (by omega)⟩
end Go.Proofs.Ythmkenkjfmbkiaa.VM
namespace Go.Proofs.Ythmkenkjfmbkiaa.VM
attribute [local irreducible] Af Nx EvO Ev Un Gd Cd EvR EvQ EvC Nc Gc Lp EvM NxM AfM GdM EvMR EvMQ EvMD EvMC Nm Gm
section
variable {P : Program}
theorem clonePts_cl (g : Pg P tab) {r : List Pt} {w : AV} (hw : IsL 16 RPt w r) {h : Heap} {Q : AV → Heap → Prop}
    (q : ∀ v t h', Lv h' (h.next ≤ ·) v t → IsL 16 RPt t r → v.cells = some [v] → v.one = true → Ext h h' → Q v h') : Cl P 72 [w] h Q := by
  refine g.cl (vf := v72) rfl rfl ?_
  have hx := hw
  obtain ⟨hb, ⟨rfl, hl⟩ | ⟨c, rfl, hc⟩⟩ := hw
  · have e : eqv .sl .nils .nils = some true := rfl
    simp only [v72, HE, e, RX, VOp.fresh, bxC, bsC, un, most, callsOf, seval, Int.reducePow, ↓reduceIte, Nat.reduceEqDiff, reduceCtorEq]
    exact q .nils .nils _ .nils ⟨hb, .inl ⟨rfl, hl⟩⟩ rfl rfl (Ext.refl h)
  · have e : eqv .sl (.rs c r.length) .nils = some false := rfl
    have x1 := Ext.mk (h := h) (.cells [] 61 0)
    have n1 : (h.mk' h.next (.cells [] 61 0)).next = h.next + 1 := by rw [mk_next]; omega
    obtain ⟨v, h', t, a1, a2, a3, a4, a5, a6, a7⟩ := app_copy (bytes := 16) plainPt hx (h := h.mk' h.next (.cells [] 61 0)) (b := h.next) (by rw [Heap.get_mk, if_pos rfl]) 61
    rw [n1] at a2 a3 a4
    simp only [v72, HE, e, a1, RX, VOp.fresh, bxC, bsC, un, most, callsOf, seval, Int.reducePow, ↓reduceIte, Nat.reduceEqDiff, reduceCtorEq]
    exact q v t h' (a4.weak fun c hc _ => by omega) a5 a6 a7 ⟨by omega, fun b hb => (a3 b (by omega) (by omega)).trans (x1.2 b hb)⟩
theorem fcopy_loop (g : Pg P tab) {rs : List (List Pt)} {w : AV} (hw : IsL 24 RRing w rs) {R : Nat} (n : Nat) :
    ∀ (i : Nat) (A U : List AV) (s : T AV) (h : Heap) (k : List Fr) (Q : Ex → T AV → Heap → Prop), i + n = rs.length → R < h.next → (∃ e ver, h.get R = some (.cells (A ++ List.replicate n .nils) e ver)) → A.length = i → A.all AV.one = true → Lvs h (R < ·) A U → Cat RRing (rs.take i) U →
    sg s 3 = .sl R 0 rs.length rs.length 1 → sg s 11 = w → sg s 12 = .int .i64 rs.length → sg s 13 = .int .i64 i →
    (∀ s' h' A' U', (∃ e ver, h'.get R = some (.cells A' e ver)) → A'.length = rs.length → A'.all AV.one = true → Lvs h' (R < ·) A' U' → Cat RRing rs U' → (∀ b, b < h.next → b ≠ R → h'.get b = h.get b) → h.next ≤ h'.next → (∀ j, j < 4 → sg s' j = sg s j) → Un P k Q (.exit 0) s' h') → Lp P b46_0 s h (Un P k Q) := by
  have hbd := hw.bound (by decide)
  induction n with
  | zero =>
    intro i A U s h k Q hi hR ⟨e, ver, hg⟩ hA ho lv hc t3 t11 t12 t13 hQ
    refine g.lpe b46_0.eq_1 ?_
    have c1 : ¬ ((i : Int) < (rs.length : Int)) := by omega
    simp only [t3, t11, t12, t13, c1, RX, VOp.fresh, bxC, bsC, un, most, callsOf, seval, Int.reducePow, ↓reduceIte, Nat.reduceEqDiff, reduceCtorEq]
    have hi' : i = rs.length := by omega
    subst hi'
    rw [List.take_length] at hc
    rw [List.replicate_zero, List.append_nil] at hg
    exact hQ _ _ A U ⟨e, ver, hg⟩ hA ho lv hc (fun _ _ _ => rfl) (Nat.le_refl _) fun j hj => by simp only [sg_set]; repeat rw [if_neg (by omega)]
  | succ n ih =>
    intro i A U s h k Q hi hR ⟨e, ver, hg⟩ hA ho lv hc t3 t11 t12 t13 hQ
    refine g.lpe b46_0.eq_1 ?_
    have c1 : ((i : Int) < (rs.length : Int)) := by omega
    have w1 : IntKind.i64.wrap ((i : Int) + 1) = ((i + 1 : Nat) : Int) := by rw [w64 (by omega) (by omega)]; push_cast; rfl
    obtain ⟨ci, rr, ⟨va, rfl, hr⟩, hat⟩ := hw.at (fun a c ⟨v, e, _⟩ => by rw [e]; rfl) i (by omega)
    simp only [t3, t11, t12, t13, c1, hat, RX, VOp.fresh, bxC, bsC, un, most, callsOf, seval, Int.reducePow, ↓reduceIte, Nat.reduceEqDiff, reduceCtorEq]
    refine clonePts_cl g hr fun v t h1 lv1 is1 cl1 on1 x1 => ?_
    have hg1 := (x1.2 R hR).trans hg
    have hia : ∀ (hh : Heap) (q : IntKind), iaV hh 1 none (.sl R 0 rs.length rs.length 1) (.int q (i : Int)) = .val (.ptr R i) hh := fun hh q => by
      have : 0 ≤ (i : Int) ∧ (i : Int) < (rs.length : Int) ∧ 1 = 1 := ⟨by omega, by omega, rfl⟩
      simp only [iaV, this, and_self, if_true, Int.toNat_natCast, Nat.zero_add, Nat.mul_one]
    have hwr := wr_at hg1 (show i < (A ++ List.replicate (n + 1) AV.nils).length by rw [List.length_append, hA, List.length_replicate]; omega) on1
    have hset : (A ++ List.replicate (n + 1) AV.nils).set i v = (A ++ [v]) ++ List.replicate n AV.nils := by
      rw [List.set_append, if_neg (by omega), hA, Nat.sub_self, List.replicate_succ, List.set_cons_zero, List.append_assoc]; rfl
    rw [hset] at hwr
    have kp : ∀ c, c ≠ R → (h1.put R (.cells ((A ++ [v]) ++ List.replicate n AV.nils) e (ver + 1))).get c = h1.get c := fun c hc => by rw [Heap.get_put, if_neg hc]
    simp only [t3, t11, t12, t13, hia, hwr, cl1, w1, RW, RX, VOp.fresh, bxC, bsC, un, most, callsOf, seval, Int.reducePow, ↓reduceIte, Nat.reduceEqDiff, reduceCtorEq]
    refine ih (i + 1) (A ++ [v]) (U ++ [t]) _ _ k Q (by omega) (by rw [put_next]; exact Nat.lt_of_lt_of_le hR x1.1) ⟨e, ver + 1, by rw [Heap.get_put, if_pos rfl]⟩ (by rw [List.length_append, hA]; rfl) (by rw [List.all_append, ho]; simp [on1]) ?_ (hc.take (by omega) ⟨t, rfl, is1⟩) ?_ ?_ ?_ ?_ fun s' h' A' U' q1 q2 q3 q4 q5 q6 q7 q8 => ?_
    · have l1 : Lvs h1 (R < ·) (A ++ [v]) (U ++ [t]) := (lv.frame x1.1 fun b _ hb => x1.2 b hb).app (.cons (lv1.weak fun b hb _ => by omega) .nil)
      exact l1.frame (by rw [put_next]; exact Nat.le_refl _) fun b hb _ => kp b (by omega)
    · simp only [t3, sg_set, Nat.reduceEqDiff, ↓reduceIte]
    · simp only [t11, sg_set, Nat.reduceEqDiff, ↓reduceIte]
    · simp only [t12, sg_set, Nat.reduceEqDiff, ↓reduceIte]
    · simp only [sg_set, Nat.reduceEqDiff, ↓reduceIte]
    · refine hQ s' h' A' U' q1 q2 q3 q4 q5 (fun b hb hne => ?_) (by rw [put_next] at q7; exact Nat.le_trans x1.1 q7) fun j hj => ?_
      · rw [q6 b (by rw [put_next]; exact Nat.lt_of_lt_of_le hb x1.1) hne, kp b hne]; exact x1.2 b hb
      · rw [q8 j hj]; simp only [sg_set]; repeat rw [if_neg (by omega)]
theorem fcopy_cl (g : Pg P tab) {f : Feat} {c : List AV} (hf : RFeat f c) {h : Heap} {Q : AV → Heap → Prop}
    (q : ∀ c' t h', Lvs h' (h.next ≤ ·) c' t → RFeat f t → c'.length = 3 → c'.all AV.one = true → Ext h h' → Q (.agg c') h') : Cl P 46 [.agg c] h Q := by
  obtain ⟨w, rfl, h1, h2, hw⟩ := hf
  refine g.cl (vf := v46) rfl rfl ?_
  have hbd := hw.bound (by decide)
  have mS : ∀ (H : Heap) (nm : Nat), mkS H nm [.nils] 62 24 (.int .i64 (f.rings.length : Int)) (.int .i64 (f.rings.length : Int)) = .val (.sl nm 0 f.rings.length f.rings.length 1) (H.mk' nm (.cells (List.replicate f.rings.length .nils) 62 0)) := fun H nm => by
    have := hw.1
    rw [reach_eq] at this
    rw [mkS_ok (by omega) (by rw [Int.toNat_natCast]; omega) (by rw [Int.toNat_natCast]; omega), Int.toNat_natCast]
    have : (List.replicate f.rings.length [AV.nils]).flatten = List.replicate f.rings.length AV.nils := by simp
    rw [this]; rfl
  have ow := isL_one hw
  simp only [v46, HN, hw.len, mS, RW, RX, VOp.fresh, bxC, bsC, un, most, callsOf, seval, Int.reducePow, ↓reduceIte, Nat.reduceEqDiff, reduceCtorEq]
  have g0 : ∀ (X : Blk), (((h.mk' h.next (.cells [.int .i64 f.id, .int .i64 f.shape, w] 50 0)).mk' (h.next + 1) (.cells [.int .i64 0, .int .i64 0, .nils] 50 0)).mk' (h.next + 2) X).get h.next = some (.cells [.int .i64 f.id, .int .i64 f.shape, w] 50 0) := fun X => by
    rw [Heap.get_mk, if_neg (by omega), Heap.get_mk, if_neg (by omega), Heap.get_mk, if_pos rfl]
  have g1 : ∀ (X : Blk), (((h.mk' h.next (.cells [.int .i64 f.id, .int .i64 f.shape, w] 50 0)).mk' (h.next + 1) (.cells [.int .i64 0, .int .i64 0, .nils] 50 0)).mk' (h.next + 2) X).get (h.next + 1) = some (.cells [.int .i64 0, .int .i64 0, .nils] 50 0) := fun X => by
    rw [Heap.get_mk, if_neg (by omega), Heap.get_mk, if_pos rfl]
  have g2 : ∀ (X : Blk), (((h.mk' h.next (.cells [.int .i64 f.id, .int .i64 f.shape, w] 50 0)).mk' (h.next + 1) (.cells [.int .i64 0, .int .i64 0, .nils] 50 0)).mk' (h.next + 2) X).get (h.next + 2) = some X := fun X => by
    rw [Heap.get_mk, if_pos rfl]
  have n0 : ∀ (X : Blk), (((h.mk' h.next (.cells [.int .i64 f.id, .int .i64 f.shape, w] 50 0)).mk' (h.next + 1) (.cells [.int .i64 0, .int .i64 0, .nils] 50 0)).mk' (h.next + 2) X).next = h.next + 3 := fun X => by rw [mk_next, mk_next, mk_next]; omega
  have x0 : ∀ (X : Blk), Ext h (((h.mk' h.next (.cells [.int .i64 f.id, .int .i64 f.shape, w] 50 0)).mk' (h.next + 1) (.cells [.int .i64 0, .int .i64 0, .nils] 50 0)).mk' (h.next + 2) X) := fun X => ((Ext.refl h).mkn (Nat.le_refl _) _ |>.mkn (by omega) _).mkn (by omega) _
  have g0' := g0 (.cells (List.replicate f.rings.length .nils) 62 0)
  have g1' := g1 (.cells (List.replicate f.rings.length .nils) 62 0)
  have g2' := g2 (.cells (List.replicate f.rings.length .nils) 62 0)
  have n0' := n0 (.cells (List.replicate f.rings.length .nils) 62 0)
  have x0' := x0 (.cells (List.replicate f.rings.length .nils) 62 0)
  generalize ((h.mk' h.next (.cells [.int .i64 f.id, .int .i64 f.shape, w] 50 0)).mk' (h.next + 1) (.cells [.int .i64 0, .int .i64 0, .nils] 50 0)).mk' (h.next + 2) (.cells (List.replicate f.rings.length .nils) 62 0) = H at *
  clear g0 g1 g2 n0 x0
  refine fcopy_loop g hw (R := h.next + 2) f.rings.length 0 [] [] _ H _ _ (by omega) (by omega) ⟨62, 0, g2'⟩ rfl rfl .nil .nil ?_ ?_ ?_ ?_ fun s' h' A U ⟨e, ver, hA⟩ hl ho lv hc kp hn ks => ?_
  · simp only [sg_set, Nat.reduceEqDiff, ↓reduceIte]
  · simp only [sg_set, Nat.reduceEqDiff, ↓reduceIte]
  · simp only [sg_set, Nat.reduceEqDiff, ↓reduceIte]
  · simp only [sg_set, Nat.reduceEqDiff, ↓reduceIte]
    rfl
  have t1 : sg s' 1 = .ptr h.next 0 := (ks 1 (by decide)).trans (by simp only [sg_set, Nat.reduceEqDiff, ↓reduceIte])
  have t2 : sg s' 2 = .ptr (h.next + 1) 0 := (ks 2 (by decide)).trans (by simp only [sg_set, Nat.reduceEqDiff, ↓reduceIte])
  have t3 : sg s' 3 = .sl (h.next + 2) 0 f.rings.length f.rings.length 1 := (ks 3 (by decide)).trans (by simp only [sg_set, Nat.reduceEqDiff, ↓reduceIte])
  have gb := (kp h.next (by omega) (by omega)).trans g0'
  have gc := (kp (h.next + 1) (by omega) (by omega)).trans g1'
  simp only [t1, t2, t3, gb, gc, HN, RW, RX, VOp.fresh, bxC, bsC, un, most, callsOf, seval, Int.reducePow, ↓reduceIte, Nat.reduceEqDiff, reduceCtorEq]
  obtain ⟨tv, lr, ir⟩ : ∃ tv, Lv h' (h.next + 2 ≤ ·) (.sl (h.next + 2) 0 f.rings.length f.rings.length 1) tv ∧ IsL 24 RRing tv f.rings := by
    by_cases z : f.rings.length = 0
    · have z' : f.rings = [] := List.eq_nil_of_length_eq_zero z
      rw [z]
      exact ⟨.rs [] 0, ⟨[], .sl0, rfl, Own.nil, fun b hb => by simp at hb⟩, hw.1, .inr ⟨[], by rw [z], by rw [z']; exact .nil⟩⟩
    · refine ⟨.rs U f.rings.length, ?_, hw.1, .inr ⟨U, rfl, hc⟩⟩
      have := LR.lv (h := h') (B := (h.next + 2 ≤ ·)) (v := .sl (h.next + 2) 0 f.rings.length f.rings.length 1) (sz := 1) (t := U) (n := f.rings.length) ⟨A, .inr ⟨_, e, ver, rfl, by omega, by omega, by rw [hl, Nat.mul_one], hA⟩, lv.weak fun b hb _ => ⟨by omega, by simp [blkOf]; omega⟩, fun b hb => by simp [blkOf] at hb; omega⟩
      rwa [cRow_s _ (by omega)] at this
  refine q [.int .i64 f.id, .int .i64 f.shape, .sl (h.next + 2) 0 f.rings.length f.rings.length 1] [.int .i64 f.id, .int .i64 f.shape, tv] _ (((Lvs.cons .int (.cons .int (.cons lr .nil))).put (by omega) _ |>.put (by omega) _).weak fun c hc _ => by omega) ⟨tv, rfl, h1, h2, ir⟩ rfl rfl ⟨by simp only [put_next]; omega, fun b hb => ?_⟩
  rw [Heap.get_put, if_neg (by omega), Heap.get_put, if_neg (by omega), kp b (by omega) (by omega)]
  exact x0'.2 b hb
end
end Go.Proofs.Ythmkenkjfmbkiaa.VM
namespace Go.Proofs.Ythmkenkjfmbkiaa.VM
attribute [local irreducible] Af Nx EvO Ev Un Gd Cd EvR EvQ EvC Nc Gc Lp EvM NxM AfM GdM EvMR EvMQ EvMD EvMC Nm Gm
theorem ic_bare : ∀ l : List Int, AV.bares (ic l) = true
  | [] => rfl
  | _ :: l => by
    show (AV.bare _ && AV.bares (ic l)) = true
    rw [ic_bare l]; rfl
theorem WRow.lv {h : Heap} {N b : Nat} {l : List Int} {v : AV} (w : WRow h N l v b) (h0 : 0 < l.length) : Lv h (· = b) v (tI l) := by
  obtain ⟨cap, e, ver, z, rfl, h2, h3, h4, h5⟩ := w
  refine ⟨[b], (Fd.sl (cs := ic l) (cs' := ic l) (D := []) h0 h3 h4 ?_ (Fds.tolds (ic_told l))).cast rfl, rfl, ?_, fun c hc => by simpa using hc⟩
  · rw [cut_eq, List.drop_zero, Nat.mul_one, List.take_left' (ic_len l), if_pos (ic_len l)]
  · intro c hc
    obtain rfl : c = b := by simpa using hc
    exact ⟨_, e, ver, h4, by rw [bares_app, ic_bare, h5]; rfl⟩
/-- what is put for a feature -/
def putF (f : Feat) : Op := ⟨0, f, 0, ⟨0, [], []⟩⟩
def mapO (M : Mp) : Op := ⟨2, ⟨0, 0, []⟩, 0, M⟩
def rsO (M : Mp) (fs : List Feat) : List Op := mapO M :: fs.map putF
def RPut (f : Feat) (c : List AV) : Prop := ∃ v, c = [.int .i64 0, .int .i64 f.id, .int .i64 f.shape, v, .int .i64 0, .int .i64 0, .nils, .nils] ∧ I64 f.id ∧ I64 f.shape ∧ IsL 24 RRing v f.rings
theorem RPut.op {f : Feat} {c : List AV} (h : RPut f c) : ROp (putF f) c := by
  obtain ⟨v, rfl, h1, h2, h3⟩ := h
  exact ⟨v, .nils, .nils, rfl, ⟨by show -9223372036854775808 ≤ (0 : Int); omega, by show (0 : Int) ≤ 9223372036854775807; omega⟩, h1, h2, h3, ⟨by show -9223372036854775808 ≤ (0 : Int); omega, by show (0 : Int) ≤ 9223372036854775807; omega⟩, ⟨by show -9223372036854775808 ≤ (0 : Int); omega, by show (0 : Int) ≤ 9223372036854775807; omega⟩, isL_nil 8 RInt, isL_nil 8 RInt⟩
theorem i64_0 : I64 0 := ⟨by omega, by omega⟩
theorem Cat.put {fs : List Feat} {tc : List AV} (h : Cat RPut fs tc) : Cat ROp (fs.map putF) tc := by
  induction h with
  | nil => exact .nil
  | cons h t ih => exact .cons h.op ih
section
variable {P : Program}
theorem rops_loop (g : Pg P tab) {fs : List Feat} {w : AV} (hw : IsL 40 RFeat w fs) (hsm : fs.length ≤ 31) {N0 : Nat} {T0 : List AV} (n : Nat) :
    ∀ (i : Nat) (tc : List AV) (s : T AV) (h : Heap) (k : List Fr) (Q : Ex → T AV → Heap → Prop), i + n = fs.length → N0 ≤ h.next → LR h (N0 ≤ ·) (sg s 12) 8 (T0 ++ tc) (i + 1) → Cat RPut (fs.take i) tc →
    sg s 32 = w → sg s 33 = .int .i64 fs.length → sg s 34 = .int .i64 i →
    (∀ s' h' tc', LR h' (N0 ≤ ·) (sg s' 12) 8 (T0 ++ tc') (fs.length + 1) → Cat RPut fs tc' → (∀ b, b < N0 → h'.get b = h.get b) → N0 ≤ h'.next → (∀ j, j < 10 → sg s' j = sg s j) → Un P k Q (.exit 0) s' h') → Lp P b14_0 s h (Un P k Q) := by
  induction n with
  | zero =>
    intro i tc s h k Q hi hh r hc t32 t33 t34 hQ
    refine g.lpe b14_0.eq_1 ?_
    have c1 : ¬ ((i : Int) < (fs.length : Int)) := by omega
    simp only [t32, t33, t34, c1, RX, VOp.fresh, bxC, bsC, un, most, callsOf, seval, Int.reducePow, ↓reduceIte, Nat.reduceEqDiff, reduceCtorEq]
    have hi' : i = fs.length := by omega
    subst hi'
    rw [List.take_length] at hc
    refine hQ _ _ _ ?_ hc (fun _ _ => rfl) hh fun j hj => by simp only [sg_set]; repeat rw [if_neg (by omega)]
    simp only [sg_set, Nat.reduceEqDiff, ↓reduceIte]
    exact r
  | succ n ih =>
    intro i tc s h k Q hi hh r hc t32 t33 t34 hQ
    refine g.lpe b14_0.eq_1 ?_
    have c1 : ((i : Int) < (fs.length : Int)) := by omega
    have w1 : IntKind.i64.wrap ((i : Int) + 1) = ((i + 1 : Nat) : Int) := by rw [w64 (by omega) (by omega)]; push_cast; rfl
    have hm : (i + 1 + 1) * 112 ≤ most2 := by unfold most2; omega
    obtain ⟨ci, rr, ⟨va, rfl, i1, i2, i3⟩, hat⟩ := hw.at zFeat i (by omega)
    have ova := isL_one i3
    simp only [t32, t33, t34, c1, hat, ova, HN, RW, RX, VOp.fresh, bxC, bsC, un, most, callsOf, seval, Int.reducePow, ↓reduceIte, Nat.reduceEqDiff, reduceCtorEq]
    refine fcopy_cl g (f := fs[i]) ⟨va, rfl, i1, i2, i3⟩ fun c1' t1 h1 lv1 is1 ln1 on1 e1 => ?_
    obtain ⟨x1, x2, x3, rfl⟩ := len3 ln1
    have on1' := on1
    simp only [List.all_cons, List.all_nil, Bool.and_true, Bool.and_eq_true] at on1'
    obtain ⟨o1, o2, o3⟩ := on1'
    have ne1 := e1.1
    simp only [put_next, mk_next] at ne1
    have xh : Ext h h1 := (((Ext.refl h).mkn (Nat.le_refl _) _).putn (Nat.le_refl _) _).trans e1
    have em := Ext.mk (h := h1) (.cells [.int .i64 0, x1, x2, x3, .int .i64 0, .int .i64 0, .nils, .nils] 52 0)
    have nb : (h1.mk' h1.next (.cells [.int .i64 0, x1, x2, x3, .int .i64 0, .int .i64 0, .nils, .nils] 52 0)).next = h1.next + 1 := by rw [mk_next]; omega
    have hlt := r.lt
    have r2 : LR h1 (N0 ≤ ·) (sg s 12) 8 (T0 ++ tc) (i + 1) := r.frame xh.1 fun b _ hb => xh.2 b hb
    have a0 : Lvs h1 (fun b => N0 ≤ b ∧ b ∉ blkOf (sg s 12)) [.int .i64 0, x1, x2, x3, .int .i64 0, .int .i64 0, .nils, .nils] ([.int .i64 0] ++ t1 ++ [.int .i64 0, .int .i64 0, .nils, .nils]) :=
      (Lvs.cons (l := []) .int .nil).app (lv1.weak fun b hb _ => ⟨by simp only [put_next, mk_next] at hb; omega, fun hc => by have := hlt b hc; simp only [put_next, mk_next] at hb; omega⟩) |>.app (.cons .int (.cons .int (.cons .nils (.cons .nils .nil))))
    have on8 : [AV.int .i64 0, x1, x2, x3, .int .i64 0, .int .i64 0, .nils, .nils].all AV.one = true := by simp only [List.all_cons, List.all_nil, one_int, o1, o2, o3, Bool.and_true, Bool.and_self]; rfl
    obtain ⟨H3, p3, r3, n3, k3⟩ := (r2.frame em.1 fun b _ hb => em.2 b hb).push (nb := h1.next) (eb := 52) (vb := 0) (c := [.int .i64 0, x1, x2, x3, .int .i64 0, .int .i64 0, .nils, .nils]) (by rw [Heap.get_mk, if_pos rfl]) rfl on8 (a0.frame em.1 fun b _ hb => em.2 b hb) (by rw [nb]; omega) (bytes := 112) hm 52
    rw [nb] at p3 r3 n3 k3
    have hv := r2.inB
    have kk3 : ∀ b, b < N0 → H3.get b = h.get b := fun b hb => (k3 b (fun hc => by have := hv b hc; omega) (by omega)).trans ((em.2 b (by omega)).trans (xh.2 b (by omega)))
    simp only [t32, t33, t34, o1, o2, o3, p3, w1, HN, RW, RX, VOp.fresh, bxC, bsC, un, most, callsOf, seval, Int.reducePow, ↓reduceIte, Nat.reduceEqDiff, reduceCtorEq]
    obtain ⟨tv, rfl, j1, j2, j3⟩ := is1
    refine ih (i + 1) (tc ++ [.int .i64 0, .int .i64 (fs[i]).id, .int .i64 (fs[i]).shape, tv, .int .i64 0, .int .i64 0, .nils, .nils]) _ H3 k Q (by omega) (by omega) ?_ (hc.take (by omega) ⟨tv, rfl, j1, j2, j3⟩) ?_ ?_ ?_ ?_
    · simp only [sg_set, Nat.reduceEqDiff, ↓reduceIte]
      rw [← List.append_assoc]
      exact r3
    · simp only [t32, sg_set, Nat.reduceEqDiff, ↓reduceIte]
    · simp only [t33, sg_set, Nat.reduceEqDiff, ↓reduceIte]
    · simp only [sg_set, Nat.reduceEqDiff, ↓reduceIte]
    · intro s' h' tc' q1 q2 q3 q4 q5
      exact hQ s' h' tc' q1 q2 (fun b hb => (q3 b hb).trans (kk3 b hb)) q4 fun j hj => by rw [q5 j hj]; simp only [sg_set]; repeat rw [if_neg (by omega)]
theorem IxErr {nodes k a t e : Int} {m : Mp} (c : ChErr nodes m k a t e) : e ≠ 0 ∧ ∀ i, ¬ ChYes nodes m k a t i := by
  rcases c with ⟨no, rfl⟩ | ⟨_, he, rfl⟩ | ⟨_, _, rfl, i, hi, no⟩
  · exact ⟨by omega, fun i y => no y.1⟩
  · exact ⟨by omega, fun i y => y.2.1 he⟩
  · refine ⟨by omega, fun j y => ?_⟩
    obtain rfl := y.2.2.1.uniq y.1.1.rise hi
    rcases no with no | no
    · exact y.2.2.2.1 no
    · exact no y.2.2.2.2
/-- when the shard is parted -/
def RsYes (nodes : Int) (m : Mp) (k a t : Int) (fs : List Feat) (i : Nat) : Prop := ChYes nodes m k a t i ∧ fs.length ≤ 31 ∧ opsOk nodes (rsO (chgR m k a t i) fs)
theorem rops_cl (g : Pg P tab) (hins : InsOk P) {m : Mp} {v u w : AV} {fs : List Feat} (hv : IsL 8 RInt v m.starts) (hu : IsL 8 RInt u m.owners) (hw : IsL 40 RFeat w fs) {nodes k a t : Int} (ha : I64 a) (ht : I64 t) {h : Heap} {Q : AV → Heap → Prop}
    (qN : ∀ h', Ext h h' → (∀ i, ¬ RsYes nodes m k a t fs i) → Q (.tup [.nils, .int .i64 2200]) h')
    (qY : ∀ h' i x tc, RsYes nodes m k a t fs i → LR h' (h.next ≤ ·) x 8 ([.int .i64 2, .int .i64 0, .int .i64 0, .nils, .int .i64 0, .int .i64 (chgR m k a t i).epoch, tI (chgR m k a t i).starts, tI (chgR m k a t i).owners] ++ tc) (fs.length + 1) → Cat RPut fs tc → Ext h h' → Q (.tup [x, .int .i64 0]) h') :
    Cl P 14 [.agg [.int .i64 m.epoch, v, u], .int .i64 nodes, .agg [.int .i64 k, .int .i64 a, .int .i64 t], w] h Q := by
  refine g.cl (vf := v14) rfl rfl ?_
  simp only [v14, HN, RW, RX, VOp.fresh, bxC, bsC, un, most, callsOf, seval, Int.reducePow, ↓reduceIte, Nat.reduceEqDiff, reduceCtorEq]
  have x0 : Ext h ((h.mk' h.next (.cells [.int .i64 m.epoch, v, u] 24 0)).mk' (h.next + 1) (.cells [.int .i64 k, .int .i64 a, .int .i64 t] 26 0)) := ((Ext.refl h).mkn (Nat.le_refl _) _).mkn (by omega) _
  have n0 : ((h.mk' h.next (.cells [.int .i64 m.epoch, v, u] 24 0)).mk' (h.next + 1) (.cells [.int .i64 k, .int .i64 a, .int .i64 t] 26 0)).next = h.next + 2 := by rw [mk_next, mk_next]; omega
  refine change_cl g hins hv hu ha ht ?_ ?_
  · intro h' e x c
    have x1 := x0.trans x
    obtain ⟨he, hno⟩ := IxErr c
    simp only [he, HN, RW, RX, VOp.fresh, bxC, bsC, un, most, callsOf, seval, Int.reducePow, ↓reduceIte, Nat.reduceEqDiff, reduceCtorEq]
    exact qN _ (((x0.trans x).mkn x1.1 _).putn x1.1 _) fun i y => hno i y.1
  · intro h' i sv ov b b' c ws wo hne x
    have x1 := x0.trans x
    have nx : h.next + 2 ≤ h'.next := by have := x.1; rw [n0] at this; exact this
    by_cases hl : 32 ≤ fs.length
    · have hl' : (32 : Int) ≤ (fs.length : Int) := by omega
      simp only [hw.len, hl', ws.one, wo.one, HN, RW, RX, VOp.fresh, bxC, bsC, un, most, callsOf, seval, Int.reducePow, ↓reduceIte, Nat.reduceEqDiff, reduceCtorEq]
      exact qN _ ((x1.mkn x1.1 _).putn x1.1 _) fun i y => by have := y.2.1; omega
    have hl' : ¬ (32 : Int) ≤ (fs.length : Int) := by omega
    obtain ⟨⟨⟨p1, p2, p3, p4, p5, p6, p7, p8, p9⟩, k0, k2, a0, a1⟩, he, hi, hn, ok⟩ := id c
    obtain ⟨r1, r2, r3, r4, r5, r6⟩ := chgR_ok hv hu ⟨k0, k2⟩ ha ht hi p6 p7 hn
    obtain ⟨z1, z2, z3', z4⟩ := id ok
    generalize hM : chgR m k a t i = M at *
    have os := ws.one
    have oo := wo.one
    rw [n0] at ws wo
    have bb : h.next + 2 ≤ b ∧ b < h'.next := by obtain ⟨_, _, _, _, _, q1, q2, _⟩ := id ws; exact ⟨q1, q2⟩
    have bb' : h.next + 2 ≤ b' ∧ b' < h'.next := by obtain ⟨_, _, _, _, _, q1, q2, _⟩ := id wo; exact ⟨q1, q2⟩
    simp only [hw.len, hl', os, oo, HN, RW, RX, VOp.fresh, bxC, bsC, un, most, callsOf, seval, Int.reducePow, ↓reduceIte, Nat.reduceEqDiff, reduceCtorEq]
    have xH : Ext h (((h'.mk' h'.next (.cells [.int .i64 0, .nils, .nils] 24 0)).put h'.next (.cells [.int .i64 M.epoch, sv, ov] 24 1)).mk' (h'.next + 1) (.cells [.int .i64 2, .int .i64 0, .int .i64 0, .nils, .int .i64 0, .int .i64 M.epoch, sv, ov] 52 0)) := ((x1.mkn x1.1 _).putn x1.1 _).mkn (by omega) _
    have kH : ∀ c, c < h'.next → (((h'.mk' h'.next (.cells [.int .i64 0, .nils, .nils] 24 0)).put h'.next (.cells [.int .i64 M.epoch, sv, ov] 24 1)).mk' (h'.next + 1) (.cells [.int .i64 2, .int .i64 0, .int .i64 0, .nils, .int .i64 0, .int .i64 M.epoch, sv, ov] 52 0)).get c = h'.get c := fun c hc => by rw [Heap.get_mk, if_neg (by omega), Heap.get_put, if_neg (by omega), Heap.get_mk, if_neg (by omega)]
    have gH : (((h'.mk' h'.next (.cells [.int .i64 0, .nils, .nils] 24 0)).put h'.next (.cells [.int .i64 M.epoch, sv, ov] 24 1)).mk' (h'.next + 1) (.cells [.int .i64 2, .int .i64 0, .int .i64 0, .nils, .int .i64 0, .int .i64 M.epoch, sv, ov] 52 0)).get (h'.next + 1) = some (.cells [.int .i64 2, .int .i64 0, .int .i64 0, .nils, .int .i64 0, .int .i64 M.epoch, sv, ov] 52 0) := by rw [Heap.get_mk, if_pos rfl]
    have nH : (((h'.mk' h'.next (.cells [.int .i64 0, .nils, .nils] 24 0)).put h'.next (.cells [.int .i64 M.epoch, sv, ov] 24 1)).mk' (h'.next + 1) (.cells [.int .i64 2, .int .i64 0, .int .i64 0, .nils, .int .i64 0, .int .i64 M.epoch, sv, ov] 52 0)).next = h'.next + 2 := by rw [mk_next, put_next, mk_next]; omega
    generalize ((h'.mk' h'.next (.cells [.int .i64 0, .nils, .nils] 24 0)).put h'.next (.cells [.int .i64 M.epoch, sv, ov] 24 1)).mk' (h'.next + 1) (.cells [.int .i64 2, .int .i64 0, .int .i64 0, .nils, .int .i64 0, .int .i64 M.epoch, sv, ov] 52 0) = H at *
    have lrow : LR H (h.next ≤ ·) (.sl (h'.next + 1) 0 1 1 8) 8 ([.int .i64 2, .int .i64 0, .int .i64 0, .nils, .int .i64 0, .int .i64 M.epoch, tI M.starts, tI M.owners] ++ []) (0 + 1) := by
      refine ⟨[.int .i64 2, .int .i64 0, .int .i64 0, .nils, .int .i64 0, .int .i64 M.epoch, sv, ov], .inr ⟨_, 52, 0, rfl, by omega, by omega, rfl, gH⟩, ?_, fun c hc => by simp [blkOf] at hc; omega⟩
      have l1 := ((ws.lv r3).frame (h' := H) (by omega) fun c hc hl => kH c hl).weak (B' := fun c => h.next ≤ c ∧ c ∉ blkOf (.sl (h'.next + 1) 0 1 1 8)) fun c hc _ => ⟨by omega, by simp [blkOf]; omega⟩
      have l2 := ((wo.lv r4).frame (h' := H) (by omega) fun c hc hl => kH c hl).weak (B' := fun c => h.next ≤ c ∧ c ∉ blkOf (.sl (h'.next + 1) 0 1 1 8)) fun c hc _ => ⟨by omega, by simp [blkOf]; omega⟩
      exact .cons .int (.cons .int (.cons .int (.cons .nils (.cons .int (.cons .int (.cons l1 (.cons l2 .nil)))))))
    refine rops_loop g hw (by omega) (N0 := h.next) (T0 := [.int .i64 2, .int .i64 0, .int .i64 0, .nils, .int .i64 0, .int .i64 M.epoch, tI M.starts, tI M.owners]) fs.length 0 [] _ H _ _ (by omega) (by omega) ?_ .nil ?_ ?_ ?_ fun s' h2 tc r hc hk hn2 ks => ?_
    · simp only [sg_set, Nat.reduceEqDiff, ↓reduceIte]
      exact lrow
    · simp only [sg_set, Nat.reduceEqDiff, ↓reduceIte]
    · simp only [sg_set, Nat.reduceEqDiff, ↓reduceIte]
    · simp only [sg_set, Nat.reduceEqDiff, ↓reduceIte]
      rfl
    have t1 : sg s' 1 = .int .i64 nodes := (ks 1 (by decide)).trans (by simp only [sg_set, Nat.reduceEqDiff, ↓reduceIte])
    have cop := Cat.put hc
    have isl : IsL 112 ROp (cRow ([.int .i64 2, .int .i64 0, .int .i64 0, .nils, .int .i64 0, .int .i64 M.epoch, tI M.starts, tI M.owners] ++ tc) (fs.length + 1)) (rsO M fs) := by
      have hl2 : (rsO M fs).length = fs.length + 1 := by simp [rsO]
      rw [← hl2]
      refine row_isL (by rw [hl2, reach_eq]; omega) (.cons (a := mapO M) ⟨.nils, tI M.starts, tI M.owners, rfl, ?_, ?_, ?_, isL_nil 24 RRing, ?_, (show I64 M.epoch from ⟨by omega, by omega⟩), tI_is r1 r5, tI_is r2 r6⟩ cop)
      · exact (show I64 2 from ⟨by omega, by omega⟩)
      all_goals exact i64_0
    have e2 : Ext h h2 := ⟨hn2, fun c hc => (hk c hc).trans (xH.2 c hc)⟩
    simp only [t1, RX, VOp.fresh, bxC, bsC, un, most, callsOf, seval, Int.reducePow, ↓reduceIte, Nat.reduceEqDiff, reduceCtorEq]
    refine (opsMay_pu g isl).cl (.cons r.lv.fz (.cons (.int _ _) .nil)) ?_
    rintro _ ⟨bb2, rfl, hb⟩
    cases bb2 with
    | false =>
      simp only [RX, VOp.fresh, bxC, bsC, un, most, callsOf, seval, Int.reducePow, ↓reduceIte, Nat.reduceEqDiff, reduceCtorEq]
      refine qN h2 e2 fun j y => ?_
      obtain rfl := y.1.2.2.1.uniq y.1.1.1.rise hi
      rw [RsYes, hM] at y
      simpa using hb.2 y.2.2
    | true =>
      simp only [RX, VOp.fresh, bxC, bsC, un, most, callsOf, seval, Int.reducePow, ↓reduceIte, Nat.reduceEqDiff, reduceCtorEq]
      exact qY h2 i _ tc ⟨by rw [← hM] at ok; exact ⟨⟨⟨p1, p2, p3, p4, p5, p6, p7, p8, p9⟩, k0, k2, a0, a1⟩, he, hi, hn, ok⟩, by omega, by rw [hM]; exact hb.1 rfl⟩ (by rw [hM]; exact r) hc e2
end
end Go.Proofs.Ythmkenkjfmbkiaa.VM
namespace Go.Proofs.Ythmkenkjfmbkiaa.VM
attribute [local irreducible] Af Nx EvO Ev Un Gd Cd EvR EvQ EvC Nc Gc Lp EvM NxM AfM GdM EvMR EvMQ EvMD EvMC Nm Gm
mutual
theorem sh_told {n : Nat} : ∀ {x : AV}, x.told = true → sh n x = x
  | .undef, _ | .bool _, _ | .int .., _ | .str _, _ | .nilp, _ | .nils, _ | .nilm, _ | .nilf, _ | .rs .., _ | .rp _, _ | .map _, _ | .fn .., _ => rfl
  | .ptr .., h => by simp [AV.told] at h
  | .sl .., h => by simp [AV.told] at h
  | .agg l, h => by rw [sh, shs_tolds (by simpa [AV.told] using h)]
  | .tup l, h => by rw [sh, shs_tolds (by simpa [AV.told] using h)]
theorem shs_tolds {n : Nat} : ∀ {l : List AV}, AV.tolds l = true → shs n l = l
  | [], _ => rfl
  | x :: l, h => by
    simp only [AV.tolds, Bool.and_eq_true] at h
    rw [shs, sh_told h.1, shs_tolds h.2]
end
mutual
theorem sh_bare {n : Nat} : ∀ {x : AV}, (sh n x).bare = x.bare
  | .undef | .bool _ | .int .. | .str _ | .nilp | .nils | .nilm | .nilf | .rs .. | .rp _ | .map _ | .fn .. => rfl
  | .ptr .. => rfl
  | .sl .. => rfl
  | .agg l => by rw [sh]; simp only [AV.bare]; exact shs_bares
  | .tup l => by rw [sh]; simp only [AV.bare]; exact shs_bares
theorem shs_bares {n : Nat} : ∀ {l : List AV}, AV.bares (shs n l) = AV.bares l
  | [] => rfl
  | x :: l => by rw [shs]; simp only [AV.bares]; rw [sh_bare, shs_bares]
end
section
variable {h h0 : Heap} {D : List Nat}
mutual
theorem Fd.laid (hD : ∀ b ∈ D, b < h0.next) : ∀ {x y : AV} {E : List Nat}, Fd h0 x y E → (∀ b ∈ E, b ∈ D) → Fd (VM.laid h h0 D) (sh h.next x) y (E.map (h.next + ·))
  | _, _, _, .told hx, _ => by rw [sh_told hx]; exact .told hx
  | _, _, _, .sl hl hn hg hc t, hE => by
    rw [sh]
    exact .sl hl (by show _ < h.next + h0.next; omega) (laid_new hn (hE _ List.mem_cons_self) hg) (shs_cut hc) (t.laid hD fun b hb => hE b (List.mem_cons_of_mem _ hb))
  | _, _, _, .sl0, _ => by rw [sh]; exact .sl0
  | _, _, _, .ptr hn hg t, hE => by
    rw [sh]
    exact .ptr (by show _ < h.next + h0.next; omega) (laid_new hn (hE _ List.mem_cons_self) hg) (by rw [← shs_drop]; exact t.laid hD fun b hb => hE b (List.mem_cons_of_mem _ hb))
  | _, _, _, .agg t, hE => by rw [sh]; exact .agg (t.laid hD hE)
  | _, _, _, .tup t, hE => by rw [sh]; exact .tup (t.laid hD hE)
theorem Fds.laid (hD : ∀ b ∈ D, b < h0.next) : ∀ {x y : List AV} {E : List Nat}, Fds h0 x y E → (∀ b ∈ E, b ∈ D) → Fds (VM.laid h h0 D) (shs h.next x) y (E.map (h.next + ·))
  | _, _, _, .nil, _ => .nil
  | _, _, _, .cons f t, hE => by
    rw [shs, List.map_append]
    exact .cons (f.laid hD fun b hb => hE b (List.mem_append_left _ hb)) (t.laid hD fun b hb => hE b (List.mem_append_right _ hb))
end
end
section
variable {P : Program}
theorem Cl.laid {f : Nat} {args args' : List AV} {h : Heap} {R : AV → Prop} {Q : AV → Heap → Prop} (ha : Fzs true h args args') (c : Cl P f args' ⟨0, .e⟩ fun v h0 => ∃ t, Lv h0 (fun _ => True) v t ∧ R t)
    (q : ∀ v t h', Lv h' (h.next ≤ ·) v t → R t → Ext h h' → Q v h') : Cl P f args h Q := by
  obtain ⟨v, h0, o, t, ⟨D, fd, hb, own, _⟩, hR⟩ := c
  have hlt := fd.lt
  refine ⟨_, _, OK.laid ha o hb own hlt, q _ t _ ⟨D.map (h.next + ·), fd.laid hlt fun b hb => hb, by rw [sh_bare]; exact hb, ?_, ?_⟩ hR (laid_ext h h0 D)⟩
  · intro b hb'
    obtain ⟨d, hd, rfl⟩ := List.mem_map.1 hb'
    obtain ⟨l, e, ver, g1, g2⟩ := own d hd
    exact ⟨_, e, ver, laid_new (hlt d hd) hd g1, by rw [shs_bares]; exact g2⟩
  · intro b hb'
    obtain ⟨d, hd, rfl⟩ := List.mem_map.1 hb'
    exact Nat.le_add_right _ _
end
end Go.Proofs.Ythmkenkjfmbkiaa.VM
namespace Go.Proofs.Ythmkenkjfmbkiaa.VM
attribute [local irreducible] Af Nx EvO Ev Un Gd Cd EvR EvQ EvC Nc Gc Lp EvM NxM AfM GdM EvMR EvMQ EvMD EvMC Nm Gm
section
variable {h : Heap} {B : Nat → Prop}
theorem Lvs.uncons {cs k : List AV} {y : AV} (l : Lvs h B cs (y :: k)) : ∃ x c', cs = x :: c' ∧ Lv h B x y ∧ Lvs h B c' k := by
  obtain ⟨D, f, hb, own, i⟩ := l
  match f with
  | .cons (x := x) (l := c') f1 t =>
    simp only [AV.bares, Bool.and_eq_true] at hb
    exact ⟨x, c', rfl, ⟨_, f1, hb.1, fun b hb => own b (List.mem_append_left _ hb), fun b hb => i b (List.mem_append_left _ hb)⟩, ⟨_, t, hb.2, fun b hb => own b (List.mem_append_right _ hb), fun b hb => i b (List.mem_append_right _ hb)⟩⟩
theorem Lvs.split {k2 : List AV} : ∀ {k1 cs : List AV}, Lvs h B cs (k1 ++ k2) → ∃ c1 c2, cs = c1 ++ c2 ∧ Lvs h B c1 k1 ∧ Lvs h B c2 k2 ∧ c1.length = k1.length
  | [], cs, l => ⟨[], cs, rfl, .nil, l, rfl⟩
  | y :: k1, cs, l => by
    obtain ⟨x, c', rfl, lx, lt⟩ := l.uncons
    obtain ⟨c1, c2, rfl, a, b, e⟩ := lt.split
    exact ⟨x :: c1, c2, rfl, .cons lx a, b, by simp [e]⟩
theorem Lvs.drop {k : List AV} : ∀ (n : Nat) {cs : List AV}, Lvs h B cs k → Lvs h B (cs.drop n) (k.drop n) := by
  intro n
  induction n generalizing k with
  | zero => intro cs l; exact l
  | succ n ih =>
    intro cs l
    cases k with
    | nil =>
      obtain ⟨D, f, _⟩ := l
      cases f
      exact .nil
    | cons y k =>
      obtain ⟨x, c', rfl, lx, lt⟩ := l.uncons
      exact ih lt
theorem part3 {cs r : List AV} {m : Nat} {a b c : AV} (e : cs.drop m = a :: b :: c :: r) : part true cs m 3 = some (.agg [a, b, c]) := by
  simp [part, cut, e]
/-- what stands in the row -/
structure OpsRow (h : Heap) (B : Nat → Prop) (v : AV) (M : Mp) (fs : List Feat) (b : Nat) (cs : List AV) : Prop where
  hv : v = .sl b 0 (fs.length + 1) (fs.length + 1) 8
  hb : b < h.next
  hB : B b
  hg : ∃ e ver, h.get b = some (.cells cs e ver)
  k0 : part false cs 0 1 = some (.int .i64 2)
  mp : ∃ sv ov, part true cs 5 3 = some (.agg [.int .i64 M.epoch, sv, ov]) ∧ Lv h B sv (tI M.starts) ∧ Lv h B ov (tI M.owners)
  ft : ∀ i (hi : i < fs.length), ∃ c3 t3, part true cs ((i + 1) * 8 + 1) 3 = some (.agg c3) ∧ Lvs h B c3 t3 ∧ RFeat fs[i] t3
theorem OpsRow.of {v : AV} {M : Mp} {fs : List Feat} {tc : List AV} (r : LR h B v 8 ([.int .i64 2, .int .i64 0, .int .i64 0, .nils, .int .i64 0, .int .i64 M.epoch, tI M.starts, tI M.owners] ++ tc) (fs.length + 1)) (hc : Cat RPut fs tc) : ∃ b cs, OpsRow h B v M fs b cs := by
  obtain ⟨cs, row, l, hB⟩ := r
  rcases row with ⟨_, e, _⟩ | ⟨b, e, ver, rfl, _, hb, hl, hg⟩
  · omega
  refine ⟨b, cs, rfl, hb, hB b (by simp [blkOf]), ⟨e, ver, hg⟩, ?_, ?_, ?_⟩
  · obtain ⟨c1, c2, rfl, l1, _, _⟩ := l.split
    obtain ⟨x0, c', rfl, lx, _⟩ := l1.uncons
    rw [lx.int_inv]; rfl
  · obtain ⟨c1, c2, rfl, l1, _, _⟩ := l.split
    obtain ⟨x0, c', rfl, _, l1⟩ := l1.uncons
    obtain ⟨x1, c', rfl, _, l1⟩ := l1.uncons
    obtain ⟨x2, c', rfl, _, l1⟩ := l1.uncons
    obtain ⟨x3, c', rfl, _, l1⟩ := l1.uncons
    obtain ⟨x4, c', rfl, _, l1⟩ := l1.uncons
    obtain ⟨x5, c', rfl, lx5, l1⟩ := l1.uncons
    obtain ⟨x6, c', rfl, lx6, l1⟩ := l1.uncons
    obtain ⟨x7, c', rfl, lx7, l1⟩ := l1.uncons
    rw [lx5.int_inv]
    exact ⟨x6, x7, part3 (r := c' ++ c2) rfl, lx6.weak fun b h _ => h.1, lx7.weak fun b h _ => h.1⟩
  · intro i hi
    obtain ⟨ci, rr, hd, v, rfl, j1, j2, j3⟩ := hc.at (z := 8) (fun a c ⟨v, e, _⟩ => by rw [e]; rfl) i hi
    have l2 := l.drop ((i + 1) * 8)
    rw [show (i + 1) * 8 = 8 + i * 8 by omega, ← List.drop_drop (l := _ ++ tc), show List.drop (i * 8) (List.drop 8 ([.int .i64 2, .int .i64 0, .int .i64 0, .nils, .int .i64 0, .int .i64 M.epoch, tI M.starts, tI M.owners] ++ tc)) = _ from hd] at l2
    obtain ⟨x0, c', e0, _, l2⟩ := l2.uncons
    obtain ⟨x1, c', rfl, a1, l2⟩ := l2.uncons
    obtain ⟨x2, c', rfl, a2, l2⟩ := l2.uncons
    obtain ⟨x3, c', rfl, a3, l2⟩ := l2.uncons
    refine ⟨[x1, x2, x3], [.int .i64 (fs[i]).id, .int .i64 (fs[i]).shape, v], part3 (r := c') ?_, (Lvs.cons a1 (.cons a2 (.cons a3 .nil))).weak fun b h _ => h.1, v, rfl, j1, j2, j3⟩
    rw [show (i + 1) * 8 + 1 = (8 + i * 8) + 1 by omega, ← List.drop_drop, e0]; rfl
end
end Go.Proofs.Ythmkenkjfmbkiaa.VM
namespace Go.Proofs.Ythmkenkjfmbkiaa.VM
attribute [local irreducible] Af Nx EvO Ev Un Gd Cd EvR EvQ EvC Nc Gc Lp EvM NxM AfM GdM EvMR EvMQ EvMD EvMC Nm Gm
section
variable {P : Program}
theorem Cl.laidR {f : Nat} {args args' : List AV} {h : Heap} {sz : Nat} {R : Int → List AV → Nat → Prop} {Q : AV → Heap → Prop} (ha : Fzs true h args args') (c : Cl P f args' ⟨0, .e⟩ fun v h0 => ∃ x e t n, v = .tup [x, .int .i64 e] ∧ LR h0 (fun _ => True) x sz t n ∧ R e t n)
    (q : ∀ x e t n h', LR h' (h.next ≤ ·) x sz t n → R e t n → Ext h h' → Q (.tup [x, .int .i64 e]) h') : Cl P f args h Q := by
  obtain ⟨_, h0, o, x, e, t, n, rfl, ⟨cs, row, ⟨D, fd, hb, own, hi⟩, _⟩, hR⟩ := c
  have hlt := fd.lt
  rcases row with ⟨rfl, rfl, rfl⟩ | ⟨b, eb, vb, rfl, hn, hbn, hl, hg⟩
  · have o2 := OK.laid (D := D) ha o rfl own hlt
    cases fd
    exact ⟨_, _, o2, q .nils e [] 0 _ (.nil _ _ _) hR (laid_ext h h0 _)⟩
  · have own2 : Own h0 (b :: D) := fun c hc => by
      rcases List.mem_cons.1 hc with rfl | hc
      · exact ⟨cs, eb, vb, hg, hb⟩
      · exact own c hc
    have hlt2 : ∀ c ∈ b :: D, c < h0.next := fun c hc => by
      rcases List.mem_cons.1 hc with rfl | hc
      · exact hbn
      · exact hlt c hc
    have o2 := OK.laid (D := b :: D) ha o rfl own2 hlt2
    have fd2 := fd.laid (h := h) (D := b :: D) hlt2 fun c hc => List.mem_cons_of_mem _ hc
    refine ⟨_, _, o2, q (.sl (h.next + b) 0 n n sz) e t n _ ⟨shs h.next cs, .inr ⟨h.next + b, eb, vb, rfl, hn, by show _ < h.next + h0.next; omega, ?_, laid_new hbn List.mem_cons_self hg⟩, ⟨D.map (h.next + ·), fd2, by rw [shs_bares]; exact hb, ?_, ?_⟩, fun c hc => by simp [blkOf] at hc; omega⟩ hR (laid_ext h h0 _)⟩
    · rw [shs_map, List.length_map]; exact hl
    · intro c hc
      obtain ⟨d, hd, rfl⟩ := List.mem_map.1 hc
      obtain ⟨l, e2, ver, g1, g2⟩ := own d hd
      exact ⟨_, e2, ver, laid_new (hlt d hd) (List.mem_cons_of_mem _ hd) g1, by rw [shs_bares]; exact g2⟩
    · intro c hc
      obtain ⟨d, hd, rfl⟩ := List.mem_map.1 hc
      have := (hi d hd).2
      simp [blkOf] at this
      exact ⟨Nat.le_add_right _ _, by simp [blkOf]; omega⟩
theorem rops_any (g : Pg P tab) (hins : InsOk P) {m : Mp} {v u w : AV} {fs : List Feat} (hv : IsL 8 RInt v m.starts) (hu : IsL 8 RInt u m.owners) (hw : IsL 40 RFeat w fs) {nodes k a t : Int} (ha : I64 a) (ht : I64 t) {h : Heap} {args : List AV} {Q : AV → Heap → Prop} (hA : Fzs true h args [.agg [.int .i64 m.epoch, v, u], .int .i64 nodes, .agg [.int .i64 k, .int .i64 a, .int .i64 t], w])
    (qN : ∀ h', Ext h h' → (∀ i, ¬ RsYes nodes m k a t fs i) → Q (.tup [.nils, .int .i64 2200]) h')
    (qY : ∀ h' i x b cs, RsYes nodes m k a t fs i → OpsRow h' (h.next ≤ ·) x (chgR m k a t i) fs b cs → Ext h h' → Q (.tup [x, .int .i64 0]) h') : Cl P 14 args h Q := by
  refine Cl.laidR (sz := 8) (R := fun e tl n => (e = 2200 ∧ n = 0 ∧ tl = [] ∧ ∀ i, ¬ RsYes nodes m k a t fs i) ∨ (e = 0 ∧ n = fs.length + 1 ∧ ∃ i tc, RsYes nodes m k a t fs i ∧ tl = [.int .i64 2, .int .i64 0, .int .i64 0, .nils, .int .i64 0, .int .i64 (chgR m k a t i).epoch, tI (chgR m k a t i).starts, tI (chgR m k a t i).owners] ++ tc ∧ Cat RPut fs tc)) hA ?_ ?_
  · refine rops_cl g hins hv hu hw ha ht (fun h' x no => ⟨.nils, 2200, [], 0, rfl, .nil _ _ _, .inl ⟨rfl, rfl, rfl, no⟩⟩) fun h' i x tc y r c xx => ⟨x, 0, _, _, rfl, r.weak fun _ _ _ => trivial, .inr ⟨rfl, rfl, i, tc, y, rfl, c⟩⟩
  · rintro x e tl n h' r (⟨rfl, rfl, rfl, no⟩ | ⟨rfl, rfl, i, tc, y, rfl, c⟩) xx
    · have : x = .nils := by
        obtain ⟨cs, row, _⟩ := r
        rcases row with ⟨rfl, _⟩ | ⟨_, _, _, _, h0, _⟩
        · rfl
        · omega
      subst this
      exact qN h' xx no
    · obtain ⟨b, cs, o⟩ := OpsRow.of r c
      exact qY h' i x b cs y o xx
end
section
variable {P : Program}
theorem awake22_pu (g : Pg P tab) (hins : InsOk P) : Pu P 21 [] (fun v => v = .bool true) := g.runX (insX_ok hins) (n := 400) (by kernel_rfl)
theorem rfirst_pu (g : Pg P tab) (n : Int) : Pu P 28 [.int .i64 n] (fun v => (¬ (1 ≤ n ∧ n ≤ 8) ∧ v = .tup [.agg z3, .int .i64 700]) ∨ (1 ≤ n ∧ n ≤ 8) ∧ v = .tup [toldMp (fstM n), .int .i64 0]) := by
  by_cases h : 1 ≤ n ∧ n ≤ 8
  · refine Pu.mono (Q := fun v => v = .tup [toldMp (fstM n), .int .i64 0]) ?_ fun v e => .inr ⟨h, e⟩
    obtain ⟨h1, h2⟩ := h
    have : n = 1 ∨ n = 2 ∨ n = 3 ∨ n = 4 ∨ n = 5 ∨ n = 6 ∨ n = 7 ∨ n = 8 := by omega
    rcases this with rfl | rfl | rfl | rfl | rfl | rfl | rfl | rfl <;> exact g.runX nothing_told (n := 100) (by kernel_rfl)
  · refine Pu.mono (Q := fun v => v = .tup [.agg z3, .int .i64 700]) ?_ fun v e => .inl ⟨h, e⟩
    refine g.pu (vf := v28) rfl rfl ?_
    by_cases c1 : n < 1
    · simp only [v28, c1, RW, RX, VOp.fresh, bxC, bsC, un, most, callsOf, seval, Int.reducePow, ↓reduceIte, Nat.reduceEqDiff, reduceCtorEq]
      exact ⟨_, .tup (.cons (.agg (.cons (.int _ _) (.cons .nils (.cons .nils .nil)))) (.cons (.int _ _) .nil)), rfl⟩
    · have c2 : 8 < n := by omega
      simp only [v28, c1, c2, RW, RX, VOp.fresh, bxC, bsC, un, most, callsOf, seval, Int.reducePow, ↓reduceIte, Nat.reduceEqDiff, reduceCtorEq]
      exact ⟨_, .tup (.cons (.agg (.cons (.int _ _) (.cons .nils (.cons .nils .nil)))) (.cons (.int _ _) .nil)), rfl⟩
end
end Go.Proofs.Ythmkenkjfmbkiaa.VM
namespace Go.Proofs.Ythmkenkjfmbkiaa.VM
attribute [local irreducible] Af Nx EvO Ev Un Gd Cd EvR EvQ EvC Nc Gc Lp EvM NxM AfM GdM EvMR EvMQ EvMD EvMC Nm Gm
theorem ChYes.eight {nodes k a t : Int} {m : Mp} {i : Nat} (c : ChYes nodes m k a t i) : ChYes 8 m k a t i := ⟨⟨c.1.1.eight, c.1.2⟩, c.2.1, c.2.2.1, c.2.2.2.1, c.2.2.2.2.eight⟩
theorem opsOk_map {q : Int} {M1 M2 : Mp} {fs : List Feat} (ok : mpOk q M2) (h : opsOk q (rsO M1 fs)) : opsOk q (rsO M2 fs) := by
  obtain ⟨h1, h2, h3⟩ := h
  have e : ∀ i, (rsO M2 fs).getD (i + 1) op0 = (rsO M1 fs).getD (i + 1) op0 := fun i => rfl
  have id0 : ∀ j, opId ((rsO M2 fs).getD j op0) = opId ((rsO M1 fs).getD j op0) := fun j => by
    cases j with
    | zero => rfl
    | succ j => rw [e]
  refine ⟨h1, h2, fun i hi => ?_⟩
  obtain ⟨a, b, c⟩ := h3 i hi
  refine ⟨?_, ?_, ?_⟩
  · cases i with
    | zero => exact .inr (.inr ⟨rfl, ok, rfl, rfl, rfl, rfl⟩)
    | succ i => rw [e]; exact a
  · cases i with
    | zero => exact fun _ => rfl
    | succ i => rw [e]; exact b
  · rw [id0]
    intro h0 j hj
    rw [id0]
    exact c h0 j hj
theorem wFeatsL {c : List AV} (h : Ws [.sl 40 shFeat] c) : ∃ w l, c = [w] ∧ IsL 40 RFeat w l := by
  cases h with | cons h1 t =>
    cases t
    obtain ⟨l, hl⟩ := h1.isL wFeat
    exact ⟨_, l, rfl, hl⟩
section
variable {P : Program} {w : AV} {fs : List Feat}
theorem feat_ok (g : Pg P tab) {h : Heap} {B : Nat → Prop} {c3 t3 u3 : List AV} {d : AV} {f : Feat} (l : Lvs h B c3 t3) (r : RFeat f t3) (l' : Fz true h d (.agg u3)) (r' : RFeat f u3) : OK P 26 [.agg c3, d] h (.bool true) h := by
  obtain ⟨v, v', h0, o, hv, rfl⟩ := sFeat_pu g r r'
  exact OK.pure (.cons (Lv.agg l).fz (.cons l' .nil)) o hv
theorem back_loop (g : Pg P tab) (hw : IsL 40 RFeat w fs) (hsm : fs.length ≤ 31) {h : Heap} {B B' : Nat → Prop} {x1 x2 : AV} {M1 M2 : Mp} {b1 b2 : Nat} {cs1 cs2 : List AV} (o1 : OpsRow h B x1 M1 fs b1 cs1) (o2 : OpsRow h B' x2 M2 fs b2 cs2) (r : Nat) : ∀ (i : Nat) (s : T AV) (k : List Fr) (Q : Ex → T AV → Heap → Prop), i + r = fs.length → sg s 2 = w → sg s 11 = x1 → sg s 13 = x2 → sg s 15 = .int .i64 i →
    (∀ s', (∀ t, t < 15 → sg s' t = sg s t) → Un P k Q (.exit 0) s' h) → Lp P b6_0 s h (Un P k Q) := by
  obtain ⟨rfl, hb1, hB1, ⟨e1, v1, g1⟩, k1, m1, f1⟩ := o1
  obtain ⟨rfl, hb2, hB2, ⟨e2, v2, g2⟩, k2, m2, f2⟩ := o2
  induction r with
  | zero =>
    intro i s k Q hi t2 t11 t13 t15 hK
    refine g.lpe b6_0.eq_1 ?_
    have c1 : ¬ ((i : Int) < (fs.length : Int)) := by omega
    simp only [t2, t11, t13, t15, hw.len, c1, RX, VOp.fresh, bxC, bsC, un, most, callsOf, seval, Int.reducePow, ↓reduceIte, Nat.reduceEqDiff, reduceCtorEq]
    exact hK _ fun t ht => by simp only [sg_set]; repeat rw [if_neg (by omega)]
  | succ r ih =>
    intro i s k Q hi t2 t11 t13 t15 hK
    refine g.lpe b6_0.eq_1 ?_
    have c1 : ((i : Int) < (fs.length : Int)) := by omega
    have w1 : IntKind.i64.wrap ((i : Int) + 1) = ((i + 1 : Nat) : Int) := by rw [w64 (by omega) (by omega)]; push_cast; rfl
    obtain ⟨c3, t3, p3, l3, r3⟩ := f1 i (by omega)
    obtain ⟨d3, u3, q3, n3, s3⟩ := f2 i (by omega)
    obtain ⟨ci, rr, ⟨va, rfl, i1, i2, i3⟩, hat⟩ := hw.at zFeat i (by omega)
    have ia : ∀ (hh : Heap) (q : IntKind) (b : Nat), iaV hh 8 none (.sl b 0 (fs.length + 1) (fs.length + 1) 8) (.int q ((i + 1 : Nat) : Int)) = .val (.ptr b ((i + 1) * 8)) hh := fun hh q b => by
      have : 0 ≤ ((i + 1 : Nat) : Int) ∧ ((i + 1 : Nat) : Int) < ((fs.length + 1 : Nat) : Int) ∧ 8 = 8 := ⟨by omega, by omega, rfl⟩
      simp only [iaV, this, and_self, if_true, Int.toNat_natCast, Nat.zero_add]
    have tf : Fz true h (.agg [.int .i64 (fs[i]).id, .int .i64 (fs[i]).shape, va]) (.agg [.int .i64 (fs[i]).id, .int .i64 (fs[i]).shape, va]) := Fz.refl (by simp [AV.told, AV.tolds, i3.told tRing])
    have ok1 := feat_ok g l3 r3 tf ⟨va, rfl, i1, i2, i3⟩
    have ok2 := feat_ok g n3 s3 tf ⟨va, rfl, i1, i2, i3⟩
    simp only [t2, t11, t13, t15, hw.len, c1, w1, Bool.true_or, RX, VOp.fresh, bxC, bsC, un, most, callsOf, seval, Int.reducePow, ↓reduceIte, Nat.reduceEqDiff, reduceCtorEq]
    refine EvD.same (fun _ _ h => (.bool true, h)) (by rfl) ?_
    simp only [t2, t11, t13, t15, hw.len, c1, w1, ia, hat, g1, g2, p3, q3, ok1, ok2, RX, VOp.fresh, bxC, bsC, un, most, callsOf, seval, Int.reducePow, ↓reduceIte, Nat.reduceEqDiff, reduceCtorEq]
    refine ih (i + 1) _ k Q (by omega) ?_ ?_ ?_ ?_ fun s' hs => hK s' fun t ht => ?_
    · simp only [t2, sg_set, Nat.reduceEqDiff, ↓reduceIte]
    · simp only [t11, sg_set, Nat.reduceEqDiff, ↓reduceIte]
    · simp only [t13, sg_set, Nat.reduceEqDiff, ↓reduceIte]
    · simp only [sg_set, Nat.reduceEqDiff, ↓reduceIte]
    · rw [hs t ht]
      simp only [sg_set]; repeat rw [if_neg (by omega)]
theorem Lv.one_tI {h : Heap} {B : Nat → Prop} {x : AV} {l : List Int} (h0 : 0 < l.length) (lv : Lv h B x (tI l)) : x.one = true := by
  have e : tI l = cRow (ic l) l.length := (cRow_s _ h0).symm
  rw [e] at lv
  exact lv.one_row
theorem OpsRow.ext {h h' : Heap} {B : Nat → Prop} {v : AV} {M : Mp} {fs : List Feat} {b : Nat} {cs : List AV} (o : OpsRow h B v M fs b cs) (x : Ext h h') : OpsRow h' B v M fs b cs := by
  obtain ⟨hv, hb, hB, ⟨e, ver, hg⟩, k0, ⟨sv, ov, pm, l1, l2⟩, f⟩ := o
  refine ⟨hv, Nat.lt_of_lt_of_le hb x.1, hB, ⟨e, ver, (x.2 b hb).trans hg⟩, k0, ⟨sv, ov, pm, l1.frame x.1 fun c _ hc => x.2 c hc, l2.frame x.1 fun c _ hc => x.2 c hc⟩, fun i hi => ?_⟩
  obtain ⟨c3, t3, p, l, r⟩ := f i hi
  exact ⟨c3, t3, p, l.frame x.1 fun c _ hc => x.2 c hc, r⟩
theorem reshardBack_pu (g : Pg P tab) (hins : InsOk P) (hw : IsL 40 RFeat w fs) (which ta : Int) : Pu P 6 [.int .i64 which, .int .i64 ta, w] (fun v => v = .bool true) := by
  refine g.pu (vf := v6) rfl rfl ?_
  obtain ⟨A, hA0, hA1, hA⟩ := low32 ta
  obtain ⟨n, h0, h8, hn⟩ : ∃ n : Nat, 1 ≤ n ∧ n ≤ 8 ∧ IntKind.i64.wrap (1 + IntKind.i64.wrap ((IntKind.u64.wrap which).tmod 8)) = (n : Int) := by
    obtain ⟨d, d0, d1, hd⟩ := low8 which
    rw [hd]
    exact ⟨(d + 1).toNat, by omega, by omega, by rw [w64 (by omega) (by omega)]; omega⟩
  obtain ⟨i1, i2⟩ := fst_i64 n h0 h8
  obtain ⟨l1, l2⟩ := fst_len n
  have hv := tI_is i1 (by omega)
  have hu := tI_is i2 (by omega)
  have ok := fst_ok n h0 h8
  have ov := isL_one hv
  have ou := isL_one hu
  have ow := isL_one hw
  have I : ∀ n : Int, -1000 ≤ n → n ≤ 5000000000 → I64 n := fun n a b => ⟨by omega, by omega⟩
  have ep : (fstM n).epoch = 1 := rfl
  have tw : w.told = true := hw.told tFeat
  simp only [v6, hn, hA, RX, VOp.fresh, bxC, bsC, un, most, callsOf, seval, Int.reducePow, ↓reduceIte, Nat.reduceEqDiff, reduceCtorEq]
  refine (awake22_pu g hins).go rfl ?_
  rintro _ rfl
  simp only [hn, hA, RX, VOp.fresh, bxC, bsC, un, most, callsOf, seval, Int.reducePow, ↓reduceIte, Nat.reduceEqDiff, reduceCtorEq]
  refine (rfirst_pu g n).go rfl ?_
  rintro v (⟨no, _⟩ | ⟨_, rfl⟩)
  · omega
  simp only [toldMp, ep, ov, ou, hn, hA, RW, RX, VOp.fresh, bxC, bsC, un, most, callsOf, seval, Int.reducePow, ↓reduceIte, Nat.reduceEqDiff, reduceCtorEq]
  refine rops_any g hins (m := fstM n) (v := tI (fstM n).starts) (u := tI (fstM n).owners) hv hu hw (k := 0) (a := A) (t := 0) (I _ (by omega) (by omega)) (I _ (by omega) (by omega)) (Fzs.refl (by simp only [AV.tolds, AV.told, hv.told tInt, hu.told tInt, tw, Bool.and_self, Bool.and_true])) ?_ ?_
  · intro h' x no
    simp only [RW, RX, VOp.fresh, bxC, bsC, un, most, callsOf, seval, Int.reducePow, ↓reduceIte, Nat.reduceEqDiff, reduceCtorEq]
    refine (num_pu g _).go rfl ?_
    rintro _ rfl
    simp only [RW, RX, VOp.fresh, bxC, bsC, un, most, callsOf, seval, Int.reducePow, ↓reduceIte, Nat.reduceEqDiff, reduceCtorEq]
    refine (num_pu g _).go rfl ?_
    rintro _ rfl
    simp only [RW, RX, VOp.fresh, bxC, bsC, un, most, callsOf, seval, Int.reducePow, ↓reduceIte, Nat.reduceEqDiff, reduceCtorEq]
  · intro h1 i x1 b1 cs1 y o1 e1
    obtain ⟨c, hlen, ops⟩ := id y
    have sp := Sp.of c.eight
    have hi := sp.hi
    have ok1 := c.2.2.2.2
    have a1' := sp.a0
    obtain ⟨p1, p2, p3, p4, p5, p6, p7, p8, p9⟩ := id ok
    have hio : i < (fstM n).owners.length := by omega
    have li : (ins (fstM n).starts (i + 1) A).length = (fstM n).starts.length + 1 := ins_len (by omega) _
    have lo : (ins (fstM n).owners (i + 1) ((fstM n).owners.getD i 0)).length = (fstM n).owners.length + 1 := ins_len (by omega) _
    obtain ⟨r1, r2, r3, r4, r5, r6⟩ := chgR_ok (k := 0) (t := 0) hv hu ⟨by omega, by omega⟩ (I A (by omega) (by omega)) (I 0 (by omega) (by omega)) c.2.2.1 p6 p7 (by simp)
    have em1 : chgR (fstM n) 0 A 0 i = ⟨1 + 1, ins (fstM n).starts (i + 1) A, ins (fstM n).owners (i + 1) ((fstM n).owners.getD i 0)⟩ := rfl
    rw [em1] at o1 r1 r2 r3 r4 r5 r6 ok1 ops
    have hv1 := tI_is r1 r5
    have hu1 := tI_is r2 r6
    have o1' := o1
    obtain ⟨rfl, hb1, hB1, ⟨eb1, vb1, g1⟩, k1, ⟨sv, ov', pm, lsv, lov⟩, f1⟩ := o1
    have ia0 : ∀ (hh : Heap) (b : Nat), iaV hh 8 none (.sl b 0 (fs.length + 1) (fs.length + 1) 8) (.int .i64 0) = .val (.ptr b 0) hh := fun hh b => by
      have : (0 : Int) ≤ 0 ∧ (0 : Int) < ((fs.length + 1 : Nat) : Int) ∧ 8 = 8 := ⟨by omega, by omega, rfl⟩
      simp only [iaV, this, and_self, if_true]; rfl
    have c1 : ¬ ((fs.length + 1 : Nat) : Int) = 0 := by omega
    have w3 : IntKind.i64.wrap (A - 1) = A - 1 := w64 (by omega) (by omega)
    simp only [RW, RX, VOp.fresh, bxC, bsC, un, most, callsOf, seval, Int.reducePow, ↓reduceIte, Nat.reduceEqDiff, reduceCtorEq]
    refine (num_pu g _).go rfl ?_
    rintro _ rfl
    simp only [c1, ia0, g1, pm, w3, RW, RX, VOp.fresh, bxC, bsC, un, most, callsOf, seval, Int.reducePow, ↓reduceIte, Nat.reduceEqDiff, reduceCtorEq]
    have e2 : chgR ⟨1 + 1, ins (fstM n).starts (i + 1) A, ins (fstM n).owners (i + 1) ((fstM n).owners.getD i 0)⟩ 2 (A - 1) 0 i = ⟨1 + 1 + 1, (fstM n).starts, (fstM n).owners⟩ := by
      simp only [chgR, erase_ins (show i + 1 ≤ (fstM n).starts.length by omega), erase_ins (show i + 1 ≤ (fstM n).owners.length by omega)]
      rfl
    have x2 : ∀ i', IxAt (ins (fstM n).starts (i + 1) A) (A - 1) i' → i' = i := fun i' hi' => hi'.uniq ok1.rise sp.ix2
    have okm2 : mpOk n ⟨1 + 1 + 1, (fstM n).starts, (fstM n).owners⟩ := ⟨p1, p2, by show (1 : Int) ≤ 1 + 1 + 1; decide, by show (1 + 1 + 1 : Int) ≤ 65535; decide, p5, p6, p7, p8, p9⟩
    refine rops_any g hins (m := ⟨1 + 1, ins (fstM n).starts (i + 1) A, ins (fstM n).owners (i + 1) ((fstM n).owners.getD i 0)⟩) hv1 hu1 hw (k := 2) (a := A - 1) (t := 0) (I _ (by omega) (by omega)) (I _ (by omega) (by omega)) (.cons (.agg (.cons (.int _ _) (.cons lsv.fz (.cons lov.fz .nil)))) (.cons (.int _ _) (.cons (.agg (.cons (.int _ _) (.cons (.int _ _) (.cons (.int _ _) .nil)))) (.cons (Fz.refl tw) .nil)))) ?_ ?_
    · intro h2 x no
      refine absurd ?_ (no i)
      refine ⟨⟨⟨ok1, by omega, by omega, by omega, by omega⟩, by show (1 + 1 : Int) ≠ 65535; decide, sp.ix2, ?_, by rw [e2]; exact okm2⟩, hlen, by rw [e2]; exact opsOk_map okm2 ops⟩
      rintro ⟨_, hl⟩
      have hl' : i + 1 = (ins (fstM n).starts (i + 1) A).length := hl
      omega
    · intro h2 i' x2' b2 cs2 y2 o2 e2'
      obtain rfl := x2 i' y2.1.2.2.1
      rw [e2] at o2
      have o2' := o2
      obtain ⟨rfl, hb2, hB2, ⟨eb2, vb2, g2⟩, k2, ⟨sv2, ov2, pm2, lsv2, lov2⟩, f2⟩ := o2
      have w2 : IntKind.i64.wrap (((fs.length : Nat) : Int) + 1) = ((fs.length + 1 : Nat) : Int) := by rw [w64 (by omega) (by omega)]; push_cast; rfl
      simp only [RW, RX, VOp.fresh, bxC, bsC, un, most, callsOf, seval, Int.reducePow, ↓reduceIte, Nat.reduceEqDiff, reduceCtorEq]
      refine (num_pu g _).go rfl ?_
      rintro _ rfl
      simp only [c1, w2, hw.len, RW, RX, VOp.fresh, bxC, bsC, un, most, callsOf, seval, Int.reducePow, ↓reduceIte, Nat.reduceEqDiff, reduceCtorEq]
      refine back_loop g hw hlen (o1'.ext e2') o2' fs.length 0 _ _ _ (by omega) ?_ ?_ ?_ ?_ fun s' hs => ?_
      · simp only [sg_set, Nat.reduceEqDiff, ↓reduceIte]
      · simp only [sg_set, Nat.reduceEqDiff, ↓reduceIte]
      · simp only [sg_set, Nat.reduceEqDiff, ↓reduceIte]
      · simp only [sg_set, Nat.reduceEqDiff, ↓reduceIte]
        rfl
      have t8 : sg s' 8 = .ptr 0 0 := (hs 8 (by decide)).trans (by simp only [sg_set, Nat.reduceEqDiff, ↓reduceIte])
      have t13 : sg s' 13 = .sl b2 0 (fs.length + 1) (fs.length + 1) 8 := (hs 13 (by decide)).trans (by simp only [sg_set, Nat.reduceEqDiff, ↓reduceIte])
      have n1 := e1.1
      simp only [put_next, mk_next] at n1
      have g8 : h2.get 0 = some (.cells [.int .i64 1, tI (fstM n).starts, tI (fstM n).owners] 24 1) := (e2'.2 0 (by omega)).trans ((e1.2 0 (by simp only [put_next, mk_next]; omega)).trans (by rw [Heap.get_put, if_pos rfl]))
      have nb : ¬ 0 = h2.next := by have := e2'.1; omega
      have o1s := Lv.one_tI (show 0 < (fstM n).starts.length by omega) lsv2
      have o2s := Lv.one_tI (show 0 < (fstM n).owners.length by omega) lov2
      simp only [t8, t13, g8, g2, pm2, ia0, nb, o1s, o2s, RW, RX, VOp.fresh, bxC, bsC, un, most, callsOf, seval, Int.reducePow, ↓reduceIte, Nat.reduceEqDiff, reduceCtorEq]
      have xH : ∀ X Y : Blk, Ext h2 ((h2.mk' h2.next X).put h2.next Y) := fun X Y => ((Ext.refl h2).mkn (Nat.le_refl _) _).putn (Nat.le_refl _) _
      refine (sInts_pu g hv hv).cl (.cons (lsv2.frame (xH _ _).1 fun c _ hc => (xH _ _).2 c hc).fz (.cons (Fz.refl (hv.told tInt)) .nil)) ?_
      rintro _ rfl
      simp only [t8, t13, g8, g2, pm2, ia0, nb, o1s, o2s, RW, RX, VOp.fresh, bxC, bsC, un, most, callsOf, seval, Int.reducePow, ↓reduceIte, Nat.reduceEqDiff, reduceCtorEq]
      refine (sInts_pu g hu hu).cl (.cons (lov2.frame (xH _ _).1 fun c _ hc => (xH _ _).2 c hc).fz (.cons (Fz.refl (hu.told tInt)) .nil)) ?_
      rintro _ rfl
      simp only [t8, t13, g8, g2, pm2, ia0, nb, o1s, o2s, RW, RX, VOp.fresh, bxC, bsC, un, most, callsOf, seval, Int.reducePow, ↓reduceIte, Nat.reduceEqDiff, reduceCtorEq]
end
end Go.Proofs.Ythmkenkjfmbkiaa.VM
