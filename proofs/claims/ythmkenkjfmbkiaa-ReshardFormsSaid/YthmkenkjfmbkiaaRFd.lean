/- Part of a proof: what stands for the program, and its walk. No condition. -/
import Derived.Below
import Derived.ChangeArms
import Derived.ChangeMaps5
import Derived.Laws.Cells
import Derived.Laws.IdiomCopy
import Derived.MapKept
import Derived.Orders
import Derived.Shelf.Spec.SlicesInsertGrow
import Derived.SizedLaws
import Derived.WalkKit
import Derived.WalkLawsBesides
import GoSem.Claim
import Derived.Test.YthmkenkjfmbkiaaRFc
set_option linter.unusedSimpArgs false
set_option linter.unusedVariables false
set_option linter.defProp false
set_option maxHeartbeats 1000000
namespace Go.Proofs.Ythmkenkjfmbkiaa.VM
attribute [local irreducible] Af Nx EvO Ev Un Gd Cd EvR EvQ EvC Nc Gc Lp EvM NxM AfM GdM EvMR EvMQ EvMD EvMC Nm Gm
/-- what stands while a map is changed: N: names from here on are one's own -/
structure CS (h : Heap) (N d : Nat) (m : Mp) (x : Mp) (v u : AV) (k a t : Int) : Prop where
  r : ∃ sv ov b b', Has h [(d, [.int .i64 x.epoch, sv, ov]), (N, [.int .i64 m.epoch, v, u]), (N + 1, [.int .i64 k, .int .i64 a, .int .i64 t]), (N + 2, z3)] ∧ WRow h (N + 3) x.starts sv b ∧ WRow h (N + 3) x.owners ov b' ∧ b ≠ b' ∧ b ≠ d ∧ b' ≠ d
  d : N + 2 < d
section
variable {P : Program} {h : Heap} {s : T AV} {N d i : Nat} {m : Mp} {v u sv ov : AV} {k a t nodes : Int} {kk : List Fr} {Q : Ex → T AV → Heap → Prop} {b b' e ver e' ver' : Nat}
theorem chg_give (g : Pg P tab) (t5 : sg s 5 = .ptr (N + 1) 0) (t8 : sg s 8 = .int .i64 i) (t9 : sg s 9 = .ptr d 0) (hd : N + 2 < d) (H : Has h [(d, [.int .i64 (m.epoch + 1), sv, ov]), (N, [.int .i64 m.epoch, v, u]), (N + 1, [.int .i64 1, .int .i64 a, .int .i64 t]), (N + 2, z3)])
    (ws : WRow h (N + 3) m.starts sv b) (wo : WRow h (N + 3) m.owners ov b') (hne : b ≠ b') (hbd : b ≠ d) (hbd' : b' ≠ d) (hg : h.get b' = some (.cells (ic m.owners) e' ver')) (hov : ov = .sl b' 0 m.owners.length m.owners.length 1) (hi : i < m.owners.length)
    (hK : ∀ s' h', (∀ j, j < 10 → sg s' j = sg s j) → CS h' N d m (chgR m 1 a t i) v u 1 a t → h.next ≤ h'.next → (∀ c, c < N → h'.get c = h.get c) → Un P kk Q .normal s' h') : Ev P (blkC 5) s h (Un P kk Q) := by
  obtain ⟨ed, vd, gd⟩ := H.get (b := d) (.head _)
  obtain ⟨ec, vc, gc⟩ := H.get (b := N + 1) (.tail _ (.tail _ (.head _)))
  have o1 := wo
  obtain ⟨cap, eo, vo, z, rfl, p2, p3, p4⟩ := o1
  cases hov
  have hia : ∀ (hh : Heap) (q : IntKind), iaV hh 1 none (.sl b' 0 m.owners.length m.owners.length 1) (.int q (i : Int)) = .val (.ptr b' i) hh := fun hh q => by
    have : 0 ≤ (i : Int) ∧ (i : Int) < (m.owners.length : Int) ∧ 1 = 1 := ⟨by omega, by omega, rfl⟩
    simp only [iaV, this, and_self, if_true, Int.toNat_natCast, Nat.zero_add, Nat.mul_one]
  have hw := wr_at hg (show i < (ic m.owners).length by rw [ic_len]; exact hi) (x := .int .i64 t) rfl
  simp only [blkC, v32, blk, t5, t8, t9, gd, gc, hia, hw, RX, VOp.fresh, bxC, bsC, un, most, callsOf, seval, Int.reducePow, ↓reduceIte, Nat.reduceEqDiff, reduceCtorEq]
  have hset : (ic m.owners).set i (.int .i64 t) = ic (m.owners.set i t) := by simp [ic]
  have kp : ∀ c, c ≠ b' → (h.put b' (.cells ((ic m.owners).set i (.int .i64 t)) e' (ver' + 1))).get c = h.get c := fun c hc => by rw [Heap.get_put, if_neg hc]
  refine hK _ _ (fun j hj => by simp only [sg_set]; repeat rw [if_neg (by omega)]) ⟨⟨sv, .sl b' 0 m.owners.length m.owners.length 1, b, b', ?_, ?_, ?_, hne, hbd, hbd'⟩, hd⟩ (by rw [put_next]; exact Nat.le_refl _) fun c hc => kp c (by omega)
  · exact fun p hp => ⟨by rw [put_next]; exact (H p hp).1, let ⟨e1, v1, g1⟩ := (H p hp).2; ⟨e1, v1, (kp _ (by
      simp only [List.mem_cons, List.not_mem_nil, or_false] at hp
      rcases hp with rfl | rfl | rfl | rfl <;> simp only <;> omega)).trans g1⟩⟩
  · exact ws.frame (by rw [put_next]; exact Nat.le_refl _) (kp b hne)
  · refine ⟨m.owners.length, e', ver' + 1, [], ?_, p2, by rw [put_next]; exact p3, ?_, rfl⟩
    · simp [chgR]
    · rw [Heap.get_put, if_pos rfl, List.append_nil, hset]; rfl
theorem chg_join (g : Pg P tab) (t3 : sg s 3 = .ptr N 0) (t5 : sg s 5 = .ptr (N + 1) 0) (t8 : sg s 8 = .int .i64 i) (t9 : sg s 9 = .ptr d 0) (hd : N + 2 < d) (H : Has h [(d, [.int .i64 (m.epoch + 1), sv, ov]), (N, [.int .i64 m.epoch, v, u]), (N + 1, [.int .i64 2, .int .i64 a, .int .i64 t]), (N + 2, z3)])
    (hv : IsL 8 RInt v m.starts) (hls : m.starts.length ≤ 32) (hlo : m.owners.length = m.starts.length)
    (ws : WRow h (N + 3) m.starts sv b) (wo : WRow h (N + 3) m.owners ov b') (hne : b ≠ b') (hbd : b ≠ d) (hbd' : b' ≠ d) (hgs : h.get b = some (.cells (ic m.starts) e ver)) (hgo : h.get b' = some (.cells (ic m.owners) e' ver')) (hsv : sv = .sl b 0 m.starts.length m.starts.length 1) (hov : ov = .sl b' 0 m.owners.length m.owners.length 1) (hi : i + 1 < m.starts.length)
    (hK : ∀ s' h', (∀ j, j < 10 → sg s' j = sg s j) → CS h' N d m (chgR m 2 a t i) v u 2 a t → h.next ≤ h'.next → (∀ c, c < N → h'.get c = h.get c) → Un P kk Q .normal s' h') : Ev P (blkC 5) s h (Un P kk Q) := by
  obtain ⟨ed, vd, gd⟩ := H.get (b := d) (.head _)
  obtain ⟨em, vm, gm⟩ := H.get (b := N) (.tail _ (.head _))
  obtain ⟨ec, vc, gc⟩ := H.get (b := N + 1) (.tail _ (.tail _ (.head _)))
  obtain ⟨cs, es, vs, zs, _, q2, q3, _⟩ := id ws
  obtain ⟨co, eo, vo, zo, _, p2, p3, _⟩ := id wo
  subst hsv hov
  have w1 : IntKind.i64.wrap ((i : Int) + 1) = ((i + 1 : Nat) : Int) := by rw [w64 (by omega) (by omega)]; push_cast; rfl
  have w2 : IntKind.i64.wrap ((i : Int) + 2) = ((i + 1 + 1 : Nat) : Int) := by rw [w64 (by omega) (by omega)]; push_cast; omega
  have c1 : ¬ ((i + 1 : Nat) : Int) = ((m.starts.length : Nat) : Int) := by omega
  simp only [blkC, v32, blk, t3, t5, t8, t9, gd, gc, gm, hv.len, w1, w2, c1, RX, VOp.fresh, bxC, bsC, un, most, callsOf, seval, Int.reducePow, ↓reduceIte, Nat.reduceEqDiff, reduceCtorEq]
  refine delI_cl g (i := i + 1) hi (by omega) q3 hgs fun h1 v1 n1 k1 g1 => ?_
  have gd1 := (k1 d (Ne.symm hbd)).trans gd
  have hgo1 := (k1 b' (Ne.symm hne)).trans hgo
  have gn1 := (k1 N (by omega)).trans gm
  have gc1 := (k1 (N + 1) (by omega)).trans gc
  have hdN : ¬ d = N := by omega
  have hdC : ¬ d = N + 1 := by omega
  simp only [t8, t9, gd1, hgo1, w1, w2, RW, RX, VOp.fresh, bxC, bsC, un, most, callsOf, seval, Int.reducePow, ↓reduceIte, Nat.reduceEqDiff, reduceCtorEq]
  have g2 : (h1.put d (.cells [.int .i64 (m.epoch + 1), .sl b 0 (m.starts.length - 1) m.starts.length 1, .sl b' 0 m.owners.length m.owners.length 1] ed (vd + 1))).get b' = some (.cells (ic m.owners) e' ver') := by rw [Heap.get_put, if_neg hbd']; exact hgo1
  refine delI_cl g (i := i + 1) (by omega) (by omega) (by rw [put_next, n1]; exact p3) g2 fun h2 v2 n2 k2 g22 => ?_
  have gd2 := (k2 d (Ne.symm hbd')).trans ((by rw [Heap.get_put, if_pos rfl]) : (h1.put d (.cells [.int .i64 (m.epoch + 1), .sl b 0 (m.starts.length - 1) m.starts.length 1, .sl b' 0 m.owners.length m.owners.length 1] ed (vd + 1))).get d = some (.cells [.int .i64 (m.epoch + 1), .sl b 0 (m.starts.length - 1) m.starts.length 1, .sl b' 0 m.owners.length m.owners.length 1] ed (vd + 1)))
  simp only [t9, gd2, RW, RX, VOp.fresh, bxC, bsC, un, most, callsOf, seval, Int.reducePow, ↓reduceIte, Nat.reduceEqDiff, reduceCtorEq]
  rw [put_next, n1] at n2
  have kp : ∀ c, c ≠ b → c ≠ b' → c ≠ d → ∀ X, (h2.put d X).get c = h.get c := fun c c1 c2 c3 X => by rw [Heap.get_put, if_neg c3, k2 c c2, Heap.get_put, if_neg c3, k1 c c1]
  have ls : (m.starts.eraseIdx (i + 1)).length = m.starts.length - 1 := List.length_eraseIdx_of_lt hi
  have lo : (m.owners.eraseIdx (i + 1)).length = m.owners.length - 1 := List.length_eraseIdx_of_lt (by omega)
  refine hK _ _ (fun j hj => by simp only [sg_set]; repeat rw [if_neg (by omega)]) ⟨⟨.sl b 0 (m.starts.length - 1) m.starts.length 1, .sl b' 0 (m.owners.length - 1) m.owners.length 1, b, b', ?_, ?_, ?_, hne, hbd, hbd'⟩, hd⟩ (by rw [put_next, n2]; exact Nat.le_refl _) fun c hc => kp c (by omega) (by omega) (by omega) _
  rotate_left
  · refine ⟨m.starts.length, e, v1, [.int .i64 0], ?_, q2, by rw [put_next, n2]; exact q3, ?_, rfl⟩
    rotate_left
    · rw [Heap.get_put, if_neg hbd, k2 b hne, Heap.get_put, if_neg hbd, g1]; rfl
    · rw [show chgR m 2 a t i = ⟨m.epoch + 1, m.starts.eraseIdx (i + 1), m.owners.eraseIdx (i + 1)⟩ from rfl, ls]
  · refine ⟨m.owners.length, e', v2, [.int .i64 0], ?_, p2, by rw [put_next, n2]; exact p3, ?_, rfl⟩
    rotate_left
    · rw [Heap.get_put, if_neg hbd', g22]; rfl
    · rw [show chgR m 2 a t i = ⟨m.epoch + 1, m.starts.eraseIdx (i + 1), m.owners.eraseIdx (i + 1)⟩ from rfl, lo]
  · intro p hp
    simp only [List.mem_cons, List.not_mem_nil, or_false] at hp
    rcases hp with rfl | rfl | rfl | rfl
    · exact ⟨by rw [put_next, n2]; exact H.lt (.head _), ed, vd + 1 + 1, by rw [Heap.get_put, if_pos rfl]; rfl⟩
    · exact ⟨by rw [put_next, n2]; exact H.lt (.tail _ (.head _)), _, _, (kp _ (by omega) (by omega) (by omega) _).trans gm⟩
    · exact ⟨by rw [put_next, n2]; exact H.lt (.tail _ (.tail _ (.head _))), _, _, (kp _ (by omega) (by omega) (by omega) _).trans gc⟩
    · obtain ⟨ez, vz, gz⟩ := H.get (b := N + 2) (.tail _ (.tail _ (.tail _ (.head _))))
      exact ⟨by rw [put_next, n2]; exact H.lt (.tail _ (.tail _ (.tail _ (.head _)))), _, _, (kp _ (by omega) (by omega) (by omega) _).trans gz⟩
theorem chg_split (g : Pg P tab) (hins : InsOk P) (t3 : sg s 3 = .ptr N 0) (t5 : sg s 5 = .ptr (N + 1) 0) (t8 : sg s 8 = .int .i64 i) (t9 : sg s 9 = .ptr d 0) (hd : N + 2 < d) (H : Has h [(d, [.int .i64 (m.epoch + 1), sv, ov]), (N, [.int .i64 m.epoch, v, u]), (N + 1, [.int .i64 0, .int .i64 a, .int .i64 t]), (N + 2, z3)])
    (hu : IsL 8 RInt u m.owners) (hls : m.starts.length ≤ 32) (hlo : m.owners.length = m.starts.length)
    (ws : WRow h (N + 3) m.starts sv b) (wo : WRow h (N + 3) m.owners ov b') (hne : b ≠ b') (hbd : b ≠ d) (hbd' : b' ≠ d) (hgs : h.get b = some (.cells (ic m.starts) e ver)) (hgo : h.get b' = some (.cells (ic m.owners) e' ver')) (hsv : sv = .sl b 0 m.starts.length m.starts.length 1) (hov : ov = .sl b' 0 m.owners.length m.owners.length 1) (hi : i < m.starts.length)
    (hK : ∀ s' h', (∀ j, j < 10 → sg s' j = sg s j) → CS h' N d m (chgR m 0 a t i) v u 0 a t → h.next ≤ h'.next → (∀ c, c < N → h'.get c = h.get c) → Un P kk Q .normal s' h') : Ev P (blkC 5) s h (Un P kk Q) := by
  obtain ⟨ed, vd, gd⟩ := H.get (b := d) (.head _)
  obtain ⟨em, vm, gm⟩ := H.get (b := N) (.tail _ (.head _))
  obtain ⟨ec, vc, gc⟩ := H.get (b := N + 1) (.tail _ (.tail _ (.head _)))
  obtain ⟨ez, vz, gz⟩ := H.get (b := N + 2) (.tail _ (.tail _ (.tail _ (.head _))))
  have ld := H.lt (b := d) (.head _)
  obtain ⟨cs, es, vs, zs, _, q2, q3, _⟩ := id ws
  obtain ⟨co, eo, vo, zo, _, p2, p3, _⟩ := id wo
  subst hsv hov
  have w1 : IntKind.i64.wrap ((i : Int) + 1) = ((i + 1 : Nat) : Int) := by rw [w64 (by omega) (by omega)]; push_cast; rfl
  -- the starts
  have x1 := Ext.mk (h := h) (.cells [.int .i64 a] 3 0)
  have n1 : (h.mk' h.next (.cells [.int .i64 a] 3 0)).next = h.next + 1 := by rw [mk_next]; omega
  have ok1 := hins (H := h.mk' h.next (.cells [.int .i64 a] 3 0)) (b := b) (n := m.starts.length) (cap := m.starts.length) (i := i + 1) (vb := h.next) ((x1.2 b q3).trans hgs) (ic_len _) (ic_one _) rfl (by omega) (by rw [Heap.get_mk, if_pos rfl]) (by omega) (by omega)
  rw [n1, ins_ic] at ok1
  have k2 : ∀ c, c < h.next → c ≠ b → (((h.mk' h.next (.cells [.int .i64 a] 3 0)).put b .dead).mk' (h.next + 1) (.cells (ic (ins m.starts (i + 1) a)) 3 0)).get c = h.get c := fun c hc hb => by rw [Heap.get_mk, if_neg (by omega), Heap.get_put, if_neg hb, Heap.get_mk, if_neg (by omega)]
  have g2 : (((h.mk' h.next (.cells [.int .i64 a] 3 0)).put b .dead).mk' (h.next + 1) (.cells (ic (ins m.starts (i + 1) a)) 3 0)).get (h.next + 1) = some (.cells (ic (ins m.starts (i + 1) a)) 3 0) := by rw [Heap.get_mk, if_pos rfl]
  have n2 : (((h.mk' h.next (.cells [.int .i64 a] 3 0)).put b .dead).mk' (h.next + 1) (.cells (ic (ins m.starts (i + 1) a)) 3 0)).next = h.next + 2 := by rw [mk_next, put_next, n1]; omega
  simp only [blkC, v32, blk, t3, t5, t8, t9, gd, gc, gm, w1, RX, VOp.fresh, bxC, bsC, un, most, callsOf, seval, Int.reducePow, ↓reduceIte, Nat.reduceEqDiff, reduceCtorEq]
  refine ok1.cl ?_
  generalize ((h.mk' h.next (.cells [.int .i64 a] 3 0)).put b .dead).mk' (h.next + 1) (.cells (ic (ins m.starts (i + 1) a)) 3 0) = h2 at *
  have gd2 := (k2 d ld (Ne.symm hbd)).trans gd
  simp only [t9, gd2, RW, RX, VOp.fresh, bxC, bsC, un, most, callsOf, seval, Int.reducePow, ↓reduceIte, Nat.reduceEqDiff, reduceCtorEq]
  -- the owners
  have k3 : ∀ c, c < h.next → c ≠ b → c ≠ d → (h2.put d (.cells [.int .i64 (m.epoch + 1), .sl (h.next + 1) 0 (m.starts.length + 1) (m.starts.length + 1) 1, .sl b' 0 m.owners.length m.owners.length 1] ed (vd + 1))).get c = h.get c := fun c hc hb hd => by rw [Heap.get_put, if_neg hd]; exact k2 c hc hb
  have g3 : (h2.put d (.cells [.int .i64 (m.epoch + 1), .sl (h.next + 1) 0 (m.starts.length + 1) (m.starts.length + 1) 1, .sl b' 0 m.owners.length m.owners.length 1] ed (vd + 1))).get (h.next + 1) = some (.cells (ic (ins m.starts (i + 1) a)) 3 0) := by rw [Heap.get_put, if_neg (by omega)]; exact g2
  have n3 : (h2.put d (.cells [.int .i64 (m.epoch + 1), .sl (h.next + 1) 0 (m.starts.length + 1) (m.starts.length + 1) 1, .sl b' 0 m.owners.length m.owners.length 1] ed (vd + 1))).next = h.next + 2 := by rw [put_next, n2]
  have gd3 : (h2.put d (.cells [.int .i64 (m.epoch + 1), .sl (h.next + 1) 0 (m.starts.length + 1) (m.starts.length + 1) 1, .sl b' 0 m.owners.length m.owners.length 1] ed (vd + 1))).get d = some (.cells [.int .i64 (m.epoch + 1), .sl (h.next + 1) 0 (m.starts.length + 1) (m.starts.length + 1) 1, .sl b' 0 m.owners.length m.owners.length 1] ed (vd + 1)) := by rw [Heap.get_put, if_pos rfl]
  generalize h2.put d (.cells [.int .i64 (m.epoch + 1), .sl (h.next + 1) 0 (m.starts.length + 1) (m.starts.length + 1) 1, .sl b' 0 m.owners.length m.owners.length 1] ed (vd + 1)) = h3 at *
  obtain ⟨r, ht, hia⟩ := getInt hu i (by omega)
  have x4 := Ext.mk (h := h3) (.cells [.int .i64 (m.owners.getD i 0)] 3 0)
  rw [n3] at x4
  have n4 : (h3.mk' (h.next + 2) (.cells [.int .i64 (m.owners.getD i 0)] 3 0)).next = h.next + 3 := by rw [mk_next, n3]; omega
  have ok2 := hins (H := h3.mk' (h.next + 2) (.cells [.int .i64 (m.owners.getD i 0)] 3 0)) (b := b') (n := m.owners.length) (cap := m.owners.length) (i := i + 1) (vb := h.next + 2) ((x4.2 b' (by omega)).trans ((k3 b' p3 (Ne.symm hne) hbd').trans hgo)) (ic_len _) (ic_one _) rfl (by omega) (by rw [Heap.get_mk, if_pos rfl]) (by omega) (by omega)
  rw [n4, ins_ic] at ok2
  have gm3 := (k3 N (by omega) (by omega) (by omega)).trans gm
  have hNd : ¬ d = h.next + 2 := by omega
  have hNd3 : ¬ d = h.next + 3 := by omega
  have gd4 := (x4.2 d (by omega)).trans gd3
  have gdb : ¬ d = b' := Ne.symm hbd'
  have gd5 : (((h3.mk' (h.next + 2) (.cells [.int .i64 (m.owners.getD i 0)] 3 0)).put b' .dead).mk' (h.next + 3) (.cells (ic (ins m.owners (i + 1) (m.owners.getD i 0))) 3 0)).get d = some (.cells [.int .i64 (m.epoch + 1), .sl (h.next + 1) 0 (m.starts.length + 1) (m.starts.length + 1) 1, .sl b' 0 m.owners.length m.owners.length 1] ed (vd + 1)) := by rw [Heap.get_mk, if_neg hNd3, Heap.get_put, if_neg gdb]; exact gd4
  have kf : ∀ c, c < h.next + 2 → c ≠ b' → (((h3.mk' (h.next + 2) (.cells [.int .i64 (m.owners.getD i 0)] 3 0)).put b' .dead).mk' (h.next + 3) (.cells (ic (ins m.owners (i + 1) (m.owners.getD i 0))) 3 0)).get c = h3.get c := fun c hc hb => by rw [Heap.get_mk, if_neg (by omega), Heap.get_put, if_neg hb, Heap.get_mk, if_neg (by omega)]
  have gf : (((h3.mk' (h.next + 2) (.cells [.int .i64 (m.owners.getD i 0)] 3 0)).put b' .dead).mk' (h.next + 3) (.cells (ic (ins m.owners (i + 1) (m.owners.getD i 0))) 3 0)).get (h.next + 3) = some (.cells (ic (ins m.owners (i + 1) (m.owners.getD i 0))) 3 0) := by rw [Heap.get_mk, if_pos rfl]
  have nf : (((h3.mk' (h.next + 2) (.cells [.int .i64 (m.owners.getD i 0)] 3 0)).put b' .dead).mk' (h.next + 3) (.cells (ic (ins m.owners (i + 1) (m.owners.getD i 0))) 3 0)).next = h.next + 4 := by rw [mk_next, put_next, n4]; omega
  generalize hF : ((h3.mk' (h.next + 2) (.cells [.int .i64 (m.owners.getD i 0)] 3 0)).put b' .dead).mk' (h.next + 3) (.cells (ic (ins m.owners (i + 1) (m.owners.getD i 0))) 3 0) = h5 at *
  refine EvD.lk (fun _ _ _ => (.sl (h.next + 3) 0 (m.owners.length + 1) (m.owners.length + 1) 1, h5)) ?_
  simp only [t3, t8, t9, gd3, gm3, n3, hia, w1, ok2, gd5, RW, RX, VOp.fresh, bxC, bsC, un, most, callsOf, seval, Int.reducePow, ↓reduceIte, Nat.reduceEqDiff, reduceCtorEq]
  refine ⟨⟨⟨?_, trivial⟩, trivial⟩, ?_⟩
  · show Lk _ _ _ _
    simp only [Lk, wanted, gd4, RX, VOp.fresh, bxC, bsC, un, most, callsOf, seval, Int.reducePow, ↓reduceIte, Nat.reduceEqDiff, reduceCtorEq]
  have x5 : ∀ c X e2 v2, c < h.next → c ≠ b → c ≠ b' → c ≠ d → (h5.put d (.cells X e2 v2)).get c = h.get c := fun c X e2 v2 hc hb hb' hd => by
    rw [Heap.get_put, if_neg hd, kf c (by omega) hb']; exact k3 c hc hb hd
  have y1 : ∀ X e2 v2, (h5.put d (.cells X e2 v2)).get (h.next + 1) = some (.cells (ic (ins m.starts (i + 1) a)) 3 0) := fun X e2 v2 => by
    rw [Heap.get_put, if_neg (by omega), kf _ (by omega) (by omega)]; exact g3
  have y2 : ∀ X e2 v2, (h5.put d (.cells X e2 v2)).get (h.next + 3) = some (.cells (ic (ins m.owners (i + 1) (m.owners.getD i 0))) 3 0) := fun X e2 v2 => by
    rw [Heap.get_put, if_neg (by omega)]; exact gf
  have li : (ins m.starts (i + 1) a).length = m.starts.length + 1 := ins_len (by omega) _
  have lo : (ins m.owners (i + 1) (m.owners.getD i 0)).length = m.owners.length + 1 := ins_len (by omega) _
  refine hK _ _ (fun j hj => by simp only [sg_set]; repeat rw [if_neg (by omega)]) ⟨⟨.sl (h.next + 1) 0 (m.starts.length + 1) (m.starts.length + 1) 1, .sl (h.next + 3) 0 (m.owners.length + 1) (m.owners.length + 1) 1, h.next + 1, h.next + 3, ?_, ?_, ?_, by omega, by omega, by omega⟩, hd⟩ (by rw [put_next, nf]; omega) fun c hc => x5 c _ _ _ (by omega) (by omega) (by omega) (by omega)
  · intro p hp
    simp only [List.mem_cons, List.not_mem_nil, or_false] at hp
    rcases hp with rfl | rfl | rfl | rfl
    · exact ⟨by rw [put_next, nf]; simp only; omega, _, _, by rw [Heap.get_put, if_pos rfl]; rfl⟩
    · exact ⟨by rw [put_next, nf]; simp only; omega, _, _, (x5 _ _ _ _ (by omega) (by omega) (by omega) (by omega)).trans gm⟩
    · exact ⟨by rw [put_next, nf]; simp only; omega, _, _, (x5 _ _ _ _ (by omega) (by omega) (by omega) (by omega)).trans gc⟩
    · exact ⟨by rw [put_next, nf]; simp only; omega, _, _, (x5 _ _ _ _ (by omega) (by omega) (by omega) (by omega)).trans gz⟩
  · refine ⟨m.starts.length + 1, _, _, [], ?_, by omega, by rw [put_next, nf]; omega, (y1 _ _ _).trans (by rw [List.append_nil]; rfl), rfl⟩
    show _ = AV.sl _ 0 (ins m.starts (i + 1) a).length _ _
    rw [li]
  · refine ⟨m.owners.length + 1, _, _, [], ?_, by omega, by rw [put_next, nf]; omega, (y2 _ _ _).trans (by rw [List.append_nil]; rfl), rfl⟩
    show _ = AV.sl _ 0 (ins m.owners (i + 1) (m.owners.getD i 0)).length _ _
    rw [lo]
end
end Go.Proofs.Ythmkenkjfmbkiaa.VM
namespace Go.Proofs.Ythmkenkjfmbkiaa.VM
attribute [local irreducible] Af Nx EvO Ev Un Gd Cd EvR EvQ EvC Nc Gc Lp EvM NxM AfM GdM EvMR EvMQ EvMD EvMC Nm Gm
/-- what the map is told as -/
def toldMp (x : Mp) : AV := .agg [.int .i64 x.epoch, tI x.starts, tI x.owners]
/-- when there is none -/
def ChErr (nodes : Int) (m : Mp) (k a t e : Int) : Prop := (¬ ChP nodes m k a ∧ e = 700) ∨ (ChP nodes m k a ∧ m.epoch = 65535 ∧ e = 701) ∨ (ChP nodes m k a ∧ m.epoch ≠ 65535 ∧ e = 700 ∧ ∃ i, IxAt m.starts a i ∧ ((k = 2 ∧ i + 1 = m.starts.length) ∨ ¬ mpOk nodes (chgR m k a t i)))
/-- when there is one -/
def ChYes (nodes : Int) (m : Mp) (k a t : Int) (i : Nat) : Prop := ChP nodes m k a ∧ m.epoch ≠ 65535 ∧ IxAt m.starts a i ∧ ¬ (k = 2 ∧ i + 1 = m.starts.length) ∧ mpOk nodes (chgR m k a t i)
theorem mem_ins {l : List Int} {i : Nat} {x y : Int} (h : y ∈ ins l i x) : y = x ∨ y ∈ l := by
  simp only [ins, List.mem_append, List.mem_cons] at h
  rcases h with h | h | h
  · exact .inr (List.mem_of_mem_take h)
  · exact .inl h
  · exact .inr (List.mem_of_mem_drop h)
theorem getD_mem {l : List Int} {i : Nat} (h : i < l.length) : l.getD i 0 ∈ l := by
  rw [List.getD_eq_getElem?_getD, List.getElem?_eq_getElem h]; exact List.getElem_mem h
theorem cat_i64 {l : List Int} {c : List AV} (h : Cat RInt l c) : ∀ x ∈ l, I64 x := by
  induction h with
  | nil => intro x hx; simp at hx
  | cons h t ih =>
    intro x hx
    rcases List.mem_cons.1 hx with rfl | hx
    · exact h.2
    · exact ih x hx
theorem isL_i64 {l : List Int} {w : AV} (hw : IsL 8 RInt w l) : ∀ x ∈ l, I64 x := by
  rcases hw.2 with ⟨_, rfl⟩ | ⟨c, _, hc⟩
  · intro x hx; simp at hx
  · exact cat_i64 hc
section
variable {P : Program} {h : Heap} {s : T AV} {N d i : Nat} {m x : Mp} {v u sv ov : AV} {k a t nodes : Int} {Q : AV → Heap → Prop}
theorem chg_c (g : Pg P tab) (t1 : sg s 1 = .int .i64 nodes) (t6 : sg s 6 = .ptr (N + 2) 0) (t9 : sg s 9 = .ptr d 0) (c : CS h N d m x v u k a t)
    (h64s : ∀ y ∈ x.starts, I64 y) (h64o : ∀ y ∈ x.owners, I64 y) (l0 : 0 < x.starts.length) (l1 : 0 < x.owners.length) (l2 : x.starts.length ≤ 1000000) (l3 : x.owners.length ≤ 1000000)
    (q7 : ¬ mpOk nodes x → ∀ h', (h.next ≤ h'.next ∧ ∀ c, c < N → h'.get c = h.get c) → Q (.tup [.agg z3, .int .i64 700]) h')
    (qY : mpOk nodes x → ∀ h' sv ov b b', WRow h' N x.starts sv b → WRow h' N x.owners ov b' → b ≠ b' → (h.next ≤ h'.next ∧ ∀ c, c < N → h'.get c = h.get c) → Q (.tup [.agg [.int .i64 x.epoch, sv, ov], .int .i64 0]) h') : Ev P (rst 6 v32.body) s h (Un P [] (Fin v32.res Q)) := by
  obtain ⟨⟨sv, ov, b, b', H, ws, wo, hne, hbd, hbd'⟩, hd⟩ := c
  obtain ⟨ed, vd, gd⟩ := H.get (b := d) (.head _)
  obtain ⟨ez, vz, gz⟩ := H.get (b := N + 2) (.tail _ (.tail _ (.tail _ (.head _))))
  have lz := H.lt (b := N + 2) (.tail _ (.tail _ (.tail _ (.head _))))
  have os := ws.one
  have oo := wo.one
  have cs := ws.cells
  have co := wo.cells
  obtain ⟨cp, es, vs, zs, e1, q2, q3, _⟩ := id ws
  obtain ⟨cp', eo, vo, zo, e2, p2, p3, _⟩ := id wo
  have ha : Fzs true h [.agg [.int .i64 x.epoch, sv, ov], .int .i64 nodes] [toldMp x, .int .i64 nodes] :=
    .cons (.agg (.cons (.int _ _) (.cons (ws.fz l0 rfl) (.cons (wo.fz l1 rfl) .nil)))) (.cons (.int _ _) .nil)
  have hp := mapMay_pu g (nodes := nodes) (tI_is h64s l2) (tI_is h64o l3)
  have kp : ∀ (w : List AV) (e v c : Nat), c ≠ N + 2 → (h.put (N + 2) (.cells w e v)).get c = h.get c := fun w e v c hc => by rw [Heap.get_put, if_neg hc]
  simp only [v32, rst, t1, t9, gd, RW, RX, VOp.fresh, bxC, bsC, un, most, callsOf, seval, Int.reducePow, ↓reduceIte, Nat.reduceEqDiff, reduceCtorEq]
  refine hp.cl ha fun y => ?_
  rintro ⟨bb, rfl, hb⟩
  cases bb with
  | false =>
    simp only [t6, gz, RW, RX, VOp.fresh, bxC, bsC, un, most, callsOf, seval, Int.reducePow, ↓reduceIte, Nat.reduceEqDiff, reduceCtorEq]
    exact q7 (fun ok => by simpa using hb.2 ok) _ ⟨by rw [put_next]; exact Nat.le_refl _, fun c hc => kp _ _ _ _ (by omega)⟩
  | true =>
    simp only [t6, t9, gd, gz, os, oo, cs, co, RW, RX, VOp.fresh, bxC, bsC, un, most, callsOf, seval, Int.reducePow, ↓reduceIte, Nat.reduceEqDiff, reduceCtorEq]
    have f : ∀ {l v b} (w : List AV) (e ver : Nat), b ≠ N + 2 → WRow h (N + 3) l v b → WRow (h.put (N + 2) (.cells w e ver)) N l v b := fun w e ver hb wr => by
      obtain ⟨cap, e1, ver1, z, h1, h2, h3, h4⟩ := wr.frame (h' := h.put (N + 2) (.cells w e ver)) (by rw [put_next]; exact Nat.le_refl _) (kp _ _ _ _ hb)
      exact ⟨cap, e1, ver1, z, h1, by omega, h3, h4⟩
    refine qY (hb.1 rfl) _ sv ov b b' (f _ _ _ (by omega) ws) (f _ _ _ (by omega) wo) hne ⟨by rw [put_next]; exact Nat.le_refl _, fun c hc => kp _ _ _ _ (by omega)⟩
end
end Go.Proofs.Ythmkenkjfmbkiaa.VM
namespace Go.Proofs.Ythmkenkjfmbkiaa.VM
attribute [local irreducible] Af Nx EvO Ev Un Gd Cd EvR EvQ EvC Nc Gc Lp EvM NxM AfM GdM EvMR EvMQ EvMD EvMC Nm Gm
theorem ic_fz {r : Bool} {h : Heap} : ∀ l : List Int, Fzs r h (ic l) (ic l)
  | [] => .nil
  | _ :: l => .cons (.int _ _) (ic_fz l)
section
variable {P : Program} {h : Heap} {m : Mp} {v u : AV} {k a t nodes : Int}
theorem chgR_ok (hv : IsL 8 RInt v m.starts) (hu : IsL 8 RInt u m.owners) {i : Nat} (hk : 0 ≤ k ∧ k ≤ 2) (ha : I64 a) (ht : I64 t) (hi : IxAt m.starts a i) (hls : m.starts.length ≤ 32) (hlo : m.owners.length = m.starts.length) (hn : ¬ (k = 2 ∧ i + 1 = m.starts.length)) :
    (∀ y ∈ (chgR m k a t i).starts, I64 y) ∧ (∀ y ∈ (chgR m k a t i).owners, I64 y) ∧ 0 < (chgR m k a t i).starts.length ∧ 0 < (chgR m k a t i).owners.length ∧ (chgR m k a t i).starts.length ≤ 1000000 ∧ (chgR m k a t i).owners.length ≤ 1000000 := by
  have v64 := isL_i64 hv
  have u64 := isL_i64 hu
  have hi1 := hi.1
  unfold chgR
  split
  · have li : (ins m.starts (i + 1) a).length = m.starts.length + 1 := ins_len (by omega) _
    have lo : (ins m.owners (i + 1) (m.owners.getD i 0)).length = m.owners.length + 1 := ins_len (by omega) _
    refine ⟨fun y hy => (mem_ins hy).elim (fun e => e ▸ ha) (v64 y), fun y hy => (mem_ins hy).elim (fun e => e ▸ u64 _ (getD_mem (by omega))) (u64 y), ?_, ?_, ?_, ?_⟩ <;> simp only [li, lo] <;> omega
  · split
    · refine ⟨v64, fun y hy => (List.mem_or_eq_of_mem_set hy).elim (u64 y) (fun e => e ▸ ht), ?_, ?_, ?_, ?_⟩ <;> simp only [List.length_set] <;> omega
    · have li : (m.starts.eraseIdx (i + 1)).length = m.starts.length - 1 := List.length_eraseIdx_of_lt (by omega)
      have lo : (m.owners.eraseIdx (i + 1)).length = m.owners.length - 1 := List.length_eraseIdx_of_lt (by omega)
      refine ⟨fun y hy => v64 y (List.mem_of_mem_eraseIdx hy), fun y hy => u64 y (List.mem_of_mem_eraseIdx hy), ?_, ?_, ?_, ?_⟩ <;> simp only [li, lo] <;> omega
theorem change_cl (g : Pg P tab) (hins : InsOk P) (hv : IsL 8 RInt v m.starts) (hu : IsL 8 RInt u m.owners) (ha : I64 a) (ht : I64 t) {Q : AV → Heap → Prop}
    (q7 : ∀ h' e, Ext h h' → ChErr nodes m k a t e → Q (.tup [.agg z3, .int .i64 e]) h')
    (qY : ∀ h' i sv ov b b', ChYes nodes m k a t i → WRow h' h.next (chgR m k a t i).starts sv b → WRow h' h.next (chgR m k a t i).owners ov b' → b ≠ b' → Ext h h' → Q (.tup [.agg [.int .i64 (chgR m k a t i).epoch, sv, ov], .int .i64 0]) h') :
    Cl P 32 [.agg [.int .i64 m.epoch, v, u], .int .i64 nodes, .agg [.int .i64 k, .int .i64 a, .int .i64 t]] h Q := by
  refine g.cl (vf := v32) rfl rfl ?_
  have e0 : v32.body = .seq (blkC 0) (.seq (blkC 1) (.seq (blkC 2) (.seq (blkC 3) (.seq (blkC 4) (.seq (blkC 5) (rst 6 v32.body)))))) := rfl
  rw [e0]
  refine chg_a g hv hu (fun h' e x c => q7 h' e x (c.elim .inl fun c => .inr (.inl c))) ?_
  rintro pre he s2 h2 i sv ov hi t1 t3 t5 t6 t8 ⟨d, t9, hd, H, b, b', ws, wo, hne, hbd, hbd', e1, w1, e2, w2, g1, g2, rfl, rfl⟩ x2
  have x2n := x2.1
  obtain ⟨⟨p1, p2, p3, p4, p5, p6, p7, p8, p9⟩, k0, k2, a0, a1⟩ := id pre
  have hi1 := hi.1
  -- what is left
  have rest : ¬ (k = 2 ∧ i + 1 = m.starts.length) → ∀ s' h', (∀ j, j < 10 → sg s' j = sg s2 j) → CS h' h.next d m (chgR m k a t i) v u k a t → h2.next ≤ h'.next → (∀ c, c < h.next → h'.get c = h2.get c) → Ev P (rst 6 v32.body) s' h' (Un P [] (Fin v32.res Q)) := fun hn s' h' ks c3 n3 k3 => by
    obtain ⟨r1, r2, r3, r4, r5, r6⟩ := chgR_ok hv hu ⟨k0, k2⟩ ha ht hi p6 p7 hn
    refine chg_c g ((ks 1 (by omega)).trans t1) ((ks 6 (by omega)).trans t6) ((ks 9 (by omega)).trans t9) c3 r1 r2 r3 r4 r5 r6 (fun no h4 x4 => ?_) fun ok h4 sv ov b b' ws wo hne x4 => ?_
    · exact q7 h4 700 ⟨Nat.le_trans (Nat.le_trans x2n n3) x4.1, fun c hc => (x4.2 c hc).trans ((k3 c hc).trans (x2.2 c hc))⟩ (.inr (.inr ⟨pre, he, rfl, i, hi, .inr no⟩))
    · exact qY h4 i sv ov b b' ⟨pre, he, hi, hn, ok⟩ ws wo hne ⟨Nat.le_trans (Nat.le_trans x2n n3) x4.1, fun c hc => (x4.2 c hc).trans ((k3 c hc).trans (x2.2 c hc))⟩
  by_cases c0 : k = 0
  · subst c0
    rw [ev_seq]
    refine chg_split g hins t3 t5 t8 t9 hd H hu p6 p7 ws wo hne hbd hbd' g1 g2 rfl rfl hi1 fun s' h' ks c3 n3 k3 => ?_
    rw [un_seq]; exact rest (by simp) s' h' ks c3 n3 k3
  by_cases c1 : k = 1
  · subst c1
    rw [ev_seq]
    refine chg_give g t5 t8 t9 hd H ws wo hne hbd hbd' g2 rfl (by omega) fun s' h' ks c3 n3 k3 => ?_
    rw [un_seq]; exact rest (by simp) s' h' ks c3 n3 k3
  obtain rfl : k = 2 := by omega
  by_cases hl : i + 1 = m.starts.length
  · obtain ⟨ec, vc, gc⟩ := H.get (b := h.next + 1) (.tail _ (.tail _ (.head _)))
    obtain ⟨em, vm, gm⟩ := H.get (b := h.next) (.tail _ (.head _))
    obtain ⟨ez, vz, gz⟩ := H.get (b := h.next + 2) (.tail _ (.tail _ (.tail _ (.head _))))
    have w1 : IntKind.i64.wrap ((i : Int) + 1) = ((m.starts.length : Nat) : Int) := by rw [w64 (by omega) (by omega)]; omega
    simp only [blkC, v32, blk, t3, t5, t6, t8, t9, gc, gm, gz, hv.len, w1, RW, RX, VOp.fresh, bxC, bsC, un, most, callsOf, seval, Int.reducePow, ↓reduceIte, Nat.reduceEqDiff, reduceCtorEq]
    exact q7 _ 700 ⟨by rw [put_next]; exact x2n, fun c hc => by rw [Heap.get_put, if_neg (by omega)]; exact x2.2 c hc⟩ (.inr (.inr ⟨pre, he, rfl, i, hi, .inl ⟨rfl, hl⟩⟩))
  · rw [ev_seq]
    refine chg_join g t3 t5 t8 t9 hd H hv p6 p7 ws wo hne hbd hbd' g1 g2 rfl rfl (by omega) fun s' h' ks c3 n3 k3 => ?_
    rw [un_seq]; exact rest (by simp; exact hl) s' h' ks c3 n3 k3
end
end Go.Proofs.Ythmkenkjfmbkiaa.VM
namespace Go.Proofs.Ythmkenkjfmbkiaa.VM
attribute [local irreducible] Af Nx EvO Ev Un Gd Cd EvR EvQ EvC Nc Gc Lp EvM NxM AfM GdM EvMR EvMQ EvMD EvMC Nm Gm
/-- slices.Insert, told -/
def insX : Told := fun f args h => bif Nat.beq f 60 then
    match args with
    | [.sl b 0 n cap 1, .int .i64 (.ofNat i), .sl vb 0 1 1 1] => match h.get b, h.get vb with
      | some (.cells cs _ _), some (.cells [x] _ _) => bif Nat.beq cs.length n && cs.all AV.one && x.one && Nat.ble i n && !(Nat.beq vb b) && Nat.ble n 999999 then
          some (.sl h.next 0 (n + 1) (n + 1) 1, (h.put b .dead).mk' h.next (.cells (cs.take i ++ x :: cs.drop i) 3 0)) else none
      | _, _ => none
    | _ => none
  else none
theorem insX_ok {P : Program} (hins : InsOk P) : CallOk P insX := by
  intro f args h v h' e
  unfold insX at e
  rw [T.beq_dec] at e
  by_cases hf : f = 60
  · rw [decide_eq_true hf, cond_true] at e
    subst hf
    split at e
    · split at e
      · rename_i b n cap i vb _ _ cs e1 w1 x e2 w2 g1 g2
        cases hc : (Nat.beq cs.length n && cs.all AV.one && x.one && Nat.ble i n && !(Nat.beq vb b) && Nat.ble n 999999) with
        | false => rw [hc, cond_false] at e; cases e
        | true =>
          rw [hc, cond_true] at e
          cases e
          simp only [Bool.and_eq_true, Bool.not_eq_true', Nat.beq_eq, Nat.ble_eq] at hc
          obtain ⟨⟨⟨⟨⟨a1, a2⟩, a3⟩, a4⟩, a5⟩, a6⟩ := hc
          exact hins g1 a1 a2 a3 a4 g2 (fun e => by rw [e, Nat.beq_refl] at a5; cases a5) (by omega)
      · cases e
    · cases e
  · rw [decide_eq_false hf, cond_false] at e; cases e
section
variable {P : Program} {F : Nat → Option VFun}
theorem Pg.runX (g : Pg P F) {X : Told} (hX : CallOk P X) {n f : Nat} {args : List AV} {w : AV} (hv : (vcall F X n f args ⟨0, .e⟩).bind (fun r => fz false r.2 40 r.1) = some w) : Pu P f args (fun v => v = w) := by
  obtain ⟨⟨v, h'⟩, e1, e2⟩ := Option.bind_eq_some_iff.1 hv
  exact ⟨_, _, h', (vm_ok (drawn_ok g.hm) g.tb hX n).2.2 f args _ _ _ e1, fz_ok _ _ _ e2, rfl⟩
/-- the first map -/
def fstM (n : Int) : Mp := ⟨1, (List.range n.toNat).map (fun (i : Nat) => (i : Int) * 4294967296 / n), (List.range n.toNat).map (fun (i : Nat) => (i : Int))⟩
end
end Go.Proofs.Ythmkenkjfmbkiaa.VM
namespace Go.Proofs.Ythmkenkjfmbkiaa.VM
attribute [local irreducible] Af Nx EvO Ev Un Gd Cd EvR EvQ EvC Nc Gc Lp EvM NxM AfM GdM EvMR EvMQ EvMD EvMC Nm Gm
section
variable {P : Program}
theorem fst_len (n : Nat) : (fstM (n : Int)).starts.length = n ∧ (fstM (n : Int)).owners.length = n := by simp [fstM]
theorem fst_at {n i : Nat} (h : i < n) : (fstM (n : Int)).starts.getD i 0 = (i : Int) * 4294967296 / (n : Int) ∧ (fstM (n : Int)).owners.getD i 0 = (i : Int) := by
  simp [fstM, List.getD_eq_getElem?_getD, h]
theorem fst_i64 (n : Nat) (h0 : 1 ≤ n) (h : n ≤ 8) : (∀ x ∈ (fstM (n : Int)).starts, I64 x) ∧ (∀ x ∈ (fstM (n : Int)).owners, I64 x) := by
  constructor
  · intro x hx
    simp only [fstM, Int.toNat_natCast, List.mem_map, List.mem_range] at hx
    obtain ⟨i, hi, rfl⟩ := hx
    have h1 : (i : Int) * 4294967296 / (n : Int) ≤ (i : Int) * 4294967296 := Int.ediv_le_self _ (by omega)
    have h2 : 0 ≤ (i : Int) * 4294967296 / (n : Int) := Int.ediv_nonneg (by omega) (by omega)
    exact ⟨by omega, by omega⟩
  · intro x hx
    simp only [fstM, Int.toNat_natCast, List.mem_map, List.mem_range] at hx
    obtain ⟨i, hi, rfl⟩ := hx
    exact ⟨by omega, by omega⟩
theorem fst_ok (n : Nat) (h0 : 1 ≤ n) (h : n ≤ 8) : mpOk (n : Int) (fstM (n : Int)) := by
  have h1 := (fst_len n).1
  have h2 := (fst_len n).2
  refine ⟨by omega, by omega, (by show (1:Int) ≤ 1; omega), (by show (1:Int) ≤ 65535; omega), by omega, by omega, by omega, ?_, fun i hi => ?_⟩
  · rw [(fst_at (by omega)).1]; simp
  · rw [h1] at hi
    unfold mpAt
    rw [(fst_at hi).1, (fst_at hi).2]
    refine ⟨?_, ?_, by omega, by omega⟩
    · rw [Int.ediv_lt_iff_lt_mul (by omega)]
      rw [Int.mul_comm]
      exact Int.mul_lt_mul_of_pos_left (by omega) (by omega)
    · rcases Nat.eq_zero_or_pos i with e | e
      · exact .inl e
      · refine .inr ?_
        rw [(fst_at (n := n) (i := i - 1) (by omega)).1]
        have e1 : n = 1 ∨ n = 2 ∨ n = 3 ∨ n = 4 ∨ n = 5 ∨ n = 6 ∨ n = 7 ∨ n = 8 := by omega
        rcases e1 with rfl | rfl | rfl | rfl | rfl | rfl | rfl | rfl <;> omega
end
end Go.Proofs.Ythmkenkjfmbkiaa.VM
namespace Go.Proofs.Ythmkenkjfmbkiaa.VM
theorem ins_getD {l : List Int} {i : Nat} {x : Int} (h : i < l.length) (j : Nat) : (ins l (i + 1) x).getD j 0 = if j ≤ i then l.getD j 0 else if j = i + 1 then x else l.getD (j - 1) 0 := by
  have hl : (l.take (i + 1)).length = i + 1 := by rw [List.length_take]; omega
  unfold ins
  rw [List.getD_eq_getElem?_getD]
  by_cases h1 : j ≤ i
  · rw [if_pos h1, List.getElem?_append_left (by omega), List.getElem?_take_of_lt (by omega), List.getD_eq_getElem?_getD]
  · rw [if_neg h1, List.getElem?_append_right (by omega), hl]
    by_cases h2 : j = i + 1
    · rw [if_pos h2, h2, Nat.sub_self]; rfl
    · rw [if_neg h2, show j - (i + 1) = (j - 1 - (i + 1)) + 1 by omega, List.getElem?_cons_succ, List.getElem?_drop, List.getD_eq_getElem?_getD, show i + 1 + (j - 1 - (i + 1)) = j - 1 by omega]
end Go.Proofs.Ythmkenkjfmbkiaa.VM
namespace Go.Proofs.Ythmkenkjfmbkiaa.VM
attribute [local irreducible] Af Nx EvO Ev Un Gd Cd EvR EvQ EvC Nc Gc Lp EvM NxM AfM GdM EvMR EvMQ EvMD EvMC Nm Gm
/-- a struct handed over -/
theorem open_agg {w : World} {v : Value} {avs : List AV} (h : VRs none0 w avs v.cells.toList) (hl : avs.length ≠ 1) : VR none0 w (.agg avs) v := by
  cases v with
  | agg cs => exact .agg h
  | _ => exact absurd h.length hl
theorem setI_getD {l : List Int} {n j : Nat} {d : Int} (h : j < l.length) : (l.set n d).getD j 0 = if j = n then d else l.getD j 0 := by
  rw [List.getD_eq_getElem?_getD, List.getElem?_set, List.getD_eq_getElem?_getD]
  by_cases e : n = j
  · rw [if_pos e, if_pos e.symm, if_pos (by omega)]; rfl
  · rw [if_neg e, if_neg (Ne.symm e)]
end Go.Proofs.Ythmkenkjfmbkiaa.VM
namespace Go.Proofs.Ythmkenkjfmbkiaa.VM
attribute [local irreducible] Af Nx EvO Ev Un Gd Cd EvR EvQ EvC Nc Gc Lp EvM NxM AfM GdM EvMR EvMQ EvMD EvMC Nm Gm
section
variable {P : Program}
theorem clonePts_cl (g : Pg P tab) {r : List Pt} {w : AV} (hw : IsL 16 RPt w r) {h : Heap} {Q : AV → Heap → Prop}
    (q : ∀ v t h', Lv h' (h.next ≤ ·) v t → IsL 16 RPt t r → v.cells = some [v] → v.one = true → Ext h h' → Q v h') : Cl P 72 [w] h Q := by
  refine g.cl (vf := v72) rfl rfl ?_
  have hx := hw
  obtain ⟨hb, ⟨rfl, hl⟩ | ⟨c, rfl, hc⟩⟩ := hw
  · have e : eqv .sl .nils .nils = some true := rfl
    simp only [v72, HE, e, RX, VOp.fresh, bxC, bsC, un, most, callsOf, seval, Int.reducePow, ↓reduceIte, Nat.reduceEqDiff, reduceCtorEq]
    exact q .nils .nils _ .nils ⟨hb, .inl ⟨rfl, hl⟩⟩ rfl rfl (Ext.refl h)
  · have e : eqv .sl (.rs c r.length) .nils = some false := rfl
    have x1 := Ext.mk (h := h) (.cells [] 61 0)
    have n1 : (h.mk' h.next (.cells [] 61 0)).next = h.next + 1 := by rw [mk_next]; omega
    obtain ⟨v, h', t, a1, a2, a3, a4, a5, a6, a7⟩ := app_copy (bytes := 16) plainPt hx (h := h.mk' h.next (.cells [] 61 0)) (b := h.next) (by rw [Heap.get_mk, if_pos rfl]) 61
    rw [n1] at a2 a3 a4
    simp only [v72, HE, e, a1, RX, VOp.fresh, bxC, bsC, un, most, callsOf, seval, Int.reducePow, ↓reduceIte, Nat.reduceEqDiff, reduceCtorEq]
    exact q v t h' (a4.weak fun c hc _ => by omega) a5 a6 a7 ⟨by omega, fun b hb => (a3 b (by omega) (by omega)).trans (x1.2 b hb)⟩
theorem fcopy_loop (g : Pg P tab) {rs : List (List Pt)} {w : AV} (hw : IsL 24 RRing w rs) {R : Nat} (n : Nat) :
    ∀ (i : Nat) (A U : List AV) (s : T AV) (h : Heap) (k : List Fr) (Q : Ex → T AV → Heap → Prop), i + n = rs.length → R < h.next → (∃ e ver, h.get R = some (.cells (A ++ List.replicate n .nils) e ver)) → A.length = i → A.all AV.one = true → Lvs h (R < ·) A U → Cat RRing (rs.take i) U →
    sg s 3 = .sl R 0 rs.length rs.length 1 → sg s 11 = w → sg s 12 = .int .i64 rs.length → sg s 13 = .int .i64 i →
    (∀ s' h' A' U', (∃ e ver, h'.get R = some (.cells A' e ver)) → A'.length = rs.length → A'.all AV.one = true → Lvs h' (R < ·) A' U' → Cat RRing rs U' → (∀ b, b < h.next → b ≠ R → h'.get b = h.get b) → h.next ≤ h'.next → (∀ j, j < 4 → sg s' j = sg s j) → Un P k Q (.exit 0) s' h') → Lp P b46_0 s h (Un P k Q) := by
  have hbd := hw.bound (by decide)
  induction n with
  | zero =>
    intro i A U s h k Q hi hR ⟨e, ver, hg⟩ hA ho lv hc t3 t11 t12 t13 hQ
    refine g.lpe b46_0.eq_1 ?_
    have c1 : ¬ ((i : Int) < (rs.length : Int)) := by omega
    simp only [t3, t11, t12, t13, c1, RX, VOp.fresh, bxC, bsC, un, most, callsOf, seval, Int.reducePow, ↓reduceIte, Nat.reduceEqDiff, reduceCtorEq]
    have hi' : i = rs.length := by omega
    subst hi'
    rw [List.take_length] at hc
    rw [List.replicate_zero, List.append_nil] at hg
    exact hQ _ _ A U ⟨e, ver, hg⟩ hA ho lv hc (fun _ _ _ => rfl) (Nat.le_refl _) fun j hj => by simp only [sg_set]; repeat rw [if_neg (by omega)]
  | succ n ih =>
    intro i A U s h k Q hi hR ⟨e, ver, hg⟩ hA ho lv hc t3 t11 t12 t13 hQ
    refine g.lpe b46_0.eq_1 ?_
    have c1 : ((i : Int) < (rs.length : Int)) := by omega
    have w1 : IntKind.i64.wrap ((i : Int) + 1) = ((i + 1 : Nat) : Int) := by rw [w64 (by omega) (by omega)]; push_cast; rfl
    obtain ⟨ci, rr, ⟨va, rfl, hr⟩, hat⟩ := hw.at (fun a c ⟨v, e, _⟩ => by rw [e]; rfl) i (by omega)
    simp only [t3, t11, t12, t13, c1, hat, RX, VOp.fresh, bxC, bsC, un, most, callsOf, seval, Int.reducePow, ↓reduceIte, Nat.reduceEqDiff, reduceCtorEq]
    refine clonePts_cl g hr fun v t h1 lv1 is1 cl1 on1 x1 => ?_
    have hg1 := (x1.2 R hR).trans hg
    have hia : ∀ (hh : Heap) (q : IntKind), iaV hh 1 none (.sl R 0 rs.length rs.length 1) (.int q (i : Int)) = .val (.ptr R i) hh := fun hh q => by
      have : 0 ≤ (i : Int) ∧ (i : Int) < (rs.length : Int) ∧ 1 = 1 := ⟨by omega, by omega, rfl⟩
      simp only [iaV, this, and_self, if_true, Int.toNat_natCast, Nat.zero_add, Nat.mul_one]
    have hwr := wr_at hg1 (show i < (A ++ List.replicate (n + 1) AV.nils).length by rw [List.length_append, hA, List.length_replicate]; omega) on1
    have hset : (A ++ List.replicate (n + 1) AV.nils).set i v = (A ++ [v]) ++ List.replicate n AV.nils := by
      rw [List.set_append, if_neg (by omega), hA, Nat.sub_self, List.replicate_succ, List.set_cons_zero, List.append_assoc]; rfl
    rw [hset] at hwr
    have kp : ∀ c, c ≠ R → (h1.put R (.cells ((A ++ [v]) ++ List.replicate n AV.nils) e (ver + 1))).get c = h1.get c := fun c hc => by rw [Heap.get_put, if_neg hc]
    simp only [t3, t11, t12, t13, hia, hwr, cl1, w1, RW, RX, VOp.fresh, bxC, bsC, un, most, callsOf, seval, Int.reducePow, ↓reduceIte, Nat.reduceEqDiff, reduceCtorEq]
    refine ih (i + 1) (A ++ [v]) (U ++ [t]) _ _ k Q (by omega) (by rw [put_next]; exact Nat.lt_of_lt_of_le hR x1.1) ⟨e, ver + 1, by rw [Heap.get_put, if_pos rfl]⟩ (by rw [List.length_append, hA]; rfl) (by rw [List.all_append, ho]; simp [on1]) ?_ (hc.take (by omega) ⟨t, rfl, is1⟩) ?_ ?_ ?_ ?_ fun s' h' A' U' q1 q2 q3 q4 q5 q6 q7 q8 => ?_
    · have l1 : Lvs h1 (R < ·) (A ++ [v]) (U ++ [t]) := (lv.frame x1.1 fun b _ hb => x1.2 b hb).app (.cons (lv1.weak fun b hb _ => by omega) .nil)
      exact l1.frame (by rw [put_next]; exact Nat.le_refl _) fun b hb _ => kp b (by omega)
    · simp only [t3, sg_set, Nat.reduceEqDiff, ↓reduceIte]
    · simp only [t11, sg_set, Nat.reduceEqDiff, ↓reduceIte]
    · simp only [t12, sg_set, Nat.reduceEqDiff, ↓reduceIte]
    · simp only [sg_set, Nat.reduceEqDiff, ↓reduceIte]
    · refine hQ s' h' A' U' q1 q2 q3 q4 q5 (fun b hb hne => ?_) (by rw [put_next] at q7; exact Nat.le_trans x1.1 q7) fun j hj => ?_
      · rw [q6 b (by rw [put_next]; exact Nat.lt_of_lt_of_le hb x1.1) hne, kp b hne]; exact x1.2 b hb
      · rw [q8 j hj]; simp only [sg_set]; repeat rw [if_neg (by omega)]
theorem fcopy_cl (g : Pg P tab) {f : Feat} {c : List AV} (hf : RFeat f c) {h : Heap} {Q : AV → Heap → Prop}
    (q : ∀ c' t h', Lvs h' (h.next ≤ ·) c' t → RFeat f t → c'.length = 3 → c'.all AV.one = true → Ext h h' → Q (.agg c') h') : Cl P 46 [.agg c] h Q := by
  obtain ⟨w, rfl, h1, h2, hw⟩ := hf
  refine g.cl (vf := v46) rfl rfl ?_
  have hbd := hw.bound (by decide)
  have mS : ∀ (H : Heap) (nm : Nat), mkS H nm [.nils] 62 24 (.int .i64 (f.rings.length : Int)) (.int .i64 (f.rings.length : Int)) = .val (.sl nm 0 f.rings.length f.rings.length 1) (H.mk' nm (.cells (List.replicate f.rings.length .nils) 62 0)) := fun H nm => by
    have := hw.1
    rw [reach_eq] at this
    rw [mkS_ok (by omega) (by rw [Int.toNat_natCast]; omega) (by rw [Int.toNat_natCast]; omega), Int.toNat_natCast]
    have : (List.replicate f.rings.length [AV.nils]).flatten = List.replicate f.rings.length AV.nils := by simp
    rw [this]; rfl
  have ow := isL_one hw
  simp only [v46, HN, hw.len, mS, RW, RX, VOp.fresh, bxC, bsC, un, most, callsOf, seval, Int.reducePow, ↓reduceIte, Nat.reduceEqDiff, reduceCtorEq]
  have g0 : ∀ (X : Blk), (((h.mk' h.next (.cells [.int .i64 f.id, .int .i64 f.shape, w] 50 0)).mk' (h.next + 1) (.cells [.int .i64 0, .int .i64 0, .nils] 50 0)).mk' (h.next + 2) X).get h.next = some (.cells [.int .i64 f.id, .int .i64 f.shape, w] 50 0) := fun X => by
    rw [Heap.get_mk, if_neg (by omega), Heap.get_mk, if_neg (by omega), Heap.get_mk, if_pos rfl]
  have g1 : ∀ (X : Blk), (((h.mk' h.next (.cells [.int .i64 f.id, .int .i64 f.shape, w] 50 0)).mk' (h.next + 1) (.cells [.int .i64 0, .int .i64 0, .nils] 50 0)).mk' (h.next + 2) X).get (h.next + 1) = some (.cells [.int .i64 0, .int .i64 0, .nils] 50 0) := fun X => by
    rw [Heap.get_mk, if_neg (by omega), Heap.get_mk, if_pos rfl]
  have g2 : ∀ (X : Blk), (((h.mk' h.next (.cells [.int .i64 f.id, .int .i64 f.shape, w] 50 0)).mk' (h.next + 1) (.cells [.int .i64 0, .int .i64 0, .nils] 50 0)).mk' (h.next + 2) X).get (h.next + 2) = some X := fun X => by
    rw [Heap.get_mk, if_pos rfl]
  have n0 : ∀ (X : Blk), (((h.mk' h.next (.cells [.int .i64 f.id, .int .i64 f.shape, w] 50 0)).mk' (h.next + 1) (.cells [.int .i64 0, .int .i64 0, .nils] 50 0)).mk' (h.next + 2) X).next = h.next + 3 := fun X => by rw [mk_next, mk_next, mk_next]; omega
  have x0 : ∀ (X : Blk), Ext h (((h.mk' h.next (.cells [.int .i64 f.id, .int .i64 f.shape, w] 50 0)).mk' (h.next + 1) (.cells [.int .i64 0, .int .i64 0, .nils] 50 0)).mk' (h.next + 2) X) := fun X => ((Ext.refl h).mkn (Nat.le_refl _) _ |>.mkn (by omega) _).mkn (by omega) _
  have g0' := g0 (.cells (List.replicate f.rings.length .nils) 62 0)
  have g1' := g1 (.cells (List.replicate f.rings.length .nils) 62 0)
  have g2' := g2 (.cells (List.replicate f.rings.length .nils) 62 0)
  have n0' := n0 (.cells (List.replicate f.rings.length .nils) 62 0)
  have x0' := x0 (.cells (List.replicate f.rings.length .nils) 62 0)
  generalize ((h.mk' h.next (.cells [.int .i64 f.id, .int .i64 f.shape, w] 50 0)).mk' (h.next + 1) (.cells [.int .i64 0, .int .i64 0, .nils] 50 0)).mk' (h.next + 2) (.cells (List.replicate f.rings.length .nils) 62 0) = H at *
  clear g0 g1 g2 n0 x0
  refine fcopy_loop g hw (R := h.next + 2) f.rings.length 0 [] [] _ H _ _ (by omega) (by omega) ⟨62, 0, g2'⟩ rfl rfl .nil .nil ?_ ?_ ?_ ?_ fun s' h' A U ⟨e, ver, hA⟩ hl ho lv hc kp hn ks => ?_
  · simp only [sg_set, Nat.reduceEqDiff, ↓reduceIte]
  · simp only [sg_set, Nat.reduceEqDiff, ↓reduceIte]
  · simp only [sg_set, Nat.reduceEqDiff, ↓reduceIte]
  · simp only [sg_set, Nat.reduceEqDiff, ↓reduceIte]
    rfl
  have t1 : sg s' 1 = .ptr h.next 0 := (ks 1 (by decide)).trans (by simp only [sg_set, Nat.reduceEqDiff, ↓reduceIte])
  have t2 : sg s' 2 = .ptr (h.next + 1) 0 := (ks 2 (by decide)).trans (by simp only [sg_set, Nat.reduceEqDiff, ↓reduceIte])
  have t3 : sg s' 3 = .sl (h.next + 2) 0 f.rings.length f.rings.length 1 := (ks 3 (by decide)).trans (by simp only [sg_set, Nat.reduceEqDiff, ↓reduceIte])
  have gb := (kp h.next (by omega) (by omega)).trans g0'
  have gc := (kp (h.next + 1) (by omega) (by omega)).trans g1'
  simp only [t1, t2, t3, gb, gc, HN, RW, RX, VOp.fresh, bxC, bsC, un, most, callsOf, seval, Int.reducePow, ↓reduceIte, Nat.reduceEqDiff, reduceCtorEq]
  obtain ⟨tv, lr, ir⟩ : ∃ tv, Lv h' (h.next + 2 ≤ ·) (.sl (h.next + 2) 0 f.rings.length f.rings.length 1) tv ∧ IsL 24 RRing tv f.rings := by
    by_cases z : f.rings.length = 0
    · have z' : f.rings = [] := List.eq_nil_of_length_eq_zero z
      rw [z]
      exact ⟨.rs [] 0, ⟨[], .sl0, rfl, Own.nil, fun b hb => by simp at hb⟩, hw.1, .inr ⟨[], by rw [z], by rw [z']; exact .nil⟩⟩
    · refine ⟨.rs U f.rings.length, ?_, hw.1, .inr ⟨U, rfl, hc⟩⟩
      have := LR.lv (h := h') (B := (h.next + 2 ≤ ·)) (v := .sl (h.next + 2) 0 f.rings.length f.rings.length 1) (sz := 1) (t := U) (n := f.rings.length) ⟨A, .inr ⟨_, e, ver, rfl, by omega, by omega, by rw [hl, Nat.mul_one], hA⟩, lv.weak fun b hb _ => ⟨by omega, by simp [blkOf]; omega⟩, fun b hb => by simp [blkOf] at hb; omega⟩
      rwa [cRow_s _ (by omega)] at this
  refine q [.int .i64 f.id, .int .i64 f.shape, .sl (h.next + 2) 0 f.rings.length f.rings.length 1] [.int .i64 f.id, .int .i64 f.shape, tv] _ (((Lvs.cons .int (.cons .int (.cons lr .nil))).put (by omega) _ |>.put (by omega) _).weak fun c hc _ => by omega) ⟨tv, rfl, h1, h2, ir⟩ rfl rfl ⟨by simp only [put_next]; omega, fun b hb => ?_⟩
  rw [Heap.get_put, if_neg (by omega), Heap.get_put, if_neg (by omega), kp b (by omega) (by omega)]
  exact x0'.2 b hb
end
end Go.Proofs.Ythmkenkjfmbkiaa.VM
namespace Go.Proofs.Ythmkenkjfmbkiaa.VM
attribute [local irreducible] Af Nx EvO Ev Un Gd Cd EvR EvQ EvC Nc Gc Lp EvM NxM AfM GdM EvMR EvMQ EvMD EvMC Nm Gm
theorem ic_bare : ∀ l : List Int, AV.bares (ic l) = true
  | [] => rfl
  | _ :: l => by
    show (AV.bare _ && AV.bares (ic l)) = true
    rw [ic_bare l]; rfl
theorem WRow.lv {h : Heap} {N b : Nat} {l : List Int} {v : AV} (w : WRow h N l v b) (h0 : 0 < l.length) : Lv h (· = b) v (tI l) := by
  obtain ⟨cap, e, ver, z, rfl, h2, h3, h4, h5⟩ := w
  refine ⟨[b], (Fd.sl (cs := ic l) (cs' := ic l) (D := []) h0 h3 h4 ?_ (Fds.tolds (ic_told l))).cast rfl, rfl, ?_, fun c hc => by simpa using hc⟩
  · rw [cut_eq, List.drop_zero, Nat.mul_one, List.take_left' (ic_len l), if_pos (ic_len l)]
  · intro c hc
    obtain rfl : c = b := by simpa using hc
    exact ⟨_, e, ver, h4, by rw [bares_app, ic_bare, h5]; rfl⟩
/-- what is put for a feature -/
def putF (f : Feat) : Op := ⟨0, f, 0, ⟨0, [], []⟩⟩
def mapO (M : Mp) : Op := ⟨2, ⟨0, 0, []⟩, 0, M⟩
def rsO (M : Mp) (fs : List Feat) : List Op := mapO M :: fs.map putF
def RPut (f : Feat) (c : List AV) : Prop := ∃ v, c = [.int .i64 0, .int .i64 f.id, .int .i64 f.shape, v, .int .i64 0, .int .i64 0, .nils, .nils] ∧ I64 f.id ∧ I64 f.shape ∧ IsL 24 RRing v f.rings
theorem RPut.op {f : Feat} {c : List AV} (h : RPut f c) : ROp (putF f) c := by
  obtain ⟨v, rfl, h1, h2, h3⟩ := h
  exact ⟨v, .nils, .nils, rfl, ⟨by show -9223372036854775808 ≤ (0 : Int); omega, by show (0 : Int) ≤ 9223372036854775807; omega⟩, h1, h2, h3, ⟨by show -9223372036854775808 ≤ (0 : Int); omega, by show (0 : Int) ≤ 9223372036854775807; omega⟩, ⟨by show -9223372036854775808 ≤ (0 : Int); omega, by show (0 : Int) ≤ 9223372036854775807; omega⟩, isL_nil 8 RInt, isL_nil 8 RInt⟩
theorem i64_0 : I64 0 := ⟨by omega, by omega⟩
theorem Cat.put {fs : List Feat} {tc : List AV} (h : Cat RPut fs tc) : Cat ROp (fs.map putF) tc := by
  induction h with
  | nil => exact .nil
  | cons h t ih => exact .cons h.op ih
section
variable {P : Program}
theorem rops_loop (g : Pg P tab) {fs : List Feat} {w : AV} (hw : IsL 40 RFeat w fs) (hsm : fs.length ≤ 31) {N0 : Nat} {T0 : List AV} (n : Nat) :
    ∀ (i : Nat) (tc : List AV) (s : T AV) (h : Heap) (k : List Fr) (Q : Ex → T AV → Heap → Prop), i + n = fs.length → N0 ≤ h.next → LR h (N0 ≤ ·) (sg s 12) 8 (T0 ++ tc) (i + 1) → Cat RPut (fs.take i) tc →
    sg s 32 = w → sg s 33 = .int .i64 fs.length → sg s 34 = .int .i64 i →
    (∀ s' h' tc', LR h' (N0 ≤ ·) (sg s' 12) 8 (T0 ++ tc') (fs.length + 1) → Cat RPut fs tc' → (∀ b, b < N0 → h'.get b = h.get b) → N0 ≤ h'.next → (∀ j, j < 10 → sg s' j = sg s j) → Un P k Q (.exit 0) s' h') → Lp P b14_0 s h (Un P k Q) := by
  induction n with
  | zero =>
    intro i tc s h k Q hi hh r hc t32 t33 t34 hQ
    refine g.lpe b14_0.eq_1 ?_
    have c1 : ¬ ((i : Int) < (fs.length : Int)) := by omega
    simp only [t32, t33, t34, c1, RX, VOp.fresh, bxC, bsC, un, most, callsOf, seval, Int.reducePow, ↓reduceIte, Nat.reduceEqDiff, reduceCtorEq]
    have hi' : i = fs.length := by omega
    subst hi'
    rw [List.take_length] at hc
    refine hQ _ _ _ ?_ hc (fun _ _ => rfl) hh fun j hj => by simp only [sg_set]; repeat rw [if_neg (by omega)]
    simp only [sg_set, Nat.reduceEqDiff, ↓reduceIte]
    exact r
  | succ n ih =>
    intro i tc s h k Q hi hh r hc t32 t33 t34 hQ
    refine g.lpe b14_0.eq_1 ?_
    have c1 : ((i : Int) < (fs.length : Int)) := by omega
    have w1 : IntKind.i64.wrap ((i : Int) + 1) = ((i + 1 : Nat) : Int) := by rw [w64 (by omega) (by omega)]; push_cast; rfl
    have hm : (i + 1 + 1) * 112 ≤ most2 := by unfold most2; omega
    obtain ⟨ci, rr, ⟨va, rfl, i1, i2, i3⟩, hat⟩ := hw.at zFeat i (by omega)
    have ova := isL_one i3
    simp only [t32, t33, t34, c1, hat, ova, HN, RW, RX, VOp.fresh, bxC, bsC, un, most, callsOf, seval, Int.reducePow, ↓reduceIte, Nat.reduceEqDiff, reduceCtorEq]
    refine fcopy_cl g (f := fs[i]) ⟨va, rfl, i1, i2, i3⟩ fun c1' t1 h1 lv1 is1 ln1 on1 e1 => ?_
    obtain ⟨x1, x2, x3, rfl⟩ := len3 ln1
    have on1' := on1
    simp only [List.all_cons, List.all_nil, Bool.and_true, Bool.and_eq_true] at on1'
    obtain ⟨o1, o2, o3⟩ := on1'
    have ne1 := e1.1
    simp only [put_next, mk_next] at ne1
    have xh : Ext h h1 := (((Ext.refl h).mkn (Nat.le_refl _) _).putn (Nat.le_refl _) _).trans e1
    have em := Ext.mk (h := h1) (.cells [.int .i64 0, x1, x2, x3, .int .i64 0, .int .i64 0, .nils, .nils] 52 0)
    have nb : (h1.mk' h1.next (.cells [.int .i64 0, x1, x2, x3, .int .i64 0, .int .i64 0, .nils, .nils] 52 0)).next = h1.next + 1 := by rw [mk_next]; omega
    have hlt := r.lt
    have r2 : LR h1 (N0 ≤ ·) (sg s 12) 8 (T0 ++ tc) (i + 1) := r.frame xh.1 fun b _ hb => xh.2 b hb
    have a0 : Lvs h1 (fun b => N0 ≤ b ∧ b ∉ blkOf (sg s 12)) [.int .i64 0, x1, x2, x3, .int .i64 0, .int .i64 0, .nils, .nils] ([.int .i64 0] ++ t1 ++ [.int .i64 0, .int .i64 0, .nils, .nils]) :=
      (Lvs.cons (l := []) .int .nil).app (lv1.weak fun b hb _ => ⟨by simp only [put_next, mk_next] at hb; omega, fun hc => by have := hlt b hc; simp only [put_next, mk_next] at hb; omega⟩) |>.app (.cons .int (.cons .int (.cons .nils (.cons .nils .nil))))
    have on8 : [AV.int .i64 0, x1, x2, x3, .int .i64 0, .int .i64 0, .nils, .nils].all AV.one = true := by simp only [List.all_cons, List.all_nil, one_int, o1, o2, o3, Bool.and_true, Bool.and_self]; rfl
    obtain ⟨H3, p3, r3, n3, k3⟩ := (r2.frame em.1 fun b _ hb => em.2 b hb).push (nb := h1.next) (eb := 52) (vb := 0) (c := [.int .i64 0, x1, x2, x3, .int .i64 0, .int .i64 0, .nils, .nils]) (by rw [Heap.get_mk, if_pos rfl]) rfl on8 (a0.frame em.1 fun b _ hb => em.2 b hb) (by rw [nb]; omega) (bytes := 112) hm 52
    rw [nb] at p3 r3 n3 k3
    have hv := r2.inB
    have kk3 : ∀ b, b < N0 → H3.get b = h.get b := fun b hb => (k3 b (fun hc => by have := hv b hc; omega) (by omega)).trans ((em.2 b (by omega)).trans (xh.2 b (by omega)))
    simp only [t32, t33, t34, o1, o2, o3, p3, w1, HN, RW, RX, VOp.fresh, bxC, bsC, un, most, callsOf, seval, Int.reducePow, ↓reduceIte, Nat.reduceEqDiff, reduceCtorEq]
    obtain ⟨tv, rfl, j1, j2, j3⟩ := is1
    refine ih (i + 1) (tc ++ [.int .i64 0, .int .i64 (fs[i]).id, .int .i64 (fs[i]).shape, tv, .int .i64 0, .int .i64 0, .nils, .nils]) _ H3 k Q (by omega) (by omega) ?_ (hc.take (by omega) ⟨tv, rfl, j1, j2, j3⟩) ?_ ?_ ?_ ?_
    · simp only [sg_set, Nat.reduceEqDiff, ↓reduceIte]
      rw [← List.append_assoc]
      exact r3
    · simp only [t32, sg_set, Nat.reduceEqDiff, ↓reduceIte]
    · simp only [t33, sg_set, Nat.reduceEqDiff, ↓reduceIte]
    · simp only [sg_set, Nat.reduceEqDiff, ↓reduceIte]
    · intro s' h' tc' q1 q2 q3 q4 q5
      exact hQ s' h' tc' q1 q2 (fun b hb => (q3 b hb).trans (kk3 b hb)) q4 fun j hj => by rw [q5 j hj]; simp only [sg_set]; repeat rw [if_neg (by omega)]
theorem IxErr {nodes k a t e : Int} {m : Mp} (c : ChErr nodes m k a t e) : e ≠ 0 ∧ ∀ i, ¬ ChYes nodes m k a t i := by
  rcases c with ⟨no, rfl⟩ | ⟨_, he, rfl⟩ | ⟨_, _, rfl, i, hi, no⟩
  · exact ⟨by omega, fun i y => no y.1⟩
  · exact ⟨by omega, fun i y => y.2.1 he⟩
  · refine ⟨by omega, fun j y => ?_⟩
    obtain rfl := y.2.2.1.uniq y.1.1.rise hi
    rcases no with no | no
    · exact y.2.2.2.1 no
    · exact no y.2.2.2.2
/-- when the shard is parted -/
def RsYes (nodes : Int) (m : Mp) (k a t : Int) (fs : List Feat) (i : Nat) : Prop := ChYes nodes m k a t i ∧ fs.length ≤ 31 ∧ opsOk nodes (rsO (chgR m k a t i) fs)
theorem rops_cl (g : Pg P tab) (hins : InsOk P) {m : Mp} {v u w : AV} {fs : List Feat} (hv : IsL 8 RInt v m.starts) (hu : IsL 8 RInt u m.owners) (hw : IsL 40 RFeat w fs) {nodes k a t : Int} (ha : I64 a) (ht : I64 t) {h : Heap} {Q : AV → Heap → Prop}
    (qN : ∀ h', Ext h h' → (∀ i, ¬ RsYes nodes m k a t fs i) → Q (.tup [.nils, .int .i64 2200]) h')
    (qY : ∀ h' i x tc, RsYes nodes m k a t fs i → LR h' (h.next ≤ ·) x 8 ([.int .i64 2, .int .i64 0, .int .i64 0, .nils, .int .i64 0, .int .i64 (chgR m k a t i).epoch, tI (chgR m k a t i).starts, tI (chgR m k a t i).owners] ++ tc) (fs.length + 1) → Cat RPut fs tc → Ext h h' → Q (.tup [x, .int .i64 0]) h') :
    Cl P 14 [.agg [.int .i64 m.epoch, v, u], .int .i64 nodes, .agg [.int .i64 k, .int .i64 a, .int .i64 t], w] h Q := by
  refine g.cl (vf := v14) rfl rfl ?_
  simp only [v14, HN, RW, RX, VOp.fresh, bxC, bsC, un, most, callsOf, seval, Int.reducePow, ↓reduceIte, Nat.reduceEqDiff, reduceCtorEq]
  have x0 : Ext h ((h.mk' h.next (.cells [.int .i64 m.epoch, v, u] 24 0)).mk' (h.next + 1) (.cells [.int .i64 k, .int .i64 a, .int .i64 t] 26 0)) := ((Ext.refl h).mkn (Nat.le_refl _) _).mkn (by omega) _
  have n0 : ((h.mk' h.next (.cells [.int .i64 m.epoch, v, u] 24 0)).mk' (h.next + 1) (.cells [.int .i64 k, .int .i64 a, .int .i64 t] 26 0)).next = h.next + 2 := by rw [mk_next, mk_next]; omega
  refine change_cl g hins hv hu ha ht ?_ ?_
  · intro h' e x c
    have x1 := x0.trans x
    obtain ⟨he, hno⟩ := IxErr c
    simp only [he, HN, RW, RX, VOp.fresh, bxC, bsC, un, most, callsOf, seval, Int.reducePow, ↓reduceIte, Nat.reduceEqDiff, reduceCtorEq]
    exact qN _ (((x0.trans x).mkn x1.1 _).putn x1.1 _) fun i y => hno i y.1
  · intro h' i sv ov b b' c ws wo hne x
    have x1 := x0.trans x
    have nx : h.next + 2 ≤ h'.next := by have := x.1; rw [n0] at this; exact this
    by_cases hl : 32 ≤ fs.length
    · have hl' : (32 : Int) ≤ (fs.length : Int) := by omega
      simp only [hw.len, hl', ws.one, wo.one, HN, RW, RX, VOp.fresh, bxC, bsC, un, most, callsOf, seval, Int.reducePow, ↓reduceIte, Nat.reduceEqDiff, reduceCtorEq]
      exact qN _ ((x1.mkn x1.1 _).putn x1.1 _) fun i y => by have := y.2.1; omega
    have hl' : ¬ (32 : Int) ≤ (fs.length : Int) := by omega
    obtain ⟨⟨⟨p1, p2, p3, p4, p5, p6, p7, p8, p9⟩, k0, k2, a0, a1⟩, he, hi, hn, ok⟩ := id c
    obtain ⟨r1, r2, r3, r4, r5, r6⟩ := chgR_ok hv hu ⟨k0, k2⟩ ha ht hi p6 p7 hn
    obtain ⟨z1, z2, z3', z4⟩ := id ok
    generalize hM : chgR m k a t i = M at *
    have os := ws.one
    have oo := wo.one
    rw [n0] at ws wo
    have bb : h.next + 2 ≤ b ∧ b < h'.next := by obtain ⟨_, _, _, _, _, q1, q2, _⟩ := id ws; exact ⟨q1, q2⟩
    have bb' : h.next + 2 ≤ b' ∧ b' < h'.next := by obtain ⟨_, _, _, _, _, q1, q2, _⟩ := id wo; exact ⟨q1, q2⟩
    simp only [hw.len, hl', os, oo, HN, RW, RX, VOp.fresh, bxC, bsC, un, most, callsOf, seval, Int.reducePow, ↓reduceIte, Nat.reduceEqDiff, reduceCtorEq]
    have xH : Ext h (((h'.mk' h'.next (.cells [.int .i64 0, .nils, .nils] 24 0)).put h'.next (.cells [.int .i64 M.epoch, sv, ov] 24 1)).mk' (h'.next + 1) (.cells [.int .i64 2, .int .i64 0, .int .i64 0, .nils, .int .i64 0, .int .i64 M.epoch, sv, ov] 52 0)) := ((x1.mkn x1.1 _).putn x1.1 _).mkn (by omega) _
    have kH : ∀ c, c < h'.next → (((h'.mk' h'.next (.cells [.int .i64 0, .nils, .nils] 24 0)).put h'.next (.cells [.int .i64 M.epoch, sv, ov] 24 1)).mk' (h'.next + 1) (.cells [.int .i64 2, .int .i64 0, .int .i64 0, .nils, .int .i64 0, .int .i64 M.epoch, sv, ov] 52 0)).get c = h'.get c := fun c hc => by rw [Heap.get_mk, if_neg (by omega), Heap.get_put, if_neg (by omega), Heap.get_mk, if_neg (by omega)]
    have gH : (((h'.mk' h'.next (.cells [.int .i64 0, .nils, .nils] 24 0)).put h'.next (.cells [.int .i64 M.epoch, sv, ov] 24 1)).mk' (h'.next + 1) (.cells [.int .i64 2, .int .i64 0, .int .i64 0, .nils, .int .i64 0, .int .i64 M.epoch, sv, ov] 52 0)).get (h'.next + 1) = some (.cells [.int .i64 2, .int .i64 0, .int .i64 0, .nils, .int .i64 0, .int .i64 M.epoch, sv, ov] 52 0) := by rw [Heap.get_mk, if_pos rfl]
    have nH : (((h'.mk' h'.next (.cells [.int .i64 0, .nils, .nils] 24 0)).put h'.next (.cells [.int .i64 M.epoch, sv, ov] 24 1)).mk' (h'.next + 1) (.cells [.int .i64 2, .int .i64 0, .int .i64 0, .nils, .int .i64 0, .int .i64 M.epoch, sv, ov] 52 0)).next = h'.next + 2 := by rw [mk_next, put_next, mk_next]; omega
    generalize ((h'.mk' h'.next (.cells [.int .i64 0, .nils, .nils] 24 0)).put h'.next (.cells [.int .i64 M.epoch, sv, ov] 24 1)).mk' (h'.next + 1) (.cells [.int .i64 2, .int .i64 0, .int .i64 0, .nils, .int .i64 0, .int .i64 M.epoch, sv, ov] 52 0) = H at *
    have lrow : LR H (h.next ≤ ·) (.sl (h'.next + 1) 0 1 1 8) 8 ([.int .i64 2, .int .i64 0, .int .i64 0, .nils, .int .i64 0, .int .i64 M.epoch, tI M.starts, tI M.owners] ++ []) (0 + 1) := by
      refine ⟨[.int .i64 2, .int .i64 0, .int .i64 0, .nils, .int .i64 0, .int .i64 M.epoch, sv, ov], .inr ⟨_, 52, 0, rfl, by omega, by omega, rfl, gH⟩, ?_, fun c hc => by simp [blkOf] at hc; omega⟩
      have l1 := ((ws.lv r3).frame (h' := H) (by omega) fun c hc hl => kH c hl).weak (B' := fun c => h.next ≤ c ∧ c ∉ blkOf (.sl (h'.next + 1) 0 1 1 8)) fun c hc _ => ⟨by omega, by simp [blkOf]; omega⟩
      have l2 := ((wo.lv r4).frame (h' := H) (by omega) fun c hc hl => kH c hl).weak (B' := fun c => h.next ≤ c ∧ c ∉ blkOf (.sl (h'.next + 1) 0 1 1 8)) fun c hc _ => ⟨by omega, by simp [blkOf]; omega⟩
      exact .cons .int (.cons .int (.cons .int (.cons .nils (.cons .int (.cons .int (.cons l1 (.cons l2 .nil)))))))
    refine rops_loop g hw (by omega) (N0 := h.next) (T0 := [.int .i64 2, .int .i64 0, .int .i64 0, .nils, .int .i64 0, .int .i64 M.epoch, tI M.starts, tI M.owners]) fs.length 0 [] _ H _ _ (by omega) (by omega) ?_ .nil ?_ ?_ ?_ fun s' h2 tc r hc hk hn2 ks => ?_
    · simp only [sg_set, Nat.reduceEqDiff, ↓reduceIte]
      exact lrow
    · simp only [sg_set, Nat.reduceEqDiff, ↓reduceIte]
    · simp only [sg_set, Nat.reduceEqDiff, ↓reduceIte]
    · simp only [sg_set, Nat.reduceEqDiff, ↓reduceIte]
      rfl
    have t1 : sg s' 1 = .int .i64 nodes := (ks 1 (by decide)).trans (by simp only [sg_set, Nat.reduceEqDiff, ↓reduceIte])
    have cop := Cat.put hc
    have isl : IsL 112 ROp (cRow ([.int .i64 2, .int .i64 0, .int .i64 0, .nils, .int .i64 0, .int .i64 M.epoch, tI M.starts, tI M.owners] ++ tc) (fs.length + 1)) (rsO M fs) := by
      have hl2 : (rsO M fs).length = fs.length + 1 := by simp [rsO]
      rw [← hl2]
      refine row_isL (by rw [hl2, reach_eq]; omega) (.cons (a := mapO M) ⟨.nils, tI M.starts, tI M.owners, rfl, ?_, ?_, ?_, isL_nil 24 RRing, ?_, (show I64 M.epoch from ⟨by omega, by omega⟩), tI_is r1 r5, tI_is r2 r6⟩ cop)
      · exact (show I64 2 from ⟨by omega, by omega⟩)
      all_goals exact i64_0
    have e2 : Ext h h2 := ⟨hn2, fun c hc => (hk c hc).trans (xH.2 c hc)⟩
    simp only [t1, RX, VOp.fresh, bxC, bsC, un, most, callsOf, seval, Int.reducePow, ↓reduceIte, Nat.reduceEqDiff, reduceCtorEq]
    refine (opsMay_pu g isl).cl (.cons r.lv.fz (.cons (.int _ _) .nil)) ?_
    rintro _ ⟨bb2, rfl, hb⟩
    cases bb2 with
    | false =>
      simp only [RX, VOp.fresh, bxC, bsC, un, most, callsOf, seval, Int.reducePow, ↓reduceIte, Nat.reduceEqDiff, reduceCtorEq]
      refine qN h2 e2 fun j y => ?_
      obtain rfl := y.1.2.2.1.uniq y.1.1.1.rise hi
      rw [RsYes, hM] at y
      simpa using hb.2 y.2.2
    | true =>
      simp only [RX, VOp.fresh, bxC, bsC, un, most, callsOf, seval, Int.reducePow, ↓reduceIte, Nat.reduceEqDiff, reduceCtorEq]
      exact qY h2 i _ tc ⟨by rw [← hM] at ok; exact ⟨⟨⟨p1, p2, p3, p4, p5, p6, p7, p8, p9⟩, k0, k2, a0, a1⟩, he, hi, hn, ok⟩, by omega, by rw [hM]; exact hb.1 rfl⟩ (by rw [hM]; exact r) hc e2
end
end Go.Proofs.Ythmkenkjfmbkiaa.VM
namespace Go.Proofs.Ythmkenkjfmbkiaa.VM
attribute [local irreducible] Af Nx EvO Ev Un Gd Cd EvR EvQ EvC Nc Gc Lp EvM NxM AfM GdM EvMR EvMQ EvMD EvMC Nm Gm
mutual
theorem sh_told {n : Nat} : ∀ {x : AV}, x.told = true → sh n x = x
  | .undef, _ | .bool _, _ | .int .., _ | .str _, _ | .nilp, _ | .nils, _ | .nilm, _ | .nilf, _ | .rs .., _ | .rp _, _ | .map _, _ | .fn .., _ => rfl
  | .ptr .., h => by simp [AV.told] at h
  | .sl .., h => by simp [AV.told] at h
  | .agg l, h => by rw [sh, shs_tolds (by simpa [AV.told] using h)]
  | .tup l, h => by rw [sh, shs_tolds (by simpa [AV.told] using h)]
theorem shs_tolds {n : Nat} : ∀ {l : List AV}, AV.tolds l = true → shs n l = l
  | [], _ => rfl
  | x :: l, h => by
    simp only [AV.tolds, Bool.and_eq_true] at h
    rw [shs, sh_told h.1, shs_tolds h.2]
end
mutual
theorem sh_bare {n : Nat} : ∀ {x : AV}, (sh n x).bare = x.bare
  | .undef | .bool _ | .int .. | .str _ | .nilp | .nils | .nilm | .nilf | .rs .. | .rp _ | .map _ | .fn .. => rfl
  | .ptr .. => rfl
  | .sl .. => rfl
  | .agg l => by rw [sh]; simp only [AV.bare]; exact shs_bares
  | .tup l => by rw [sh]; simp only [AV.bare]; exact shs_bares
theorem shs_bares {n : Nat} : ∀ {l : List AV}, AV.bares (shs n l) = AV.bares l
  | [] => rfl
  | x :: l => by rw [shs]; simp only [AV.bares]; rw [sh_bare, shs_bares]
end
section
variable {h h0 : Heap} {D : List Nat}
mutual
theorem Fd.laid (hD : ∀ b ∈ D, b < h0.next) : ∀ {x y : AV} {E : List Nat}, Fd h0 x y E → (∀ b ∈ E, b ∈ D) → Fd (VM.laid h h0 D) (sh h.next x) y (E.map (h.next + ·))
  | _, _, _, .told hx, _ => by rw [sh_told hx]; exact .told hx
  | _, _, _, .sl hl hn hg hc t, hE => by
    rw [sh]
    exact .sl hl (by show _ < h.next + h0.next; omega) (laid_new hn (hE _ List.mem_cons_self) hg) (shs_cut hc) (t.laid hD fun b hb => hE b (List.mem_cons_of_mem _ hb))
  | _, _, _, .sl0, _ => by rw [sh]; exact .sl0
  | _, _, _, .ptr hn hg t, hE => by
    rw [sh]
    exact .ptr (by show _ < h.next + h0.next; omega) (laid_new hn (hE _ List.mem_cons_self) hg) (by rw [← shs_drop]; exact t.laid hD fun b hb => hE b (List.mem_cons_of_mem _ hb))
  | _, _, _, .agg t, hE => by rw [sh]; exact .agg (t.laid hD hE)
  | _, _, _, .tup t, hE => by rw [sh]; exact .tup (t.laid hD hE)
theorem Fds.laid (hD : ∀ b ∈ D, b < h0.next) : ∀ {x y : List AV} {E : List Nat}, Fds h0 x y E → (∀ b ∈ E, b ∈ D) → Fds (VM.laid h h0 D) (shs h.next x) y (E.map (h.next + ·))
  | _, _, _, .nil, _ => .nil
  | _, _, _, .cons f t, hE => by
    rw [shs, List.map_append]
    exact .cons (f.laid hD fun b hb => hE b (List.mem_append_left _ hb)) (t.laid hD fun b hb => hE b (List.mem_append_right _ hb))
end
end
section
variable {P : Program}
theorem Cl.laid {f : Nat} {args args' : List AV} {h : Heap} {R : AV → Prop} {Q : AV → Heap → Prop} (ha : Fzs true h args args') (c : Cl P f args' ⟨0, .e⟩ fun v h0 => ∃ t, Lv h0 (fun _ => True) v t ∧ R t)
    (q : ∀ v t h', Lv h' (h.next ≤ ·) v t → R t → Ext h h' → Q v h') : Cl P f args h Q := by
  obtain ⟨v, h0, o, t, ⟨D, fd, hb, own, _⟩, hR⟩ := c
  have hlt := fd.lt
  refine ⟨_, _, OK.laid ha o hb own hlt, q _ t _ ⟨D.map (h.next + ·), fd.laid hlt fun b hb => hb, by rw [sh_bare]; exact hb, ?_, ?_⟩ hR (laid_ext h h0 D)⟩
  · intro b hb'
    obtain ⟨d, hd, rfl⟩ := List.mem_map.1 hb'
    obtain ⟨l, e, ver, g1, g2⟩ := own d hd
    exact ⟨_, e, ver, laid_new (hlt d hd) hd g1, by rw [shs_bares]; exact g2⟩
  · intro b hb'
    obtain ⟨d, hd, rfl⟩ := List.mem_map.1 hb'
    exact Nat.le_add_right _ _
end
end Go.Proofs.Ythmkenkjfmbkiaa.VM
namespace Go.Proofs.Ythmkenkjfmbkiaa.VM
attribute [local irreducible] Af Nx EvO Ev Un Gd Cd EvR EvQ EvC Nc Gc Lp EvM NxM AfM GdM EvMR EvMQ EvMD EvMC Nm Gm
section
variable {h : Heap} {B : Nat → Prop}
theorem Lvs.uncons {cs k : List AV} {y : AV} (l : Lvs h B cs (y :: k)) : ∃ x c', cs = x :: c' ∧ Lv h B x y ∧ Lvs h B c' k := by
  obtain ⟨D, f, hb, own, i⟩ := l
  match f with
  | .cons (x := x) (l := c') f1 t =>
    simp only [AV.bares, Bool.and_eq_true] at hb
    exact ⟨x, c', rfl, ⟨_, f1, hb.1, fun b hb => own b (List.mem_append_left _ hb), fun b hb => i b (List.mem_append_left _ hb)⟩, ⟨_, t, hb.2, fun b hb => own b (List.mem_append_right _ hb), fun b hb => i b (List.mem_append_right _ hb)⟩⟩
theorem Lvs.split {k2 : List AV} : ∀ {k1 cs : List AV}, Lvs h B cs (k1 ++ k2) → ∃ c1 c2, cs = c1 ++ c2 ∧ Lvs h B c1 k1 ∧ Lvs h B c2 k2 ∧ c1.length = k1.length
  | [], cs, l => ⟨[], cs, rfl, .nil, l, rfl⟩
  | y :: k1, cs, l => by
    obtain ⟨x, c', rfl, lx, lt⟩ := l.uncons
    obtain ⟨c1, c2, rfl, a, b, e⟩ := lt.split
    exact ⟨x :: c1, c2, rfl, .cons lx a, b, by simp [e]⟩
theorem Lvs.drop {k : List AV} : ∀ (n : Nat) {cs : List AV}, Lvs h B cs k → Lvs h B (cs.drop n) (k.drop n) := by
  intro n
  induction n generalizing k with
  | zero => intro cs l; exact l
  | succ n ih =>
    intro cs l
    cases k with
    | nil =>
      obtain ⟨D, f, _⟩ := l
      cases f
      exact .nil
    | cons y k =>
      obtain ⟨x, c', rfl, lx, lt⟩ := l.uncons
      exact ih lt
theorem part3 {cs r : List AV} {m : Nat} {a b c : AV} (e : cs.drop m = a :: b :: c :: r) : part true cs m 3 = some (.agg [a, b, c]) := by
  simp [part, cut, e]
/-- what stands in the row -/
structure OpsRow (h : Heap) (B : Nat → Prop) (v : AV) (M : Mp) (fs : List Feat) (b : Nat) (cs : List AV) : Prop where
  hv : v = .sl b 0 (fs.length + 1) (fs.length + 1) 8
  hb : b < h.next
  hB : B b
  hg : ∃ e ver, h.get b = some (.cells cs e ver)
  k0 : part false cs 0 1 = some (.int .i64 2)
  mp : ∃ sv ov, part true cs 5 3 = some (.agg [.int .i64 M.epoch, sv, ov]) ∧ Lv h B sv (tI M.starts) ∧ Lv h B ov (tI M.owners)
  ft : ∀ i (hi : i < fs.length), ∃ c3 t3, part true cs ((i + 1) * 8 + 1) 3 = some (.agg c3) ∧ Lvs h B c3 t3 ∧ RFeat fs[i] t3
theorem OpsRow.of {v : AV} {M : Mp} {fs : List Feat} {tc : List AV} (r : LR h B v 8 ([.int .i64 2, .int .i64 0, .int .i64 0, .nils, .int .i64 0, .int .i64 M.epoch, tI M.starts, tI M.owners] ++ tc) (fs.length + 1)) (hc : Cat RPut fs tc) : ∃ b cs, OpsRow h B v M fs b cs := by
  obtain ⟨cs, row, l, hB⟩ := r
  rcases row with ⟨_, e, _⟩ | ⟨b, e, ver, rfl, _, hb, hl, hg⟩
  · omega
  refine ⟨b, cs, rfl, hb, hB b (by simp [blkOf]), ⟨e, ver, hg⟩, ?_, ?_, ?_⟩
  · obtain ⟨c1, c2, rfl, l1, _, _⟩ := l.split
    obtain ⟨x0, c', rfl, lx, _⟩ := l1.uncons
    rw [lx.int_inv]; rfl
  · obtain ⟨c1, c2, rfl, l1, _, _⟩ := l.split
    obtain ⟨x0, c', rfl, _, l1⟩ := l1.uncons
    obtain ⟨x1, c', rfl, _, l1⟩ := l1.uncons
    obtain ⟨x2, c', rfl, _, l1⟩ := l1.uncons
    obtain ⟨x3, c', rfl, _, l1⟩ := l1.uncons
    obtain ⟨x4, c', rfl, _, l1⟩ := l1.uncons
    obtain ⟨x5, c', rfl, lx5, l1⟩ := l1.uncons
    obtain ⟨x6, c', rfl, lx6, l1⟩ := l1.uncons
    obtain ⟨x7, c', rfl, lx7, l1⟩ := l1.uncons
    rw [lx5.int_inv]
    exact ⟨x6, x7, part3 (r := c' ++ c2) rfl, lx6.weak fun b h _ => h.1, lx7.weak fun b h _ => h.1⟩
  · intro i hi
    obtain ⟨ci, rr, hd, v, rfl, j1, j2, j3⟩ := hc.at (z := 8) (fun a c ⟨v, e, _⟩ => by rw [e]; rfl) i hi
    have l2 := l.drop ((i + 1) * 8)
    rw [show (i + 1) * 8 = 8 + i * 8 by omega, ← List.drop_drop (l := _ ++ tc), show List.drop (i * 8) (List.drop 8 ([.int .i64 2, .int .i64 0, .int .i64 0, .nils, .int .i64 0, .int .i64 M.epoch, tI M.starts, tI M.owners] ++ tc)) = _ from hd] at l2
    obtain ⟨x0, c', e0, _, l2⟩ := l2.uncons
    obtain ⟨x1, c', rfl, a1, l2⟩ := l2.uncons
    obtain ⟨x2, c', rfl, a2, l2⟩ := l2.uncons
    obtain ⟨x3, c', rfl, a3, l2⟩ := l2.uncons
    refine ⟨[x1, x2, x3], [.int .i64 (fs[i]).id, .int .i64 (fs[i]).shape, v], part3 (r := c') ?_, (Lvs.cons a1 (.cons a2 (.cons a3 .nil))).weak fun b h _ => h.1, v, rfl, j1, j2, j3⟩
    rw [show (i + 1) * 8 + 1 = (8 + i * 8) + 1 by omega, ← List.drop_drop, e0]; rfl
end
end Go.Proofs.Ythmkenkjfmbkiaa.VM
namespace Go.Proofs.Ythmkenkjfmbkiaa.VM
attribute [local irreducible] Af Nx EvO Ev Un Gd Cd EvR EvQ EvC Nc Gc Lp EvM NxM AfM GdM EvMR EvMQ EvMD EvMC Nm Gm
section
variable {P : Program}
theorem Cl.laidR {f : Nat} {args args' : List AV} {h : Heap} {sz : Nat} {R : Int → List AV → Nat → Prop} {Q : AV → Heap → Prop} (ha : Fzs true h args args') (c : Cl P f args' ⟨0, .e⟩ fun v h0 => ∃ x e t n, v = .tup [x, .int .i64 e] ∧ LR h0 (fun _ => True) x sz t n ∧ R e t n)
    (q : ∀ x e t n h', LR h' (h.next ≤ ·) x sz t n → R e t n → Ext h h' → Q (.tup [x, .int .i64 e]) h') : Cl P f args h Q := by
  obtain ⟨_, h0, o, x, e, t, n, rfl, ⟨cs, row, ⟨D, fd, hb, own, hi⟩, _⟩, hR⟩ := c
  have hlt := fd.lt
  rcases row with ⟨rfl, rfl, rfl⟩ | ⟨b, eb, vb, rfl, hn, hbn, hl, hg⟩
  · have o2 := OK.laid (D := D) ha o rfl own hlt
    cases fd
    exact ⟨_, _, o2, q .nils e [] 0 _ (.nil _ _ _) hR (laid_ext h h0 _)⟩
  · have own2 : Own h0 (b :: D) := fun c hc => by
      rcases List.mem_cons.1 hc with rfl | hc
      · exact ⟨cs, eb, vb, hg, hb⟩
      · exact own c hc
    have hlt2 : ∀ c ∈ b :: D, c < h0.next := fun c hc => by
      rcases List.mem_cons.1 hc with rfl | hc
      · exact hbn
      · exact hlt c hc
    have o2 := OK.laid (D := b :: D) ha o rfl own2 hlt2
    have fd2 := fd.laid (h := h) (D := b :: D) hlt2 fun c hc => List.mem_cons_of_mem _ hc
    refine ⟨_, _, o2, q (.sl (h.next + b) 0 n n sz) e t n _ ⟨shs h.next cs, .inr ⟨h.next + b, eb, vb, rfl, hn, by show _ < h.next + h0.next; omega, ?_, laid_new hbn List.mem_cons_self hg⟩, ⟨D.map (h.next + ·), fd2, by rw [shs_bares]; exact hb, ?_, ?_⟩, fun c hc => by simp [blkOf] at hc; omega⟩ hR (laid_ext h h0 _)⟩
    · rw [shs_map, List.length_map]; exact hl
    · intro c hc
      obtain ⟨d, hd, rfl⟩ := List.mem_map.1 hc
      obtain ⟨l, e2, ver, g1, g2⟩ := own d hd
      exact ⟨_, e2, ver, laid_new (hlt d hd) (List.mem_cons_of_mem _ hd) g1, by rw [shs_bares]; exact g2⟩
    · intro c hc
      obtain ⟨d, hd, rfl⟩ := List.mem_map.1 hc
      have := (hi d hd).2
      simp [blkOf] at this
      exact ⟨Nat.le_add_right _ _, by simp [blkOf]; omega⟩
theorem rops_any (g : Pg P tab) (hins : InsOk P) {m : Mp} {v u w : AV} {fs : List Feat} (hv : IsL 8 RInt v m.starts) (hu : IsL 8 RInt u m.owners) (hw : IsL 40 RFeat w fs) {nodes k a t : Int} (ha : I64 a) (ht : I64 t) {h : Heap} {args : List AV} {Q : AV → Heap → Prop} (hA : Fzs true h args [.agg [.int .i64 m.epoch, v, u], .int .i64 nodes, .agg [.int .i64 k, .int .i64 a, .int .i64 t], w])
    (qN : ∀ h', Ext h h' → (∀ i, ¬ RsYes nodes m k a t fs i) → Q (.tup [.nils, .int .i64 2200]) h')
    (qY : ∀ h' i x b cs, RsYes nodes m k a t fs i → OpsRow h' (h.next ≤ ·) x (chgR m k a t i) fs b cs → Ext h h' → Q (.tup [x, .int .i64 0]) h') : Cl P 14 args h Q := by
  refine Cl.laidR (sz := 8) (R := fun e tl n => (e = 2200 ∧ n = 0 ∧ tl = [] ∧ ∀ i, ¬ RsYes nodes m k a t fs i) ∨ (e = 0 ∧ n = fs.length + 1 ∧ ∃ i tc, RsYes nodes m k a t fs i ∧ tl = [.int .i64 2, .int .i64 0, .int .i64 0, .nils, .int .i64 0, .int .i64 (chgR m k a t i).epoch, tI (chgR m k a t i).starts, tI (chgR m k a t i).owners] ++ tc ∧ Cat RPut fs tc)) hA ?_ ?_
  · refine rops_cl g hins hv hu hw ha ht (fun h' x no => ⟨.nils, 2200, [], 0, rfl, .nil _ _ _, .inl ⟨rfl, rfl, rfl, no⟩⟩) fun h' i x tc y r c xx => ⟨x, 0, _, _, rfl, r.weak fun _ _ _ => trivial, .inr ⟨rfl, rfl, i, tc, y, rfl, c⟩⟩
  · rintro x e tl n h' r (⟨rfl, rfl, rfl, no⟩ | ⟨rfl, rfl, i, tc, y, rfl, c⟩) xx
    · have : x = .nils := by
        obtain ⟨cs, row, _⟩ := r
        rcases row with ⟨rfl, _⟩ | ⟨_, _, _, _, h0, _⟩
        · rfl
        · omega
      subst this
      exact qN h' xx no
    · obtain ⟨b, cs, o⟩ := OpsRow.of r c
      exact qY h' i x b cs y o xx
end
section
variable {P : Program}
theorem awake22_pu (g : Pg P tab) (hins : InsOk P) : Pu P 21 [] (fun v => v = .bool true) := g.runX (insX_ok hins) (n := 400) (by kernel_rfl)
theorem rfirst_pu (g : Pg P tab) (n : Int) : Pu P 28 [.int .i64 n] (fun v => (¬ (1 ≤ n ∧ n ≤ 8) ∧ v = .tup [.agg z3, .int .i64 700]) ∨ (1 ≤ n ∧ n ≤ 8) ∧ v = .tup [toldMp (fstM n), .int .i64 0]) := by
  by_cases h : 1 ≤ n ∧ n ≤ 8
  · refine Pu.mono (Q := fun v => v = .tup [toldMp (fstM n), .int .i64 0]) ?_ fun v e => .inr ⟨h, e⟩
    obtain ⟨h1, h2⟩ := h
    have : n = 1 ∨ n = 2 ∨ n = 3 ∨ n = 4 ∨ n = 5 ∨ n = 6 ∨ n = 7 ∨ n = 8 := by omega
    rcases this with rfl | rfl | rfl | rfl | rfl | rfl | rfl | rfl <;> exact g.runX nothing_told (n := 100) (by kernel_rfl)
  · refine Pu.mono (Q := fun v => v = .tup [.agg z3, .int .i64 700]) ?_ fun v e => .inl ⟨h, e⟩
    refine g.pu (vf := v28) rfl rfl ?_
    by_cases c1 : n < 1
    · simp only [v28, c1, RW, RX, VOp.fresh, bxC, bsC, un, most, callsOf, seval, Int.reducePow, ↓reduceIte, Nat.reduceEqDiff, reduceCtorEq]
      exact ⟨_, .tup (.cons (.agg (.cons (.int _ _) (.cons .nils (.cons .nils .nil)))) (.cons (.int _ _) .nil)), rfl⟩
    · have c2 : 8 < n := by omega
      simp only [v28, c1, c2, RW, RX, VOp.fresh, bxC, bsC, un, most, callsOf, seval, Int.reducePow, ↓reduceIte, Nat.reduceEqDiff, reduceCtorEq]
      exact ⟨_, .tup (.cons (.agg (.cons (.int _ _) (.cons .nils (.cons .nils .nil)))) (.cons (.int _ _) .nil)), rfl⟩
end
end Go.Proofs.Ythmkenkjfmbkiaa.VM
namespace Go.Proofs.Ythmkenkjfmbkiaa.VM
attribute [local irreducible] Af Nx EvO Ev Un Gd Cd EvR EvQ EvC Nc Gc Lp EvM NxM AfM GdM EvMR EvMQ EvMD EvMC Nm Gm
section
variable {P : Program} {w : AV} {fs : List Feat}
theorem OpsRow.ext {h h' : Heap} {B : Nat → Prop} {v : AV} {M : Mp} {fs : List Feat} {b : Nat} {cs : List AV} (o : OpsRow h B v M fs b cs) (x : Ext h h') : OpsRow h' B v M fs b cs := by
  obtain ⟨hv, hb, hB, ⟨e, ver, hg⟩, k0, ⟨sv, ov, pm, l1, l2⟩, f⟩ := o
  refine ⟨hv, Nat.lt_of_lt_of_le hb x.1, hB, ⟨e, ver, (x.2 b hb).trans hg⟩, k0, ⟨sv, ov, pm, l1.frame x.1 fun c _ hc => x.2 c hc, l2.frame x.1 fun c _ hc => x.2 c hc⟩, fun i hi => ?_⟩
  obtain ⟨c3, t3, p, l, r⟩ := f i hi
  exact ⟨c3, t3, p, l.frame x.1 fun c _ hc => x.2 c hc, r⟩
end
end Go.Proofs.Ythmkenkjfmbkiaa.VM
namespace Go.Proofs.Ythmkenkjfmbkiaa.VM
section
variable {n : Int} {m : Mp} {a t : Int} {i : Nat}
theorem chg0_ok (ok : mpOk n m) (he : m.epoch ≠ 65535) (a0 : 0 ≤ a) (a1 : a < 4294967296) (hi : IxAt m.starts a i) : mpOk n (chgR m 0 a t i) ↔ m.starts.getD i 0 ≠ a ∧ m.starts.length ≠ 32 := by
  obtain ⟨p1, p2, p3, p4, p5, p6, p7, p8, p9⟩ := id ok
  obtain ⟨i1, i2, i3⟩ := id hi
  have hio : i < m.owners.length := by omega
  have li : (ins m.starts (i + 1) a).length = m.starts.length + 1 := ins_len (by omega) _
  have lo : (ins m.owners (i + 1) (m.owners.getD i 0)).length = m.owners.length + 1 := ins_len (by omega) _
  constructor
  · rintro ⟨q1, q2, q3, q4, q5, q6, q7, q8, q9⟩
    have q6' : (ins m.starts (i + 1) a).length ≤ 32 := q6
    have r1 := (q9 (i + 1) (by show i + 1 < (ins m.starts (i + 1) a).length; omega)).2.1
    have r2 : (ins m.starts (i + 1) a).getD i 0 < (ins m.starts (i + 1) a).getD (i + 1) 0 := by
      rcases r1 with h | h
      · omega
      · exact h
    rw [ins_getD i1, ins_getD i1, if_pos (Nat.le_refl _), if_neg (by omega), if_pos rfl] at r2
    exact ⟨by omega, by omega⟩
  · rintro ⟨h1, h2⟩
    refine ⟨p1, p2, by show 1 ≤ m.epoch + 1; omega, by show m.epoch + 1 ≤ 65535; omega, by show 1 ≤ (ins m.starts (i + 1) a).length; omega, by show (ins m.starts (i + 1) a).length ≤ 32; omega, by show (ins m.owners (i + 1) (m.owners.getD i 0)).length = (ins m.starts (i + 1) a).length; omega, ?_, fun j hj => ?_⟩
    · show (ins m.starts (i + 1) a).getD 0 0 = 0
      rw [ins_getD i1, if_pos (Nat.zero_le _)]; exact p8
    · have hj' : j < m.starts.length + 1 := by rw [← li]; exact hj
      show (ins m.starts (i + 1) a).getD j 0 < 4294967296 ∧ (j = 0 ∨ (ins m.starts (i + 1) a).getD (j - 1) 0 < (ins m.starts (i + 1) a).getD j 0) ∧ 0 ≤ (ins m.owners (i + 1) (m.owners.getD i 0)).getD j 0 ∧ (ins m.owners (i + 1) (m.owners.getD i 0)).getD j 0 < n
      rw [ins_getD i1, ins_getD i1, ins_getD hio]
      by_cases c1 : j ≤ i
      · obtain ⟨z1, z2, z3, z4⟩ := p9 j (by omega)
        rw [if_pos c1, if_pos c1, if_pos (by omega)]
        exact ⟨z1, z2, z3, z4⟩
      · rw [if_neg c1, if_neg c1]
        by_cases c2 : j = i + 1
        · obtain ⟨z1, z2, z3, z4⟩ := p9 i i1
          rw [if_pos c2, if_pos c2, if_pos (by omega)]
          refine ⟨a1, .inr ?_, z3, z4⟩
          rw [show j - 1 = i by omega]; omega
        · obtain ⟨z1, z2, z3, z4⟩ := p9 (j - 1) (by omega)
          rw [if_neg c2, if_neg c2]
          refine ⟨z1, .inr ?_, z3, z4⟩
          rw [if_neg (by omega)]
          by_cases c3 : j - 1 = i + 1
          · rw [if_pos c3]
            have := i3 (by omega)
            rw [c3]; exact this
          · rw [if_neg c3]
            rcases z2 with h | h
            · omega
            · exact h
theorem chg1_ok (ok : mpOk n m) (he : m.epoch ≠ 65535) (hi : IxAt m.starts a i) : mpOk n (chgR m 1 a t i) ↔ 0 ≤ t ∧ t < n := by
  obtain ⟨p1, p2, p3, p4, p5, p6, p7, p8, p9⟩ := id ok
  have i1 := hi.1
  have e : chgR m 1 a t i = ⟨m.epoch + 1, m.starts, m.owners.set i t⟩ := rfl
  rw [e]
  constructor
  · rintro ⟨q1, q2, q3, q4, q5, q6, q7, q8, q9⟩
    have z := (q9 i i1).2.2
    have g : (m.owners.set i t).getD i 0 = t := (setI_getD (by omega)).trans (if_pos rfl)
    have z' : 0 ≤ (m.owners.set i t).getD i 0 ∧ (m.owners.set i t).getD i 0 < n := z
    rw [g] at z'
    exact z'
  · rintro ⟨h0, h1⟩
    refine ⟨p1, p2, by show 1 ≤ m.epoch + 1; omega, by show m.epoch + 1 ≤ 65535; omega, p5, p6, by show (m.owners.set i t).length = _; rw [List.length_set]; exact p7, p8, fun j hj => ?_⟩
    have hj' : j < m.starts.length := hj
    obtain ⟨z1, z2, z3, z4⟩ := p9 j hj
    refine ⟨z1, z2, ?_, ?_⟩
    · show 0 ≤ (m.owners.set i t).getD j 0
      rw [setI_getD (by omega)]; split
      · exact h0
      · exact z3
    · show (m.owners.set i t).getD j 0 < n
      rw [setI_getD (by omega)]; split
      · exact h1
      · exact z4
theorem erase_getD {l : List Int} {k j : Nat} : (l.eraseIdx k).getD j 0 = if j < k then l.getD j 0 else l.getD (j + 1) 0 := by
  rw [List.getD_eq_getElem?_getD, List.getElem?_eraseIdx]
  split <;> rw [List.getD_eq_getElem?_getD]
theorem chg2_ok (ok : mpOk n m) (he : m.epoch ≠ 65535) (hi : IxAt m.starts a i) (hn : i + 1 ≠ m.starts.length) : mpOk n (chgR m 2 a t i) := by
  obtain ⟨p1, p2, p3, p4, p5, p6, p7, p8, p9⟩ := id ok
  have i1 := hi.1
  have e : chgR m 2 a t i = ⟨m.epoch + 1, m.starts.eraseIdx (i + 1), m.owners.eraseIdx (i + 1)⟩ := rfl
  have ls : (m.starts.eraseIdx (i + 1)).length = m.starts.length - 1 := List.length_eraseIdx_of_lt (by omega)
  have lo : (m.owners.eraseIdx (i + 1)).length = m.owners.length - 1 := List.length_eraseIdx_of_lt (by omega)
  rw [e]
  refine ⟨p1, p2, by show 1 ≤ m.epoch + 1; omega, by show m.epoch + 1 ≤ 65535; omega, by show 1 ≤ (m.starts.eraseIdx (i + 1)).length; omega, by show (m.starts.eraseIdx (i + 1)).length ≤ 32; omega, by show (m.owners.eraseIdx (i + 1)).length = (m.starts.eraseIdx (i + 1)).length; omega, ?_, fun j hj => ?_⟩
  · show (m.starts.eraseIdx (i + 1)).getD 0 0 = 0
    rw [erase_getD, if_pos (by omega)]; exact p8
  · have hj' : j < m.starts.length - 1 := by rw [← ls]; exact hj
    show (m.starts.eraseIdx (i + 1)).getD j 0 < 4294967296 ∧ (j = 0 ∨ (m.starts.eraseIdx (i + 1)).getD (j - 1) 0 < (m.starts.eraseIdx (i + 1)).getD j 0) ∧ 0 ≤ (m.owners.eraseIdx (i + 1)).getD j 0 ∧ (m.owners.eraseIdx (i + 1)).getD j 0 < n
    rw [erase_getD, erase_getD, erase_getD]
    by_cases c1 : j < i + 1
    · obtain ⟨z1, z2, z3, z4⟩ := p9 j (by omega)
      rw [if_pos c1, if_pos c1, if_pos (by omega)]
      exact ⟨z1, z2, z3, z4⟩
    · obtain ⟨z1, z2, z3, z4⟩ := p9 (j + 1) (by omega)
      rw [if_neg c1, if_neg c1]
      refine ⟨z1, .inr ?_, z3, z4⟩
      by_cases c2 : j - 1 < i + 1
      · rw [if_pos c2]
        exact ok.rise.lt (by omega) (by omega)
      · rw [if_neg c2]
        exact ok.rise.lt (by omega) (by omega)
end
end Go.Proofs.Ythmkenkjfmbkiaa.VM
namespace Go.Proofs.Ythmkenkjfmbkiaa.VM
attribute [local irreducible] Af Nx EvO Ev Un Gd Cd EvR EvQ EvC Nc Gc Lp EvM NxM AfM GdM EvMR EvMQ EvMD EvMC Nm Gm
section
variable {P : Program}
theorem rat_loop (g : Pg P tab) {m : Mp} {v u : AV} (hv : IsL 8 RInt v m.starts) (hr : Rise m.starts) (hlen : m.starts.length ≤ 32) {A : Int} {j : Nat} (hj : IxAt m.starts A j) {h : Heap} {b e ver : Nat} (hg : h.get b = some (.cells [.int .i64 m.epoch, v, u] e ver)) (r : Nat) : ∀ (n : Nat) (s : T AV) (k : List Fr) (Q : Ex → T AV → Heap → Prop), n + r = j → sg s 1 = .int .i64 A → sg s 2 = .ptr b 0 → sg s 5 = .int .i64 n →
    (∀ s', sg s' 5 = .int .i64 j → Un P k Q (.exit 0) s' h) → Lp P b56_0 s h (Un P k Q) := by
  have hj1 := hj.1
  induction r with
  | zero =>
    intro n s k Q hn t1 t2 t5 hK
    obtain rfl : n = j := by omega
    refine g.lpe b56_0.eq_1 ?_
    have w1 : IntKind.i64.wrap ((n : Int) + 1) = ((n + 1 : Nat) : Int) := by rw [w64 (by omega) (by omega)]; push_cast; rfl
    by_cases hl : n + 1 < m.starts.length
    · have c1 : ((n + 1 : Nat) : Int) < (m.starts.length : Int) := by omega
      obtain ⟨r1, _, g1⟩ := getInt hv (n + 1) hl
      have c2 : ¬ m.starts.getD (n + 1) 0 ≤ A := by have := hj.2.2 hl; omega
      simp only [t1, t2, t5, hg, hv.len, w1, c1, c2, g1, RX, VOp.fresh, bxC, bsC, un, most, callsOf, seval, Int.reducePow, ↓reduceIte, Nat.reduceEqDiff, reduceCtorEq]
      refine hK _ ?_
      simp only [t5, sg_set, Nat.reduceEqDiff, ↓reduceIte]
    · have c1 : ¬ ((n + 1 : Nat) : Int) < (m.starts.length : Int) := by omega
      simp only [t1, t2, t5, hg, hv.len, w1, c1, RX, VOp.fresh, bxC, bsC, un, most, callsOf, seval, Int.reducePow, ↓reduceIte, Nat.reduceEqDiff, reduceCtorEq]
      refine hK _ ?_
      simp only [t5, sg_set, Nat.reduceEqDiff, ↓reduceIte]
  | succ r ih =>
    intro n s k Q hn t1 t2 t5 hK
    refine g.lpe b56_0.eq_1 ?_
    have w1 : IntKind.i64.wrap ((n : Int) + 1) = ((n + 1 : Nat) : Int) := by rw [w64 (by omega) (by omega)]; push_cast; rfl
    have c1 : ((n + 1 : Nat) : Int) < (m.starts.length : Int) := by omega
    obtain ⟨r1, _, g1⟩ := getInt hv (n + 1) (by omega)
    have c2 : m.starts.getD (n + 1) 0 ≤ A := by
      rcases Nat.lt_or_ge (n + 1) j with e | e
      · have := hr.lt e hj1; have := hj.2.1; omega
      · rw [show n + 1 = j by omega]; exact hj.2.1
    simp only [t1, t2, t5, hg, hv.len, w1, c1, c2, g1, RX, VOp.fresh, bxC, bsC, un, most, callsOf, seval, Int.reducePow, ↓reduceIte, Nat.reduceEqDiff, reduceCtorEq]
    refine ih (n + 1) _ k Q (by omega) ?_ ?_ ?_ hK
    · simp only [t1, sg_set, Nat.reduceEqDiff, ↓reduceIte]
    · simp only [t2, sg_set, Nat.reduceEqDiff, ↓reduceIte]
    · simp only [sg_set, Nat.reduceEqDiff, ↓reduceIte]
theorem rat_pu (g : Pg P tab) {m : Mp} {v u : AV} (hv : IsL 8 RInt v m.starts) (hr : Rise m.starts) (hlen : m.starts.length ≤ 32) {A : Int} {j : Nat} (hj : IxAt m.starts A j) : Pu P 56 [.agg [.int .i64 m.epoch, v, u], .int .i64 A] (fun x => x = .int .i64 j) := by
  refine g.pu (vf := v56) rfl rfl ?_
  simp only [v56, RX, VOp.fresh, bxC, bsC, un, most, callsOf, seval, Int.reducePow, ↓reduceIte, Nat.reduceEqDiff, reduceCtorEq]
  refine rat_loop g hv hr hlen hj (b := 0) (e := 24) (ver := 0) (by rw [Heap.get_mk, if_pos rfl]) j 0 _ _ _ (by omega) ?_ ?_ ?_ fun s' t5 => ?_
  · simp only [sg_set, Nat.reduceEqDiff, ↓reduceIte]
  · simp only [sg_set, Nat.reduceEqDiff, ↓reduceIte]
  · simp only [sg_set, Nat.reduceEqDiff, ↓reduceIte]
    rfl
  · simp only [t5, RX, VOp.fresh, bxC, bsC, un, most, callsOf, seval, Int.reducePow, ↓reduceIte, Nat.reduceEqDiff, reduceCtorEq]
theorem SRow.tl {r : Bool} {h : Heap} {v : AV} {R : List Int} (s : SRow h v 1 (ic R) R.length) (h0 : 0 < R.length) : Fz r h v (tI R) := by
  rcases s with ⟨_, e, _⟩ | ⟨b, e, ver, rfl, hb, hg, hl, ho⟩
  · omega
  · exact .sl h0 hg (by rw [cut_eq, List.drop_zero, Nat.mul_one, List.take_of_length_le (by rw [ic_len]; exact Nat.le_refl _), if_pos (ic_len R)]) (ic_fz R)
theorem ic_app (a b : List Int) : ic a ++ ic b = ic (a ++ b) := by simp [ic]
theorem rsHi {l : List Int} {i : Nat} (hi : i ≤ l.length) : sliceV 1 (.rs (ic l) l.length) none (some (.int .i64 (i : Int))) none = some (.rs (ic (l.take i)) i) := by
  simp [sliceV, bounds, nat_of hi, ic, List.map_take]
theorem rsLo {l : List Int} {i : Nat} (hi : i ≤ l.length) : sliceV 1 (.rs (ic l) l.length) (some (.int .i64 (i : Int))) none none = some (.rs (ic (l.drop i)) (l.length - i)) := by
  have : (List.drop i (List.map (AV.int .i64) l)).take (l.length - i) = List.drop i (List.map (AV.int .i64) l) := List.take_of_length_le (by simp)
  simp [sliceV, bounds, nat_of hi, ic, List.map_drop, this]
theorem rs_cells {l : List Int} {n : Nat} (hn : l.length = n) (H : Heap) : cellsOf H 1 n (.rs (ic l) n) = some (ic l) := by
  simp only [cellsOf, Nat.mul_one]
  rw [cut_eq, List.drop_zero, List.take_of_length_le (by rw [ic_len]; omega), if_pos (by rw [ic_len]; exact hn)]
theorem rcut_cl (g : Pg P tab) {l : List Int} {w : AV} (hw : IsL 8 RInt w l) (h0 : 0 < l.length) (h32 : l.length ≤ 100) {i : Nat} (hi : i ≤ l.length) {x : Int} {b : Bool} (hb : b = true → i < l.length ∧ 2 ≤ l.length) {h : Heap} {Q : AV → Heap → Prop}
    (q : ∀ v h', SRow h' v 1 (ic (if b then l.eraseIdx i else ins l i x)) (if b then l.eraseIdx i else ins l i x).length → Ext h h' → (∀ c ∈ blkOf v, h.next ≤ c) → Q v h') : Cl P 57 [w, .int .i64 i, .int .i64 x, .bool b] h Q := by
  obtain ⟨hbd, ⟨rfl, hl⟩ | ⟨c, rfl, hc⟩⟩ := hw
  · rw [hl] at h0; simp at h0
  obtain rfl := cat_int hc
  refine g.cl (vf := v57) rfl rfl ?_
  have hi1 := rsHi hi
  have hi2 := rsLo hi
  have x0 := Ext.mk (h := h) (.cells [] 3 0)
  have nx0 : (h.mk' h.next (.cells [] 3 0)).next = h.next + 1 := by rw [mk_next]; omega
  have s0 : SRow (h.mk' h.next (.cells [] 3 0)) (.sl h.next 0 0 0 1) 1 (ic []) 0 := .inr ⟨h.next, 3, 0, rfl, by omega, by rw [Heap.get_mk, if_pos rfl]; rfl, rfl, rfl⟩
  obtain ⟨v1, h1, e1, s1, n1, b1, k1⟩ := s0.app (x := .rs (ic (l.take i)) i) (c := ic (l.take i)) (m := i) (rs_cells (by rw [List.length_take]; omega) _) rfl (by rw [ic_len, List.length_take]; omega) (ic_one _) (bytes := 8) (by unfold most2; omega) 3
  rw [ic_app, List.nil_append, Nat.zero_add] at s1
  rw [nx0] at n1 b1 k1
  have g1 : ∀ c ∈ blkOf v1, h.next ≤ c := fun c hc => by
    rcases b1 c hc with e | e
    · simp [blkOf] at e; omega
    · omega
  have x1 : Ext h h1 := ⟨by omega, fun c hc => (k1 c (by omega) (by simp [blkOf]; omega)).trans (x0.2 c hc)⟩
  simp only [v57, hi1, e1, HN, RW, RX, VOp.fresh, bxC, bsC, un, most, callsOf, seval, Int.reducePow, ↓reduceIte, Nat.reduceEqDiff, reduceCtorEq]
  cases b with
  | true =>
    obtain ⟨hb1, hb2⟩ := hb rfl
    have w1 : IntKind.i64.wrap ((i : Int) + 1) = ((i + 1 : Nat) : Int) := by rw [w64 (by omega) (by omega)]; push_cast; rfl
    have hi3 := rsLo (l := l) (i := i + 1) (by omega)
    obtain ⟨v2, h2, e2, s2, n2, b2, k2⟩ := s1.app (x := .rs (ic (l.drop (i + 1))) (l.length - (i + 1))) (c := ic (l.drop (i + 1))) (m := l.length - (i + 1)) (rs_cells (by rw [List.length_drop]) _) rfl (by rw [ic_len, List.length_drop]; omega) (ic_one _) (bytes := 8) (by unfold most2; omega) 3
    rw [ic_app] at s2
    have er : l.take i ++ l.drop (i + 1) = l.eraseIdx i := (List.eraseIdx_eq_take_drop_succ l i).symm
    have le : (l.eraseIdx i).length = l.length - 1 := List.length_eraseIdx_of_lt hb1
    rw [er, show i + (l.length - (i + 1)) = (l.eraseIdx i).length by omega] at s2
    simp only [w1, hi3, e2, RW, RX, VOp.fresh, bxC, bsC, un, most, callsOf, seval, Int.reducePow, ↓reduceIte, Nat.reduceEqDiff, reduceCtorEq]
    exact q v2 h2 s2 ⟨by have := x1.1; omega, fun c hc => (k2 c (by have := x1.1; omega) (fun e => by have := g1 c e; omega)).trans (x1.2 c hc)⟩ fun c hc => (b2 c hc).elim (g1 c) fun e => by have := x1.1; omega
  | false =>
    have xm := Ext.mk (h := h1) (.cells [.int .i64 x] 3 0)
    have nm : (h1.mk' h1.next (.cells [.int .i64 x] 3 0)).next = h1.next + 1 := by rw [mk_next]; omega
    obtain ⟨v2, h2, e2, s2, n2, b2, k2⟩ := (s1.ext xm).app (x := .sl h1.next 0 1 1 1) (c := [.int .i64 x]) (m := 1) (cells_of (by rw [Heap.get_mk, if_pos rfl]) rfl 0) rfl rfl rfl (bytes := 8) (by unfold most2; omega) 3
    rw [show [AV.int .i64 x] = ic [x] from rfl, ic_app] at s2
    rw [nm] at n2 b2 k2
    obtain ⟨v3, h3, e3, s3, n3, b3, k3⟩ := s2.app (x := .rs (ic (l.drop i)) (l.length - i)) (c := ic (l.drop i)) (m := l.length - i) (rs_cells (by rw [List.length_drop]) _) rfl (by rw [ic_len, List.length_drop]; omega) (ic_one _) (bytes := 8) (by unfold most2; omega) 3
    have er : l.take i ++ [x] ++ l.drop i = ins l i x := by simp [ins]
    have li : (ins l i x).length = l.length + 1 := ins_len hi _
    rw [ic_app, er, show i + 1 + (l.length - i) = (ins l i x).length by omega] at s3
    have g2 : ∀ c ∈ blkOf v2, h.next ≤ c := fun c hc => (b2 c hc).elim (g1 c) fun e => by have := x1.1; omega
    simp only [e2, hi2, e3, HN, RW, RX, VOp.fresh, bxC, bsC, un, most, callsOf, seval, Int.reducePow, ↓reduceIte, Nat.reduceEqDiff, reduceCtorEq]
    exact q v3 h3 s3 ⟨by have := x1.1; omega, fun c hc => (k3 c (by have := x1.1; omega) (fun e => by have := g2 c e; omega)).trans ((k2 c (by have := x1.1; omega) (fun e => by have := g1 c e; omega)).trans ((xm.2 c (by have := x1.1; omega)).trans (x1.2 c hc)))⟩ fun c hc => (b3 c hc).elim (g2 c) fun e => by have := x1.1; omega
end
end Go.Proofs.Ythmkenkjfmbkiaa.VM
namespace Go.Proofs.Ythmkenkjfmbkiaa.VM
attribute [local irreducible] Af Nx EvO Ev Un Gd Cd EvR EvQ EvC Nc Gc Lp EvM NxM AfM GdM EvMR EvMQ EvMD EvMC Nm Gm
section
variable {P : Program} {m : Mp} {v u : AV} {k a t nodes : Int}
theorem rchange_pu (g : Pg P tab) (hv : IsL 8 RInt v m.starts) (hu : IsL 8 RInt u m.owners) (ha : I64 a) (ht : I64 t) :
    Pu P 29 [.agg [.int .i64 m.epoch, v, u], .int .i64 nodes, .agg [.int .i64 k, .int .i64 a, .int .i64 t]] (fun R => (∃ e, ChErr nodes m k a t e ∧ R = .tup [.agg z3, .int .i64 e]) ∨ ∃ i, ChYes nodes m k a t i ∧ R = .tup [toldMp (chgR m k a t i), .int .i64 0]) := by
  have ov := isL_one hv
  have ou := isL_one hu
  have tl : ∀ l, AV.tolds l = true → AV.tolds (.agg [.int .i64 m.epoch, v, u] :: l) = true := fun l hl => by simp only [AV.tolds, AV.told, hv.told tInt, hu.told tInt, hl, Bool.and_true, Bool.and_self]
  have bad : ∀ (e : Int) (H : Heap), ChErr nodes m k a t e → Tl H (.tup [.agg z3, .int .i64 e]) (fun R => (∃ e, ChErr nodes m k a t e ∧ R = .tup [.agg z3, .int .i64 e]) ∨ ∃ i, ChYes nodes m k a t i ∧ R = .tup [toldMp (chgR m k a t i), .int .i64 0]) := fun e H c =>
    ⟨_, .tup (.cons (.agg (.cons (.int _ _) (.cons .nils (.cons .nils .nil)))) (.cons (.int _ _) .nil)), .inl ⟨e, c, rfl⟩⟩
  refine g.pu (vf := v29) rfl rfl ?_
  simp only [v29, RW, RX, VOp.fresh, bxC, bsC, un, most, callsOf, seval, Int.reducePow, ↓reduceIte, Nat.reduceEqDiff, reduceCtorEq]
  refine (rMap_pu g hv hu).go (tl _ rfl) ?_
  rintro x ⟨b, rfl, hb⟩
  by_cases pre : ChP nodes m k a
  · have hb1 : b = true := hb.2 pre.1
    subst hb1
    obtain ⟨p1, p2, p3, p4, p5⟩ := id pre
    have c1 : ¬ k < 0 := by omega
    have c2 : ¬ 2 < k := by omega
    have c3 : ¬ a < 0 := by omega
    have c4 : ¬ 4294967296 ≤ a := by omega
    by_cases he : m.epoch = 65535
    · simp only [c1, c2, c3, c4, he, RW, RX, VOp.fresh, bxC, bsC, un, most, callsOf, seval, Int.reducePow, ↓reduceIte, Nat.reduceEqDiff, reduceCtorEq]
      exact bad 701 _ (.inr (.inl ⟨pre, he, rfl⟩))
    · have he1 := p1.2.2.1
      have he2 := p1.2.2.2.1
      have h0 : 0 < m.starts.length := p1.2.2.2.2.1
      have w1 : IntKind.i64.wrap (m.epoch + 1) = m.epoch + 1 := w64 (by omega) (by omega)
      obtain ⟨i, hi⟩ := ixAt_ex p1.rise h0 (d := a) (by have := p1.2.2.2.2.2.2.2.1; omega)
      simp only [c1, c2, c3, c4, he, RW, RX, VOp.fresh, bxC, bsC, un, most, callsOf, seval, Int.reducePow, ↓reduceIte, Nat.reduceEqDiff, reduceCtorEq]
      refine (rat_pu g hv p1.rise p1.2.2.2.2.2.1 hi).go (tl _ rfl) ?_
      rintro _ rfl
      simp only [w1, RW, RX, VOp.fresh, bxC, bsC, un, most, callsOf, seval, Int.reducePow, ↓reduceIte, Nat.reduceEqDiff, reduceCtorEq]
      refine EvMD.lk (fun _ _ h => (.undef, h)) ?_
      have hlo := p1.2.2.2.2.2.2.1
      have hls := p1.2.2.2.2.2.1
      simp only [w1, RW, RX, VOp.fresh, bxC, bsC, un, most, callsOf, seval, Int.reducePow, ↓reduceIte, Nat.reduceEqDiff, reduceCtorEq]
      have g0 : ((((((({ next := 0, t := T.e } : Heap).mk' 0 (.cells [.int .i64 m.epoch, v, u] 24 0)).mk' 1 (.cells [.int .i64 k, .int .i64 a, .int .i64 t] 26 0)).mk' 2 (.cells z3 24 0)).mk' 6 .dead).mk' 10 .dead).mk' 15 .dead).get 0 = some (.cells [.int .i64 m.epoch, v, u] 24 0) := by simp only [RW, RX, VOp.fresh, bxC, bsC, un, most, callsOf, seval, Int.reducePow, ↓reduceIte, Nat.reduceEqDiff, reduceCtorEq]
      have g1 : ((((((({ next := 0, t := T.e } : Heap).mk' 0 (.cells [.int .i64 m.epoch, v, u] 24 0)).mk' 1 (.cells [.int .i64 k, .int .i64 a, .int .i64 t] 26 0)).mk' 2 (.cells z3 24 0)).mk' 6 .dead).mk' 10 .dead).mk' 15 .dead).get 1 = some (.cells [.int .i64 k, .int .i64 a, .int .i64 t] 26 0) := by simp only [RW, RX, VOp.fresh, bxC, bsC, un, most, callsOf, seval, Int.reducePow, ↓reduceIte, Nat.reduceEqDiff, reduceCtorEq]
      have g2 : ((((((({ next := 0, t := T.e } : Heap).mk' 0 (.cells [.int .i64 m.epoch, v, u] 24 0)).mk' 1 (.cells [.int .i64 k, .int .i64 a, .int .i64 t] 26 0)).mk' 2 (.cells z3 24 0)).mk' 6 .dead).mk' 10 .dead).mk' 15 .dead).get 2 = some (.cells z3 24 0) := by simp only [RW, RX, VOp.fresh, bxC, bsC, un, most, callsOf, seval, Int.reducePow, ↓reduceIte, Nat.reduceEqDiff, reduceCtorEq]
      have n0 : ((((((({ next := 0, t := T.e } : Heap).mk' 0 (.cells [.int .i64 m.epoch, v, u] 24 0)).mk' 1 (.cells [.int .i64 k, .int .i64 a, .int .i64 t] 26 0)).mk' 2 (.cells z3 24 0)).mk' 6 .dead).mk' 10 .dead).mk' 15 .dead).next = 16 := by simp only [mk_next]; omega
      generalize (((((({ next := 0, t := T.e } : Heap).mk' 0 (.cells [.int .i64 m.epoch, v, u] 24 0)).mk' 1 (.cells [.int .i64 k, .int .i64 a, .int .i64 t] 26 0)).mk' 2 (.cells z3 24 0)).mk' 6 .dead).mk' 10 .dead).mk' 15 .dead = H at *
      have k6 : ∀ c, c ≠ 6 → (H.mk' 6 (.cells [] 3 0)).get c = H.get c := fun c hc => by rw [Heap.get_mk, if_neg hc]
      have s0 : SRow (H.mk' 6 (.cells [] 3 0)) (.sl 6 0 0 0 1) 1 (ic []) 0 := .inr ⟨6, 3, 0, rfl, by rw [mk_next]; omega, by rw [Heap.get_mk, if_pos rfl]; rfl, rfl, rfl⟩
      obtain ⟨q1, q2⟩ := isL_cells hv (H.mk' 6 (.cells [] 3 0))
      obtain ⟨v1, h1, e1, s1, n1, b1, k1⟩ := s0.app (x := v) (c := ic m.starts) (m := m.starts.length) q2 q1 (by rw [ic_len]; omega) (ic_one _) (bytes := 8) (by unfold most2; omega) 3
      have g01 := (k1 0 (by rw [mk_next]; omega) (by simp [blkOf])).trans ((k6 0 (by omega)).trans g0)
      simp only [w1, e1, g01, RW, RX, VOp.fresh, bxC, bsC, un, most, callsOf, seval, Int.reducePow, ↓reduceIte, Nat.reduceEqDiff, reduceCtorEq]
      have n1' : 16 ≤ h1.next := by rw [mk_next] at n1; omega
      have k10 : ∀ c, c ≠ 10 → (h1.mk' 10 (.cells [] 3 0)).get c = h1.get c := fun c hc => by rw [Heap.get_mk, if_neg hc]
      have s0' : SRow (h1.mk' 10 (.cells [] 3 0)) (.sl 10 0 0 0 1) 1 (ic []) 0 := .inr ⟨10, 3, 0, rfl, by rw [mk_next]; omega, by rw [Heap.get_mk, if_pos rfl]; rfl, rfl, rfl⟩
      obtain ⟨q3, q4⟩ := isL_cells hu (h1.mk' 10 (.cells [] 3 0))
      obtain ⟨v2, h2, e2, s2, n2, b2, k2⟩ := s0'.app (x := u) (c := ic m.owners) (m := m.owners.length) q4 q3 (by rw [ic_len]; omega) (ic_one _) (bytes := 8) (by unfold most2; omega) 3
      have g11 := (k1 1 (by rw [mk_next]; omega) (by simp [blkOf])).trans ((k6 1 (by omega)).trans g1)
      have g21 := (k1 2 (by rw [mk_next]; omega) (by simp [blkOf])).trans ((k6 2 (by omega)).trans g2)
      have g02 := (k2 0 (by rw [mk_next]; omega) (by simp [blkOf])).trans ((k10 0 (by omega)).trans g01)
      have g12 := (k2 1 (by rw [mk_next]; omega) (by simp [blkOf])).trans ((k10 1 (by omega)).trans g11)
      have g22 := (k2 2 (by rw [mk_next]; omega) (by simp [blkOf])).trans ((k10 2 (by omega)).trans g21)
      have on1 := s1.one
      have on2 := s2.one
      have ce1 := s1.cells
      have ce2 := s2.cells
      simp only [w1, e2, g02, on1, on2, ce1, ce2, RW, RX, VOp.fresh, bxC, bsC, un, most, callsOf, seval, Int.reducePow, ↓reduceIte, Nat.reduceEqDiff, reduceCtorEq]
      have g06 := (k6 0 (by omega)).trans g0
      have g010 := (k10 0 (by omega)).trans g01
      have k15 : ∀ (X : Blk) c, c ≠ 15 → (h2.mk' 15 X).get c = h2.get c := fun X c hc => by rw [Heap.get_mk, if_neg hc]
      have g015 := (k15 (.cells z3 24 0) 0 (by omega)).trans g02
      refine ⟨⟨⟨?_, ?_, ?_, ?_, ?_, trivial⟩, ⟨?_, trivial⟩, ⟨?_, ?_, ?_, trivial⟩, trivial⟩, ?_⟩
      · show Lk _ _ _ _
        simp only [Lk, wanted, g0, g06, g01, g010, g02, g015, RX, VOp.fresh, bxC, bsC, un, most, callsOf, seval, Int.reducePow, ↓reduceIte, Nat.reduceEqDiff, reduceCtorEq]
      · show Lk _ _ _ _
        simp only [Lk, wanted, g0, g06, g01, g010, g02, g015, RX, VOp.fresh, bxC, bsC, un, most, callsOf, seval, Int.reducePow, ↓reduceIte, Nat.reduceEqDiff, reduceCtorEq]
      · show Lk _ _ _ _
        simp only [Lk, wanted, g0, g06, g01, g010, g02, g015, RX, VOp.fresh, bxC, bsC, un, most, callsOf, seval, Int.reducePow, ↓reduceIte, Nat.reduceEqDiff, reduceCtorEq]
      · show Lk _ _ _ _
        simp only [Lk, wanted, g0, g06, g01, g010, g02, g015, RX, VOp.fresh, bxC, bsC, un, most, callsOf, seval, Int.reducePow, ↓reduceIte, Nat.reduceEqDiff, reduceCtorEq]
      · show Lk _ _ _ _
        simp only [Lk, wanted, g0, g06, g01, g010, g02, g015, RX, VOp.fresh, bxC, bsC, un, most, callsOf, seval, Int.reducePow, ↓reduceIte, Nat.reduceEqDiff, reduceCtorEq]
      · show Lk _ _ _ _
        simp only [Lk, wanted, g0, g06, g01, g010, g02, g015, RX, VOp.fresh, bxC, bsC, un, most, callsOf, seval, Int.reducePow, ↓reduceIte, Nat.reduceEqDiff, reduceCtorEq]
      · show Lk _ _ _ _
        simp only [Lk, wanted, g0, g06, g01, g010, g02, g015, RX, VOp.fresh, bxC, bsC, un, most, callsOf, seval, Int.reducePow, ↓reduceIte, Nat.reduceEqDiff, reduceCtorEq]
      · show Lk _ _ _ _
        simp only [Lk, wanted, g0, g06, g01, g010, g02, g015, RX, VOp.fresh, bxC, bsC, un, most, callsOf, seval, Int.reducePow, ↓reduceIte, Nat.reduceEqDiff, reduceCtorEq]
      · show Lk _ _ _ _
        simp only [Lk, wanted, g0, g06, g01, g010, g02, g015, RX, VOp.fresh, bxC, bsC, un, most, callsOf, seval, Int.reducePow, ↓reduceIte, Nat.reduceEqDiff, reduceCtorEq]
      have nH6 : (H.mk' 6 (.cells [] 3 0)).next = 16 := by rw [mk_next]; omega
      have nH10 : (h1.mk' 10 (.cells [] 3 0)).next = h1.next := by rw [mk_next]; omega
      rw [nH6] at b1 k1
      rw [nH10] at n2 b2 k2
      have bv1 : ∀ c ∈ blkOf v1, c ≠ 10 ∧ c ≠ 15 := fun c hc => by
        rcases b1 c hc with e | e
        · simp [blkOf] at e; omega
        · omega
      have bv2 : ∀ c ∈ blkOf v2, c ≠ 15 := fun c hc => by
        rcases b2 c hc with e | e
        · simp [blkOf] at e; omega
        · omega
      have s1b : SRow h2 v1 1 (ic m.starts) m.starts.length := by
        rw [← ic_len m.starts, ic_len] at *
        have s1' := s1
        simp only [Nat.zero_add, List.nil_append, show ic ([] : List Int) = [] from rfl] at s1'
        exact s1'.frame (by omega) fun c hc => (k2 c (s1'.lt c hc) (by have := bv1 c hc; simp [blkOf]; omega)).trans (k10 c (bv1 c hc).1)
      have s2b : SRow h2 v2 1 (ic m.owners) m.owners.length := by
        simpa only [Nat.zero_add, List.nil_append, show ic ([] : List Int) = [] from rfl] using s2
      have kF : ∀ (X Y : Blk) c, c ≠ 15 → ((h2.mk' 15 X).put 15 Y).get c = h2.get c := fun X Y c hc => by rw [Heap.get_put, if_neg hc, Heap.get_mk, if_neg hc]
      have nF : ∀ (X Y : Blk), ((h2.mk' 15 X).put 15 Y).next = h2.next := fun X Y => by rw [put_next, mk_next]; omega
      have s1c := s1b.frame (h' := (h2.mk' 15 (.cells [.int .i64 0, .nils, .nils] 24 0)).put 15 (.cells [.int .i64 (m.epoch + 1), v1, v2] 24 1)) (by rw [nF]; exact Nat.le_refl _) fun c hc => kF _ _ c (bv1 c hc).2
      have s2c := s2b.frame (h' := (h2.mk' 15 (.cells [.int .i64 0, .nils, .nils] 24 0)).put 15 (.cells [.int .i64 (m.epoch + 1), v1, v2] 24 1)) (by rw [nF]; exact Nat.le_refl _) fun c hc => kF _ _ c (bv2 c hc)
      have g03 := (kF (.cells [.int .i64 0, .nils, .nils] 24 0) (.cells [.int .i64 (m.epoch + 1), v1, v2] 24 1) 0 (by omega)).trans g02
      have g13 := (kF (.cells [.int .i64 0, .nils, .nils] 24 0) (.cells [.int .i64 (m.epoch + 1), v1, v2] 24 1) 1 (by omega)).trans g12
      have g23 := (kF (.cells [.int .i64 0, .nils, .nils] 24 0) (.cells [.int .i64 (m.epoch + 1), v1, v2] 24 1) 2 (by omega)).trans g22
      have g153 : ((h2.mk' 15 (.cells [.int .i64 0, .nils, .nils] 24 0)).put 15 (.cells [.int .i64 (m.epoch + 1), v1, v2] 24 1)).get 15 = some (.cells [.int .i64 (m.epoch + 1), v1, v2] 24 1) := by rw [Heap.get_put, if_pos rfl]
      have n3 := nF (.cells [.int .i64 0, .nils, .nils] 24 0) (.cells [.int .i64 (m.epoch + 1), v1, v2] 24 1)
      generalize (h2.mk' 15 (.cells [.int .i64 0, .nils, .nils] 24 0)).put 15 (.cells [.int .i64 (m.epoch + 1), v1, v2] 24 1) = h3 at *
      clear kF nF g02 g22 g015 k15 g06 g010 g01 g11 g21
      obtain ⟨r1, _, ia1⟩ := getInt hv i hi.1
      have hi32 := hi.1
      have w2 : IntKind.i64.wrap ((i : Int) + 1) = ((i + 1 : Nat) : Int) := by rw [w64 (by omega) (by omega)]; push_cast; rfl
      have hil := hi.1
      by_cases k0 : k = 0
      · subst k0
        have fact := chg0_ok (t := t) p1 he p4 p5 hi
        by_cases d1 : m.starts.getD i 0 = a
        · simp only [w1, g03, g12, g13, g23, g153, ia1, d1, RW, RX, VOp.fresh, bxC, bsC, un, most, callsOf, seval, Int.reducePow, ↓reduceIte, Nat.reduceEqDiff, reduceCtorEq]
          exact bad 700 _ (.inr (.inr ⟨pre, he, rfl, i, hi, .inr fun o => (fact.1 o).1 d1⟩))
        · by_cases d2 : m.starts.length = 32
          · have d2' : ((m.starts.length : Nat) : Int) = 32 := by omega
            simp only [w1, g03, g12, g13, g23, g153, ia1, d1, hv.len, d2', RW, RX, VOp.fresh, bxC, bsC, un, most, callsOf, seval, Int.reducePow, ↓reduceIte, Nat.reduceEqDiff, reduceCtorEq]
            exact bad 700 _ (.inr (.inr ⟨pre, he, rfl, i, hi, .inr fun o => (fact.1 o).2 d2⟩))
          · have d2' : ¬ ((m.starts.length : Nat) : Int) = 32 := by omega
            simp only [w1, g03, g12, g13, g23, g153, ia1, d1, hv.len, d2', w2, RW, RX, VOp.fresh, bxC, bsC, un, most, callsOf, seval, Int.reducePow, ↓reduceIte, Nat.reduceEqDiff, reduceCtorEq]
            have hlen2 : i + 1 ≤ m.starts.length := hil
            refine rcut_cl g hv h0 (by omega) (i := i + 1) hil (b := false) (fun e => by cases e) fun v4 h4 s4 x4 b4 => ?_
            have g04 := (x4.2 0 (by omega)).trans g03
            have g14 := (x4.2 1 (by omega)).trans g13
            have g24 := (x4.2 2 (by omega)).trans g23
            have g154 := (x4.2 15 (by omega)).trans g153
            have on4 := s4.one
            have ce4 := s4.cells
            obtain ⟨r2, _, ia2⟩ := getInt hu i (by omega)
            simp only [w2, g04, g14, g24, g154, ia2, on4, ce4, hu.len, RW, RX, VOp.fresh, bxC, bsC, un, most, callsOf, seval, Int.reducePow, ↓reduceIte, Nat.reduceEqDiff, reduceCtorEq]
            have h3n : 16 ≤ h3.next := by omega
            have x4n := x4.1
            refine rcut_cl g hu (by omega) (by omega) (i := i + 1) (by omega) (b := false) (fun e => by cases e) fun v5 h5 s5 x5 b5 => ?_
            have x5n := x5.1
            rw [put_next] at x5n
            have g155 := (x5.2 15 (by rw [put_next]; omega)).trans (by rw [Heap.get_put, if_pos rfl])
            have g25 := (x5.2 2 (by rw [put_next]; omega)).trans ((by rw [Heap.get_put, if_neg (by omega)] : (h4.put 15 (.cells [.int .i64 (m.epoch + 1), v4, v2] 24 2)).get 2 = h4.get 2).trans g24)
            have on5 := s5.one
            have ce5 := s5.cells
            simp only [g155, g25, on4, ce4, on5, ce5, RW, RX, VOp.fresh, bxC, bsC, un, most, callsOf, seval, Int.reducePow, ↓reduceIte, Nat.reduceEqDiff, reduceCtorEq]
            have f4 : SRow h5 v4 1 (ic (ins m.starts (i + 1) a)) (ins m.starts (i + 1) a).length := s4.frame (by omega) fun c hc => (x5.2 c (by rw [put_next]; exact s4.lt c hc)).trans (by have := b4 c hc; rw [Heap.get_put, if_neg (by omega)])
            have fin : ∀ {v : AV} {R : List Int} (X Y : Blk), SRow h5 v 1 (ic R) R.length → (∀ c ∈ blkOf v, 16 ≤ c) → SRow ((h5.put 15 X).put 2 Y) v 1 (ic R) R.length := fun X Y s hb => s.frame (by simp only [put_next]; exact Nat.le_refl _) fun c hc => by
              have := hb c hc
              rw [Heap.get_put, if_neg (by omega), Heap.get_put, if_neg (by omega)]
            have hio : i < m.owners.length := by omega
            have li : (ins m.starts (i + 1) a).length = m.starts.length + 1 := ins_len hil _
            have lo : (ins m.owners (i + 1) (m.owners.getD i 0)).length = m.owners.length + 1 := ins_len (by omega) _
            refine ⟨_, .tup (.cons (.agg (.cons (.int _ _) (.cons ((fin _ _ f4 fun c hc => by have := b4 c hc; omega).tl (by omega)) (.cons ((fin _ _ s5 fun c hc => by have := b5 c hc; rw [put_next] at this; omega).tl (by show 0 < (ins m.owners (i + 1) (m.owners.getD i 0)).length; omega)) .nil)))) (.cons (.int _ _) .nil)), .inr ⟨i, ⟨pre, he, hi, by simp, fact.2 ⟨d1, d2⟩⟩, rfl⟩⟩
      by_cases k1' : k = 1
      · subst k1'
        have fact := chg1_ok (t := t) p1 he hi
        by_cases d1 : t < 0
        · simp only [w1, g03, g12, g13, g23, g153, d1, RW, RX, VOp.fresh, bxC, bsC, un, most, callsOf, seval, Int.reducePow, ↓reduceIte, Nat.reduceEqDiff, reduceCtorEq]
          exact bad 700 _ (.inr (.inr ⟨pre, he, rfl, i, hi, .inr fun o => by have := (fact.1 o).1; omega⟩))
        by_cases d2 : nodes ≤ t
        · simp only [w1, g03, g12, g13, g23, g153, d1, d2, RW, RX, VOp.fresh, bxC, bsC, un, most, callsOf, seval, Int.reducePow, ↓reduceIte, Nat.reduceEqDiff, reduceCtorEq]
          exact bad 700 _ (.inr (.inr ⟨pre, he, rfl, i, hi, .inr fun o => by have := (fact.1 o).2; omega⟩))
        · rcases s2c with ⟨_, e, _⟩ | ⟨b3, e3, ver3, rfl, hb3, hg3, hl3, ho3⟩
          · omega
          have hio : i < m.owners.length := by omega
          have hia : ∀ (hh : Heap) (q : IntKind), iaV hh 1 none (.sl b3 0 m.owners.length m.owners.length 1) (.int q (i : Int)) = .val (.ptr b3 i) hh := fun hh q => by
            have : 0 ≤ (i : Int) ∧ (i : Int) < (m.owners.length : Int) ∧ 1 = 1 := ⟨by omega, by omega, rfl⟩
            simp only [iaV, this, and_self, if_true, Int.toNat_natCast, Nat.zero_add, Nat.mul_one]
          have hw := wr_at hg3 (show i < (ic m.owners).length by rw [ic_len]; exact hio) (x := .int .i64 t) rfl
          have b3n : b3 = 10 ∨ h1.next ≤ b3 := by
            rcases b2 b3 (by simp [blkOf]) with e | e
            · exact .inl (by simpa [blkOf] using e)
            · exact .inr e
          have nb15 : ¬ 15 = b3 := by omega
          have nb2 : ¬ 2 = b3 := by omega
          have on3 := s1c.one
          have ce3 := s1c.cells
          simp only [w1, g03, g12, g13, g23, g153, d1, d2, hia, hw, nb15, nb2, on3, ce3, RW, RX, VOp.fresh, bxC, bsC, un, most, callsOf, seval, Int.reducePow, ↓reduceIte, Nat.reduceEqDiff, reduceCtorEq]
          have v1b : ∀ c ∈ blkOf v1, c ≠ b3 ∧ c ≠ 2 := fun c hc => by
            have l1 := s1.lt c hc
            rcases b1 c hc with e | e
            · simp [blkOf] at e; omega
            · omega
          have hset : (ic m.owners).set i (.int .i64 t) = ic (m.owners.set i t) := by simp [ic]
          have f1 : ∀ Y : Blk, SRow ((h3.put b3 (.cells ((ic m.owners).set i (.int .i64 t)) e3 (ver3 + 1))).put 2 Y) v1 1 (ic m.starts) m.starts.length := fun Y => s1c.frame (by simp only [put_next]; exact Nat.le_refl _) fun c hc => by
            have := v1b c hc
            rw [Heap.get_put, if_neg this.2, Heap.get_put, if_neg this.1]
          have f2 : ∀ Y : Blk, SRow ((h3.put b3 (.cells ((ic m.owners).set i (.int .i64 t)) e3 (ver3 + 1))).put 2 Y) (.sl b3 0 m.owners.length m.owners.length 1) 1 (ic (m.owners.set i t)) (m.owners.set i t).length := fun Y => .inr ⟨b3, e3, ver3 + 1, by rw [List.length_set], by simp only [put_next]; exact hb3, by rw [Heap.get_put, if_neg (Ne.symm nb2), Heap.get_put, if_pos rfl, hset], by rw [ic_len, Nat.mul_one], ic_one _⟩
          exact ⟨_, .tup (.cons (.agg (.cons (.int _ _) (.cons ((f1 _).tl h0) (.cons ((f2 _).tl (by rw [List.length_set]; omega)) .nil)))) (.cons (.int _ _) .nil)), .inr ⟨i, ⟨pre, he, hi, by simp, fact.2 ⟨by omega, by omega⟩⟩, rfl⟩⟩
      · obtain rfl : k = 2 := by omega
        by_cases d1 : i + 1 = m.starts.length
        · have d1' : ((i + 1 : Nat) : Int) = ((m.starts.length : Nat) : Int) := by omega
          simp only [w1, w2, g03, g12, g13, g23, g153, hv.len, d1', RW, RX, VOp.fresh, bxC, bsC, un, most, callsOf, seval, Int.reducePow, ↓reduceIte, Nat.reduceEqDiff, reduceCtorEq]
          exact bad 700 _ (.inr (.inr ⟨pre, he, rfl, i, hi, .inl ⟨rfl, d1⟩⟩))
        · have d1' : ¬ ((i + 1 : Nat) : Int) = ((m.starts.length : Nat) : Int) := by omega
          simp only [w1, w2, g03, g12, g13, g23, g153, hv.len, d1', RW, RX, VOp.fresh, bxC, bsC, un, most, callsOf, seval, Int.reducePow, ↓reduceIte, Nat.reduceEqDiff, reduceCtorEq]
          refine rcut_cl g hv h0 (by omega) (i := i + 1) hil (b := true) (fun _ => ⟨by omega, by omega⟩) fun v4 h4 s4 x4 b4 => ?_
          have g04 := (x4.2 0 (by omega)).trans g03
          have g14 := (x4.2 1 (by omega)).trans g13
          have g24 := (x4.2 2 (by omega)).trans g23
          have g154 := (x4.2 15 (by omega)).trans g153
          have on4 := s4.one
          have ce4 := s4.cells
          simp only [w2, g04, g14, g24, g154, on4, ce4, hu.len, RW, RX, VOp.fresh, bxC, bsC, un, most, callsOf, seval, Int.reducePow, ↓reduceIte, Nat.reduceEqDiff, reduceCtorEq]
          have h3n : 16 ≤ h3.next := by omega
          have x4n := x4.1
          refine rcut_cl g hu (by omega) (by omega) (i := i + 1) (by omega) (b := true) (fun _ => ⟨by omega, by omega⟩) fun v5 h5 s5 x5 b5 => ?_
          have x5n := x5.1
          rw [put_next] at x5n
          have g155 := (x5.2 15 (by rw [put_next]; omega)).trans (by rw [Heap.get_put, if_pos rfl])
          have g25 := (x5.2 2 (by rw [put_next]; omega)).trans ((by rw [Heap.get_put, if_neg (by omega)] : (h4.put 15 (.cells [.int .i64 (m.epoch + 1), v4, v2] 24 2)).get 2 = h4.get 2).trans g24)
          have on5 := s5.one
          have ce5 := s5.cells
          simp only [g155, g25, on4, ce4, on5, ce5, RW, RX, VOp.fresh, bxC, bsC, un, most, callsOf, seval, Int.reducePow, ↓reduceIte, Nat.reduceEqDiff, reduceCtorEq]
          have f4 : SRow h5 v4 1 (ic (m.starts.eraseIdx (i + 1))) (m.starts.eraseIdx (i + 1)).length := s4.frame (by omega) fun c hc => (x5.2 c (by rw [put_next]; exact s4.lt c hc)).trans (by have := b4 c hc; rw [Heap.get_put, if_neg (by omega)])
          have fin : ∀ {v : AV} {R : List Int} (X Y : Blk), SRow h5 v 1 (ic R) R.length → (∀ c ∈ blkOf v, 16 ≤ c) → SRow ((h5.put 15 X).put 2 Y) v 1 (ic R) R.length := fun X Y s hb => s.frame (by simp only [put_next]; exact Nat.le_refl _) fun c hc => by
            have := hb c hc
            rw [Heap.get_put, if_neg (by omega), Heap.get_put, if_neg (by omega)]
          have li : (m.starts.eraseIdx (i + 1)).length = m.starts.length - 1 := List.length_eraseIdx_of_lt (by omega)
          have lo : (m.owners.eraseIdx (i + 1)).length = m.owners.length - 1 := List.length_eraseIdx_of_lt (by omega)
          refine ⟨_, .tup (.cons (.agg (.cons (.int _ _) (.cons ((fin _ _ f4 fun c hc => by have := b4 c hc; omega).tl (by omega)) (.cons ((fin _ _ s5 fun c hc => by have := b5 c hc; rw [put_next] at this; omega).tl (by show 0 < (m.owners.eraseIdx (i + 1)).length; omega)) .nil)))) (.cons (.int _ _) .nil)), .inr ⟨i, ⟨pre, he, hi, fun e => d1 e.2, chg2_ok p1 he hi d1⟩, rfl⟩⟩
  · have go : ∀ H : Heap, _ := fun H => bad 700 H (.inl ⟨pre, rfl⟩)
    cases b with
    | false =>
      simp only [RW, RX, VOp.fresh, bxC, bsC, un, most, callsOf, seval, Int.reducePow, ↓reduceIte, Nat.reduceEqDiff, reduceCtorEq]
      exact go _
    | true =>
      have p1 := hb.1 rfl
      by_cases c1 : k < 0
      · simp only [c1, RW, RX, VOp.fresh, bxC, bsC, un, most, callsOf, seval, Int.reducePow, ↓reduceIte, Nat.reduceEqDiff, reduceCtorEq]
        exact go _
      by_cases c2 : 2 < k
      · simp only [c1, c2, RW, RX, VOp.fresh, bxC, bsC, un, most, callsOf, seval, Int.reducePow, ↓reduceIte, Nat.reduceEqDiff, reduceCtorEq]
        exact go _
      by_cases c3 : a < 0
      · simp only [c1, c2, c3, RW, RX, VOp.fresh, bxC, bsC, un, most, callsOf, seval, Int.reducePow, ↓reduceIte, Nat.reduceEqDiff, reduceCtorEq]
        exact go _
      by_cases c4 : 4294967296 ≤ a
      · simp only [c1, c2, c3, c4, RW, RX, VOp.fresh, bxC, bsC, un, most, callsOf, seval, Int.reducePow, ↓reduceIte, Nat.reduceEqDiff, reduceCtorEq]
        exact go _
      · exact absurd ⟨p1, by omega, by omega, by omega, by omega⟩ pre
end
end Go.Proofs.Ythmkenkjfmbkiaa.VM
namespace Go.Proofs.Ythmkenkjfmbkiaa.VM
def pF (i : Nat) : Feat := ⟨(i : Int) + 1, 0, [[⟨(i : Int), (i : Int)⟩]]⟩
def pFs (n : Nat) : List Feat := (List.range n).map pF
theorem pFs_len (n : Nat) : (pFs n).length = n := by simp [pFs]
theorem pF_ok {i : Nat} (h : i < 65535) : featOk (pF i) := by
  refine ⟨by show (1 : Int) ≤ (i : Int) + 1; omega, by show (i : Int) + 1 ≤ 65535; omega, by show 1 ≤ 1; decide, by show 1 ≤ 4; decide, .inl ⟨rfl, rfl, rfl, ?_⟩⟩
  show ptOk ⟨(i : Int), (i : Int)⟩
  exact ⟨⟨by show (0 : Int) ≤ i; omega, by show (i : Int) ≤ 4294967295; omega⟩, ⟨by show (0 : Int) ≤ i; omega, by show (i : Int) ≤ 4294967295; omega⟩⟩
theorem rsO_getD {M : Mp} {fs : List Feat} {i : Nat} (h : i < fs.length) : (rsO M fs).getD (i + 1) op0 = putF fs[i] := by
  simp [rsO, List.getD_eq_getElem?_getD, List.getElem?_eq_getElem h]
theorem pFs_get {n i : Nat} (h : i < (pFs n).length) : (pFs n)[i] = pF i := by simp [pFs]
/-- without a place taken twice: what is put may be -/
theorem forms_ok {q : Int} {M : Mp} {n : Nat} (ok : mpOk q M) (hn : n ≤ 31) : opsOk q (rsO M (pFs n)) := by
  have hl : (rsO M (pFs n)).length = n + 1 := by simp [rsO, pFs_len]
  refine ⟨by omega, by omega, fun i hi => ?_⟩
  rw [hl] at hi
  cases i with
  | zero => exact ⟨.inr (.inr ⟨rfl, ok, rfl, rfl, rfl, rfl⟩), fun _ => rfl, fun h => absurd h (by show ¬ (0 : Int) < 0; omega)⟩
  | succ i =>
    have hi' : i < (pFs n).length := by rw [pFs_len]; omega
    have e := rsO_getD (M := M) hi'
    rw [pFs_get hi'] at e
    rw [opsAt, e]
    refine ⟨.inl ⟨rfl, pF_ok (by omega), rfl, rfl, rfl, rfl⟩, fun h => absurd h (by show ¬ (0 : Int) = 2; omega), fun _ j hj => ?_⟩
    have e1 : opId (putF (pF i)) = (i : Int) + 1 := rfl
    rw [e1]
    cases j with
    | zero => show (0 : Int) ≠ (i : Int) + 1; omega
    | succ j =>
      have hj' : j < (pFs n).length := by rw [pFs_len]; omega
      rw [rsO_getD hj', pFs_get hj']
      have e2 : opId (putF (pF j)) = (j : Int) + 1 := rfl
      rw [e2]; omega
/-- with one taken twice it may not -/
theorem forms_twice {q : Int} {M : Mp} {fs : List Feat} (h2 : 2 ≤ fs.length) (h0 : (fs[0]'(by omega)).id = 1) (h1 : (fs[1]'(by omega)).id = 1) : ¬ opsOk q (rsO M fs) := by
  rintro ⟨_, _, h⟩
  have hl : (rsO M fs).length = fs.length + 1 := by simp [rsO]
  have := (h 2 (by omega)).2.2
  rw [rsO_getD (i := 1) (by omega)] at this
  have e1 : opId (putF (fs[1]'(by omega))) = 1 := h1
  have e0 : opId (putF (fs[0]'(by omega))) = 1 := h0
  rw [e1] at this
  have c := this (by omega) 1 (by omega)
  rw [rsO_getD (i := 0) (by omega), e0] at c
  exact c rfl
end Go.Proofs.Ythmkenkjfmbkiaa.VM
namespace Go.Proofs.Ythmkenkjfmbkiaa.VM
attribute [local irreducible] Af Nx EvO Ev Un Gd Cd EvR EvQ EvC Nc Gc Lp EvM NxM AfM GdM EvMR EvMQ EvMD EvMC Nm Gm
section
variable {P : Program}
theorem forms_loop (g : Pg P tab) {N : Nat} (hN : N ≤ 63) {N0 : Nat} (n : Nat) :
    ∀ (i : Nat) (s : T AV) (h : Heap) (k : List Fr) (Q : Ex → T AV → Heap → Prop), i + n = N → N0 ≤ h.next → LR h (N0 ≤ ·) (sg s 10) 3 ((pFs i).map cFeat).flatten i → sg s 9 = .int .i64 N → sg s 11 = .int .i64 i →
    (∀ s' h', LR h' (N0 ≤ ·) (sg s' 10) 3 ((pFs N).map cFeat).flatten N → (∀ b, b < N0 → h'.get b = h.get b) → N0 ≤ h'.next → (∀ j, j < 10 → sg s' j = sg s j) → Un P k Q (.exit 0) s' h') → Lp P b5_0 s h (Un P k Q) := by
  induction n with
  | zero =>
    intro i s h k Q hi hh r t9 t11 hQ
    refine g.lpe b5_0.eq_1 ?_
    have c1 : ¬ ((i : Int) < (N : Int)) := by omega
    simp only [t9, t11, c1, RX, VOp.fresh, bxC, bsC, un, most, callsOf, seval, Int.reducePow, ↓reduceIte, Nat.reduceEqDiff, reduceCtorEq]
    obtain rfl : i = N := by omega
    refine hQ _ _ ?_ (fun _ _ => rfl) hh fun j hj => by simp only [sg_set]; repeat rw [if_neg (by omega)]
    simp only [sg_set, Nat.reduceEqDiff, ↓reduceIte]
    exact r
  | succ n ih =>
    intro i s h k Q hi hh r t9 t11 hQ
    refine g.lpe b5_0.eq_1 ?_
    have c1 : ((i : Int) < (N : Int)) := by omega
    have w1 : IntKind.i64.wrap ((i : Int) + 1) = ((i + 1 : Nat) : Int) := by rw [w64 (by omega) (by omega)]; push_cast; rfl
    simp only [t9, t11, c1, w1, HN, RW, RX, VOp.fresh, bxC, bsC, un, most, callsOf, seval, Int.reducePow, ↓reduceIte, Nat.reduceEqDiff, reduceCtorEq]
    have xH : Ext h (((h.mk' h.next (.cells [.int .i64 i, .int .i64 i] 61 0)).mk' (h.next + 1) (.cells [.sl h.next 0 1 1 2] 62 0)).mk' (h.next + 2) (.cells [.int .i64 ((i + 1 : Nat) : Int), .int .i64 0, .sl (h.next + 1) 0 1 1 1] 50 0)) := (((Ext.refl h).mkn (Nat.le_refl _) _).mkn (by omega) _).mkn (by omega) _
    have g0 : (((h.mk' h.next (.cells [.int .i64 i, .int .i64 i] 61 0)).mk' (h.next + 1) (.cells [.sl h.next 0 1 1 2] 62 0)).mk' (h.next + 2) (.cells [.int .i64 ((i + 1 : Nat) : Int), .int .i64 0, .sl (h.next + 1) 0 1 1 1] 50 0)).get h.next = some (.cells [.int .i64 i, .int .i64 i] 61 0) := by rw [Heap.get_mk, if_neg (by omega), Heap.get_mk, if_neg (by omega), Heap.get_mk, if_pos rfl]
    have g1 : (((h.mk' h.next (.cells [.int .i64 i, .int .i64 i] 61 0)).mk' (h.next + 1) (.cells [.sl h.next 0 1 1 2] 62 0)).mk' (h.next + 2) (.cells [.int .i64 ((i + 1 : Nat) : Int), .int .i64 0, .sl (h.next + 1) 0 1 1 1] 50 0)).get (h.next + 1) = some (.cells [.sl h.next 0 1 1 2] 62 0) := by rw [Heap.get_mk, if_neg (by omega), Heap.get_mk, if_pos rfl]
    have g2 : (((h.mk' h.next (.cells [.int .i64 i, .int .i64 i] 61 0)).mk' (h.next + 1) (.cells [.sl h.next 0 1 1 2] 62 0)).mk' (h.next + 2) (.cells [.int .i64 ((i + 1 : Nat) : Int), .int .i64 0, .sl (h.next + 1) 0 1 1 1] 50 0)).get (h.next + 2) = some (.cells [.int .i64 ((i + 1 : Nat) : Int), .int .i64 0, .sl (h.next + 1) 0 1 1 1] 50 0) := by rw [Heap.get_mk, if_pos rfl]
    have nH : (((h.mk' h.next (.cells [.int .i64 i, .int .i64 i] 61 0)).mk' (h.next + 1) (.cells [.sl h.next 0 1 1 2] 62 0)).mk' (h.next + 2) (.cells [.int .i64 ((i + 1 : Nat) : Int), .int .i64 0, .sl (h.next + 1) 0 1 1 1] 50 0)).next = h.next + 3 := by rw [mk_next, mk_next, mk_next]; omega
    generalize ((h.mk' h.next (.cells [.int .i64 i, .int .i64 i] 61 0)).mk' (h.next + 1) (.cells [.sl h.next 0 1 1 2] 62 0)).mk' (h.next + 2) (.cells [.int .i64 ((i + 1 : Nat) : Int), .int .i64 0, .sl (h.next + 1) 0 1 1 1] 50 0) = H at *
    have lp : Lv H (fun b => b = h.next) (.sl h.next 0 1 1 2) (cRing [⟨(i : Int), (i : Int)⟩]) := LR.lv (sz := 2) (n := 1) ⟨[.int .i64 i, .int .i64 i], .inr ⟨_, 61, 0, rfl, by omega, by omega, rfl, g0⟩, .cons .int (.cons .int .nil), fun b hb => by simpa [blkOf] using hb⟩
    have lr : Lv H (fun b => b = h.next ∨ b = h.next + 1) (.sl (h.next + 1) 0 1 1 1) (cRings [[⟨(i : Int), (i : Int)⟩]]) := LR.lv (sz := 1) (n := 1) ⟨[.sl h.next 0 1 1 2], .inr ⟨_, 62, 0, rfl, by omega, by omega, rfl, g1⟩, .cons (lp.weak fun b hb _ => ⟨.inl hb, by simp [blkOf]; omega⟩) .nil, fun b hb => .inr (by simpa [blkOf] using hb)⟩
    have hlt := r.lt
    have hin := r.inB
    have r2 : LR H (N0 ≤ ·) (sg s 10) 3 ((pFs i).map cFeat).flatten i := r.frame (by omega) fun b _ hb => xH.2 b hb
    have a0 : Lvs H (fun b => N0 ≤ b ∧ b ∉ blkOf (sg s 10)) [.int .i64 ((i + 1 : Nat) : Int), .int .i64 0, .sl (h.next + 1) 0 1 1 1] (cFeat (pF i)) :=
      .cons (y := .int .i64 ((i : Int) + 1)) (by rw [show ((i + 1 : Nat) : Int) = (i : Int) + 1 by omega]; exact .int) (.cons .int (.cons (lr.weak fun b hb _ => ⟨by omega, fun e => by have := hlt b e; omega⟩) .nil))
    obtain ⟨H3, p3, r3, n3, k3⟩ := r2.push (nb := h.next + 2) (eb := 50) (vb := 0) (c := [.int .i64 ((i + 1 : Nat) : Int), .int .i64 0, .sl (h.next + 1) 0 1 1 1]) g2 rfl rfl a0 (by omega) (bytes := 40) (by unfold most2; omega) 50
    rw [nH] at p3 r3 n3 k3
    have kk3 : ∀ b, b < N0 → H3.get b = h.get b := fun b hb => (k3 b (fun hc => by have := hin b hc; omega) (by omega)).trans (xH.2 b (by omega))
    have ef : ((pFs i).map cFeat).flatten ++ cFeat (pF i) = ((pFs (i + 1)).map cFeat).flatten := by simp [pFs, List.range_succ]
    rw [ef] at r3
    simp only [p3, t11, w1, HN, RW, RX, VOp.fresh, bxC, bsC, un, most, callsOf, seval, Int.reducePow, ↓reduceIte, Nat.reduceEqDiff, reduceCtorEq]
    refine ih (i + 1) _ H3 k Q (by omega) (by omega) ?_ ?_ ?_ fun s' h' q1 q2 q3 q4 => hQ s' h' q1 (fun b hb => (q2 b hb).trans (kk3 b hb)) q3 fun j hj => ?_
    · simp only [sg_set, Nat.reduceEqDiff, ↓reduceIte]
      exact r3
    · simp only [t9, sg_set, Nat.reduceEqDiff, ↓reduceIte]
    · simp only [sg_set, Nat.reduceEqDiff, ↓reduceIte]
    · rw [q4 j hj]; simp only [sg_set]; repeat rw [if_neg (by omega)]
/-- a number in a live row, written over -/
theorem Lvs.setI {h : Heap} {B : Nat → Prop} {x : Int} : ∀ {cs k : List AV} {j : Nat}, Lvs h B cs k → Lvs h B (cs.set j (.int .i64 x)) (k.set j (.int .i64 x))
  | cs, [], j, l => by
    obtain ⟨D, f, _⟩ := l
    cases f
    exact .nil
  | cs, y :: k, 0, l => by
    obtain ⟨z, c', rfl, lx, lt⟩ := l.uncons
    exact .cons .int lt
  | cs, y :: k, j + 1, l => by
    obtain ⟨z, c', rfl, lx, lt⟩ := l.uncons
    exact .cons lx lt.setI
theorem LR.setI {h : Heap} {B : Nat → Prop} {v : AV} {sz n j : Nat} {t : List AV} {x : Int} (r : LR h B v sz t n) (h0 : 0 < n) : ∃ b cs e ver, v = .sl b 0 n n sz ∧ cs.length = n * sz ∧ h.get b = some (.cells cs e ver) ∧ b < h.next ∧ B b ∧ LR (h.put b (.cells (cs.set j (.int .i64 x)) e (ver + 1))) B v sz (t.set j (.int .i64 x)) n := by
  obtain ⟨cs, row, l, hB⟩ := r
  rcases row with ⟨_, e, _⟩ | ⟨b, e, ver, rfl, hn, hb, hl, hg⟩
  · omega
  refine ⟨b, cs, e, ver, rfl, hl, hg, hb, hB b (by simp [blkOf]), cs.set j (.int .i64 x), .inr ⟨b, e, ver + 1, rfl, hn, by rw [put_next]; exact hb, by rw [List.length_set]; exact hl, by rw [Heap.get_put, if_pos rfl]⟩, ?_, hB⟩
  exact l.setI.frame (by rw [put_next]; exact Nat.le_refl _) fun c hc _ => by
    have : c ≠ b := fun e => hc.2 (by rw [e]; simp [blkOf])
    rw [Heap.get_put, if_neg this]
end
end Go.Proofs.Ythmkenkjfmbkiaa.VM
namespace Go.Proofs.Ythmkenkjfmbkiaa.VM
attribute [local irreducible] Af Nx EvO Ev Un Gd Cd EvR EvQ EvC Nc Gc Lp EvM NxM AfM GdM EvMR EvMQ EvMD EvMC Nm Gm
section
variable {P : Program} {s : T AV} {h : Heap} {k a t : Int} {fs : List Feat} {N : Nat} {d : Bool}
theorem formsz_rest (g : Pg P tab) (hins : InsOk P) (ha : I64 a) (ht : I64 t) (hk : I64 k) (hN : N ≤ 63) (hlen : fs.length = N) {x : AV} {tf : AV} {B : Nat → Prop}
    (t2 : sg s 2 = .bool d) (t4 : sg s 4 = .ptr 0 0) (t7 : sg s 7 = .ptr 1 0) (t9 : sg s 9 = .int .i64 N) (t10 : sg s 10 = x)
    (g0 : h.get 0 = some (.cells [.int .i64 k, .int .i64 a, .int .i64 t] 26 0)) (g1 : h.get 1 = some (.cells [.int .i64 1, tI (fstM 3).starts, tI (fstM 3).owners] 24 1)) (hn : 1 < h.next)
    (lx : Lv h B x tf) (hw : IsL 40 RFeat tf fs) (hok : ∀ {M : Mp}, mpOk 3 M → (opsOk 3 (rsO M fs) ↔ N ≤ 31 ∧ ¬ (d = true ∧ 1 < N))) :
    Ev P (rst 7 v5.body) s h (Un P [] (Fin v5.res fun v h' => Tl h' v fun v => v = .bool true)) := by
  have hv : IsL 8 RInt (tI (fstM 3).starts) (fstM 3).starts := tI_is (fst_i64 3 (by decide) (by decide)).1 (by decide)
  have hu : IsL 8 RInt (tI (fstM 3).owners) (fstM 3).owners := tI_is (fst_i64 3 (by decide) (by decide)).2 (by decide)
  have ok : mpOk 3 (fstM 3) := fst_ok 3 (by decide) (by decide)
  simp only [v5, rst, t2, t4, t7, t9, t10, g0, g1, HN, RW, RX, VOp.fresh, bxC, bsC, un, most, callsOf, seval, Int.reducePow, ↓reduceIte, Nat.reduceEqDiff, reduceCtorEq]
  have tm : ∀ l, AV.tolds l = true → AV.tolds (.agg [.int .i64 1, tI (fstM 3).starts, tI (fstM 3).owners] :: l) = true := fun l hl => by simp only [AV.tolds, AV.told, hv.told tInt, hu.told tInt, hl, Bool.and_true, Bool.and_self]
  have w1 : IntKind.i64.wrap ((N : Int) + 1) = ((N + 1 : Nat) : Int) := by rw [w64 (by omega) (by omega)]; push_cast; rfl
  refine (rchange_pu g (m := fstM 3) hv hu ha ht).go (tm _ rfl) ?_
  rintro _ (⟨e, c, rfl⟩ | ⟨i, c, rfl⟩)
  · obtain ⟨he, hno⟩ := IxErr c
    have n0 : ¬ 0 = h.next := by omega
    have n1 : ¬ 1 = h.next := by omega
    simp only [t2, t4, t7, t9, t10, g0, g1, n0, n1, HN, RW, RX, VOp.fresh, bxC, bsC, un, most, callsOf, seval, Int.reducePow, ↓reduceIte, Nat.reduceEqDiff, reduceCtorEq]
    refine rops_any g hins (m := fstM 3) hv hu hw ha ht (.cons (Fz.refl (by simp only [AV.tolds, AV.told, hv.told tInt, hu.told tInt, Bool.and_true, Bool.and_self])) (.cons (.int _ _) (.cons (.agg (.cons (.int _ _) (.cons (.int _ _) (.cons (.int _ _) .nil)))) (.cons (lx.frame (by simp only [put_next, mk_next]; omega) fun c _ hc => by rw [Heap.get_put, if_neg (by omega), Heap.get_mk, if_neg (by omega)]).fz .nil)))) ?_ ?_
    · intro h' x no
      have he' : ¬ e = 0 := he
      simp only [t2, t9, he', w1, RW, RX, VOp.fresh, bxC, bsC, un, most, callsOf, seval, Int.reducePow, ↓reduceIte, Nat.reduceEqDiff, reduceCtorEq]
      refine (num_pu g _).go rfl ?_
      rintro _ rfl
      simp only [RW, RX, VOp.fresh, bxC, bsC, un, most, callsOf, seval, Int.reducePow, ↓reduceIte, Nat.reduceEqDiff, reduceCtorEq]
    · intro h' i x b cs y _ _
      exact absurd y.1 (hno i)
  · have y0 := c
    have okM := c.2.2.2.2
    obtain ⟨⟨p1, k0, k2, a0, a1⟩, he, hi, hnn, _⟩ := id c
    obtain ⟨r1, r2, r3, r4, r5, r6⟩ := chgR_ok (k := k) (t := t) hv hu ⟨k0, k2⟩ ha ht hi ok.2.2.2.2.2.1 ok.2.2.2.2.2.2.1 hnn
    have hv1 := tI_is r1 r5
    have hu1 := tI_is r2 r6
    have ov1 := isL_one hv1
    have ou1 := isL_one hu1
    have hok' := hok okM
    have n0 : ¬ 0 = h.next := by omega
    have n1 : ¬ 1 = h.next := by omega
    simp only [toldMp, ov1, ou1, t2, t4, t7, t9, t10, g0, g1, n0, n1, HN, RW, RX, VOp.fresh, bxC, bsC, un, most, callsOf, seval, Int.reducePow, ↓reduceIte, Nat.reduceEqDiff, reduceCtorEq]
    refine rops_any g hins (m := fstM 3) hv hu hw ha ht (.cons (Fz.refl (by simp only [AV.tolds, AV.told, hv.told tInt, hu.told tInt, Bool.and_true, Bool.and_self])) (.cons (.int _ _) (.cons (.agg (.cons (.int _ _) (.cons (.int _ _) (.cons (.int _ _) .nil)))) (.cons (lx.frame (by simp only [put_next, mk_next]; omega) fun c _ hc => by rw [Heap.get_put, if_neg (by omega), Heap.get_mk, if_neg (by omega)]).fz .nil)))) ?_ ?_
    · intro h' x no
      have hno : ¬ (N ≤ 31 ∧ ¬ (d = true ∧ 1 < N)) := fun z => no i ⟨y0, by omega, hok'.2 z⟩
      by_cases z : N ≤ 31
      · have dz : d = true ∧ 1 < N := Classical.byContradiction fun q => hno ⟨z, q⟩
        obtain ⟨rfl, hN1⟩ := dz
        have c32 : ((N + 1 : Nat) : Int) ≤ 32 := by omega
        have c1N : (1 : Int) < (N : Int) := by omega
        simp only [t2, t9, c32, c1N, w1, RW, RX, VOp.fresh, bxC, bsC, un, most, callsOf, seval, Int.reducePow, ↓reduceIte, Nat.reduceEqDiff, reduceCtorEq]
        refine (num_pu g _).go rfl ?_
        rintro _ rfl
        simp only [RW, RX, VOp.fresh, bxC, bsC, un, most, callsOf, seval, Int.reducePow, ↓reduceIte, Nat.reduceEqDiff, reduceCtorEq]
      · have c32 : ¬ ((N + 1 : Nat) : Int) ≤ 32 := by omega
        simp only [t2, t9, c32, w1, RW, RX, VOp.fresh, bxC, bsC, un, most, callsOf, seval, Int.reducePow, ↓reduceIte, Nat.reduceEqDiff, reduceCtorEq]
        refine (num_pu g _).go rfl ?_
        rintro _ rfl
        simp only [RW, RX, VOp.fresh, bxC, bsC, un, most, callsOf, seval, Int.reducePow, ↓reduceIte, Nat.reduceEqDiff, reduceCtorEq]
    · intro h' j x b cs y o x1
      obtain rfl := y.1.2.2.1.uniq ok.rise hi
      have hyes := hok'.1 y.2.2
      subst hlen
      obtain ⟨rfl, hb, hB, ⟨e3, ver3, hg⟩, kk0, ⟨sv, ov', pm, l1, l2⟩, ft⟩ := o
      have c32 : ((fs.length + 1 : Nat) : Int) ≤ 32 := by omega
      have ia0 : ∀ (hh : Heap) (b : Nat), iaV hh 8 none (.sl b 0 (fs.length + 1) (fs.length + 1) 8) (.int .i64 0) = .val (.ptr b 0) hh := fun hh b => by
        have : (0 : Int) ≤ 0 ∧ (0 : Int) < ((fs.length + 1 : Nat) : Int) ∧ 8 = 8 := ⟨by omega, by omega, rfl⟩
        simp only [iaV, this, and_self, if_true]; rfl
      have o17 : ∀ h, OK P 17 [.int .i64 0] h (.int .i64 0) h := fun h => (num_pu g 0).exact rfl
      have o19 : OK P 19 [.agg [.int .i64 (chgR (fstM 3) k a t j).epoch, sv, ov'], .agg [.int .i64 (chgR (fstM 3) k a t j).epoch, tI (chgR (fstM 3) k a t j).starts, tI (chgR (fstM 3) k a t j).owners]] h' (.bool true) h' := by
        obtain ⟨v, v', h0, o, hv', rfl⟩ := sMap_pu g (e := (chgR (fstM 3) k a t j).epoch) hv1 hu1 hv1 hu1
        exact OK.pure (.cons (.agg (.cons (.int _ _) (.cons l1.fz (.cons l2.fz .nil)))) (.cons (.agg (.cons (.int _ _) (.cons (Fz.refl (hv1.told tInt)) (.cons (Fz.refl (hu1.told tInt)) .nil)))) .nil)) o hv'
      have g12 := (x1.2 h.next (by simp only [put_next, mk_next]; omega)).trans (by rw [Heap.get_put, if_pos rfl])
      cases d with
      | false =>
        simp only [t2, t9, c32, w1, ia0, hg, pm, Bool.or_self, RW, RX, VOp.fresh, bxC, bsC, un, most, callsOf, seval, Int.reducePow, ↓reduceIte, Nat.reduceEqDiff, reduceCtorEq]
        refine (num_pu g _).go rfl ?_
        rintro _ rfl
        simp only [t9, w1, ia0, hg, pm, g12, RW, RX, VOp.fresh, bxC, bsC, un, most, callsOf, seval, Int.reducePow, ↓reduceIte, Nat.reduceEqDiff, reduceCtorEq]
        refine o19.cl ?_
        simp only [RW, RX, VOp.fresh, bxC, bsC, un, most, callsOf, seval, Int.reducePow, ↓reduceIte, Nat.reduceEqDiff, reduceCtorEq]
      | true =>
        have c1N : ¬ (1 : Int) < (fs.length : Int) := by have := hyes.2; simp at this; omega
        simp only [t2, t9, c32, c1N, w1, ia0, hg, pm, Bool.or_self, RW, RX, VOp.fresh, bxC, bsC, un, most, callsOf, seval, Int.reducePow, ↓reduceIte, Nat.reduceEqDiff, reduceCtorEq]
        refine (num_pu g _).go rfl ?_
        rintro _ rfl
        simp only [t9, w1, ia0, hg, pm, g12, RW, RX, VOp.fresh, bxC, bsC, un, most, callsOf, seval, Int.reducePow, ↓reduceIte, Nat.reduceEqDiff, reduceCtorEq]
        refine o19.cl ?_
        simp only [RW, RX, VOp.fresh, bxC, bsC, un, most, callsOf, seval, Int.reducePow, ↓reduceIte, Nat.reduceEqDiff, reduceCtorEq]
end
end Go.Proofs.Ythmkenkjfmbkiaa.VM
namespace Go.Proofs.Ythmkenkjfmbkiaa.VM
attribute [local irreducible] Af Nx EvO Ev Un Gd Cd EvR EvQ EvC Nc Gc Lp EvM NxM AfM GdM EvMR EvMQ EvMD EvMC Nm Gm
theorem wChg {c : List AV} (h : Ws [.int .i64, .int .i64, .int .i64] c) : ∃ k a t : Int, c = [.int .i64 k, .int .i64 a, .int .i64 t] ∧ I64 k ∧ I64 a ∧ I64 t := by
  cases h with | cons h1 t => cases t with | cons h2 t => cases t with | cons h3 t =>
    cases t; cases h1 with | int _ n1 w1 => cases h2 with | int _ n2 w2 => cases h3 with | int _ n3 w3 =>
      exact ⟨n1, n2, n3, rfl, i64_wf w1, i64_wf w2, i64_wf w3⟩
theorem pF_sm {i : Nat} (h : i ≤ 63) : featSm (pF i) := by
  refine ⟨⟨by show -9223372036854775808 ≤ (i : Int) + 1; omega, by show (i : Int) + 1 ≤ 9223372036854775807; omega⟩, i64_0, by show 1 ≤ 1000000; decide, fun r hr => ?_⟩
  have : r = [⟨(i : Int), (i : Int)⟩] := by simpa [pF] using hr
  subst this
  refine ⟨by show 1 ≤ 1000000; decide, fun p hp => ?_⟩
  have : p = ⟨(i : Int), (i : Int)⟩ := by simpa using hp
  subst this
  exact ⟨⟨by show -9223372036854775808 ≤ (i : Int); omega, by show (i : Int) ≤ 9223372036854775807; omega⟩, ⟨by show -9223372036854775808 ≤ (i : Int); omega, by show (i : Int) ≤ 9223372036854775807; omega⟩⟩
theorem pFs_sm {N : Nat} (h : N ≤ 63) : featsSm (pFs N) := by
  refine ⟨by rw [pFs_len]; omega, fun f hf => ?_⟩
  simp only [pFs, List.mem_map, List.mem_range] at hf
  obtain ⟨i, hi, rfl⟩ := hf
  exact pF_sm (by omega)
section
variable {P : Program}
theorem reshardForms_pu (g : Pg P tab) (hins : InsOk P) {k a t : Int} (hk : I64 k) (ha : I64 a) (ht : I64 t) (tn : Int) (d : Bool) : Pu P 5 [.int .i64 tn, .agg [.int .i64 k, .int .i64 a, .int .i64 t], .bool d] (fun v => v = .bool true) := by
  refine g.pu (vf := v5) rfl rfl ?_
  obtain ⟨N, hN, hNe⟩ : ∃ N : Nat, N ≤ 63 ∧ bitsOf .and .i64 tn 63 = (N : Int) := by
    have h1 := and_any tn (n := 6) (by decide)
    have h2 := Nat.mod_lt (tn % 18446744073709551616).toNat (show 0 < 2 ^ 6 by decide)
    have h3 : bitsOf .and .i64 tn 63 = (((tn % 18446744073709551616).toNat % 2 ^ 6 : Nat) : Int) := by simpa using h1
    exact ⟨_, by omega, h3⟩
  have hv : IsL 8 RInt (tI (fstM 3).starts) (fstM 3).starts := tI_is (fst_i64 3 (by decide) (by decide)).1 (by decide)
  have hu : IsL 8 RInt (tI (fstM 3).owners) (fstM 3).owners := tI_is (fst_i64 3 (by decide) (by decide)).2 (by decide)
  have ov := isL_one hv
  have ou := isL_one hu
  have ep : (fstM 3).epoch = 1 := rfl
  have e0 : v5.body = .seq (blk 0 v5.body) (.seq (blk 1 v5.body) (.seq (blk 2 v5.body) (.seq (blk 3 v5.body) (.seq (blk 4 v5.body) (.seq (blk 5 v5.body) (.seq (blk 6 v5.body) (rst 7 v5.body))))))) := rfl
  rw [e0]
  have rest := fun (s : T AV) (h : Heap) (fs : List Feat) (x tf : AV) (B : Nat → Prop) => formsz_rest (s := s) (h := h) (k := k) (a := a) (t := t) (fs := fs) (N := N) (d := d) (x := x) (tf := tf) (B := B) g hins ha ht hk hN
  generalize rst 7 v5.body = R at *
  simp only [v5, blk, HN, RW, RX, VOp.fresh, bxC, bsC, un, most, callsOf, seval, Int.reducePow, ↓reduceIte, Nat.reduceEqDiff, reduceCtorEq]
  refine (awake22_pu g hins).go rfl ?_
  rintro _ rfl
  simp only [HN, RW, RX, VOp.fresh, bxC, bsC, un, most, callsOf, seval, Int.reducePow, ↓reduceIte, Nat.reduceEqDiff, reduceCtorEq]
  refine (rfirst_pu g 3).go rfl ?_
  rintro _ (⟨no, _⟩ | ⟨_, rfl⟩)
  · omega
  simp only [toldMp, ep, ov, ou, hNe, HN, RW, RX, VOp.fresh, bxC, bsC, un, most, callsOf, seval, Int.reducePow, ↓reduceIte, Nat.reduceEqDiff, reduceCtorEq]
  refine forms_loop g hN (N0 := 2) N 0 _ _ _ _ (by omega) (by simp only [put_next, mk_next]; omega) ?_ ?_ ?_ fun s' h' r hk' hn ks => ?_
  · simp only [sg_set, Nat.reduceEqDiff, ↓reduceIte]
    exact .nil _ _ _
  · simp only [sg_set, Nat.reduceEqDiff, ↓reduceIte]
  · simp only [sg_set, Nat.reduceEqDiff, ↓reduceIte]
    rfl
  have t2 : sg s' 2 = .bool d := (ks 2 (by decide)).trans (by simp only [sg_set, Nat.reduceEqDiff, ↓reduceIte])
  have t4 : sg s' 4 = .ptr 0 0 := (ks 4 (by decide)).trans (by simp only [sg_set, Nat.reduceEqDiff, ↓reduceIte])
  have t7 : sg s' 7 = .ptr 1 0 := (ks 7 (by decide)).trans (by simp only [sg_set, Nat.reduceEqDiff, ↓reduceIte])
  have t9 : sg s' 9 = .int .i64 N := (ks 9 (by decide)).trans (by simp only [sg_set, Nat.reduceEqDiff, ↓reduceIte])
  have g0 : h'.get 0 = some (.cells [.int .i64 k, .int .i64 a, .int .i64 t] 26 0) := (hk' 0 (by omega)).trans (by simp only [RW, RX, VOp.fresh, bxC, bsC, un, most, callsOf, seval, Int.reducePow, ↓reduceIte, Nat.reduceEqDiff, reduceCtorEq])
  have g1 : h'.get 1 = some (.cells [.int .i64 1, tI (fstM 3).starts, tI (fstM 3).owners] 24 1) := (hk' 1 (by omega)).trans (by simp only [RW, RX, VOp.fresh, bxC, bsC, un, most, callsOf, seval, Int.reducePow, ↓reduceIte, Nat.reduceEqDiff, reduceCtorEq])
  have lx := r.lv
  have hsm := pFs_sm hN
  have isl := cFeats_is hsm
  have lc : ((pFs N).length) = N := pFs_len N
  by_cases dup : d = true ∧ 1 < N
  · obtain ⟨rfl, hN1⟩ := dup
    obtain ⟨tl, etl⟩ : ∃ tl, pFs N = pF 0 :: pF 1 :: tl := by
      match N, hN1 with
      | n + 2, _ => exact ⟨(List.range n).map (fun i => pF (i + 2)), by simp [pFs, List.range_succ_eq_map, Function.comp_def]⟩
    obtain ⟨b, cs, e, ver, hx, hl, hg, hb, hB, r'⟩ := r.setI (j := 3) (x := 1) (by omega)
    have c1 : (1 : Int) < (N : Int) := by omega
    have ia : ∀ hh : Heap, iaV hh 3 none (.sl b 0 N N 3) (.int .i64 1) = .val (.ptr b 3) hh := fun hh => by
      have : (0 : Int) ≤ 1 ∧ (1 : Int) < (N : Int) ∧ 3 = 3 := ⟨by omega, by omega, rfl⟩
      simp only [iaV, this, and_self, if_true]; rfl
    have hw := wr_at hg (show 3 < cs.length by rw [hl]; omega) (x := .int .i64 1) rfl
    simp only [t2, t9, c1, hx, ia, hw, RW, RX, VOp.fresh, bxC, bsC, un, most, callsOf, seval, Int.reducePow, ↓reduceIte, Nat.reduceEqDiff, reduceCtorEq]
    have lt : tl.length + 2 = N := by rw [etl] at lc; simpa using lc
    have etold : ((pFs N).map cFeat).flatten.set 3 (.int .i64 1) = (((⟨1, 0, [[⟨0, 0⟩]]⟩ : Feat) :: ⟨1, 0, [[⟨1, 1⟩]]⟩ :: tl).map cFeat).flatten := by rw [etl]; rfl
    rw [etold] at r'
    have hsm2 : featsSm ((⟨1, 0, [[⟨0, 0⟩]]⟩ : Feat) :: ⟨1, 0, [[⟨1, 1⟩]]⟩ :: tl) := by
      refine ⟨by simp; omega, fun f hf => ?_⟩
      rcases List.mem_cons.1 hf with rfl | hf
      · exact pF_sm (i := 0) (by omega)
      rcases List.mem_cons.1 hf with rfl | hf
      · have := pF_sm (i := 1) (by omega)
        exact ⟨⟨by show -9223372036854775808 ≤ (1 : Int); omega, by show (1 : Int) ≤ 9223372036854775807; omega⟩, this.2⟩
      · exact hsm.2 f (by rw [etl]; exact List.mem_cons_of_mem _ (List.mem_cons_of_mem _ hf))
    have lc2 : ((⟨1, 0, [[⟨0, 0⟩]]⟩ : Feat) :: ⟨1, 0, [[⟨1, 1⟩]]⟩ :: tl).length = N := by simp; omega
    have lx2 := r'.lv
    refine rest _ _ _ (sg s' 10) (cFeats _) _ lc2 ?_ ?_ ?_ ?_ ?_ ?_ ?_ ?_ (by unfold cFeats; rw [lc2]; exact lx2) (cFeats_is hsm2) fun {M} okM => ⟨fun o => absurd o (forms_twice (by simp) rfl rfl), fun z => absurd ⟨rfl, hN1⟩ z.2⟩
    · simp only [t2, sg_set, Nat.reduceEqDiff, ↓reduceIte]
    · simp only [t4, sg_set, Nat.reduceEqDiff, ↓reduceIte]
    · simp only [t7, sg_set, Nat.reduceEqDiff, ↓reduceIte]
    · simp only [t9, sg_set, Nat.reduceEqDiff, ↓reduceIte]
    · simp only [sg_set, Nat.reduceEqDiff, ↓reduceIte]
    · rw [Heap.get_put, if_neg (by omega)]; exact g0
    · rw [Heap.get_put, if_neg (by omega)]; exact g1
    · rw [put_next]; omega
  · have go : ∀ s3 : T AV, sg s3 2 = .bool d → sg s3 4 = .ptr 0 0 → sg s3 7 = .ptr 1 0 → sg s3 9 = .int .i64 N → sg s3 10 = sg s' 10 → Ev P R s3 h' (Un P [] (Fin v5.res fun v h' => Tl h' v fun v => v = .bool true)) := fun s3 a2 a4 a7 a9 a10 =>
      rest s3 h' (pFs N) (sg s' 10) (cFeats (pFs N)) _ lc a2 a4 a7 a9 a10 g0 g1 (by omega) (by unfold cFeats; rw [lc]; exact lx) isl fun {M} okM => ⟨fun o => ⟨by have := o.2.1; simp [rsO, lc] at this; omega, dup⟩, fun z => forms_ok okM z.1⟩
    cases d with
    | false =>
      simp only [t2, t9, RX, VOp.fresh, bxC, bsC, un, most, callsOf, seval, Int.reducePow, ↓reduceIte, Nat.reduceEqDiff, reduceCtorEq]
      refine go _ ?_ ?_ ?_ ?_ ?_
      · simp only [t2, sg_set, Nat.reduceEqDiff, ↓reduceIte]
      · simp only [t4, sg_set, Nat.reduceEqDiff, ↓reduceIte]
      · simp only [t7, sg_set, Nat.reduceEqDiff, ↓reduceIte]
      · simp only [t9, sg_set, Nat.reduceEqDiff, ↓reduceIte]
      · simp only [sg_set, Nat.reduceEqDiff, ↓reduceIte]
    | true =>
      have c1 : ¬ (1 : Int) < (N : Int) := fun e => dup ⟨rfl, by omega⟩
      simp only [t2, t9, c1, RX, VOp.fresh, bxC, bsC, un, most, callsOf, seval, Int.reducePow, ↓reduceIte, Nat.reduceEqDiff, reduceCtorEq]
      refine go _ ?_ ?_ ?_ ?_ ?_
      · simp only [t2, sg_set, Nat.reduceEqDiff, ↓reduceIte]
      · simp only [t4, sg_set, Nat.reduceEqDiff, ↓reduceIte]
      · simp only [t7, sg_set, Nat.reduceEqDiff, ↓reduceIte]
      · simp only [t9, sg_set, Nat.reduceEqDiff, ↓reduceIte]
      · simp only [sg_set, Nat.reduceEqDiff, ↓reduceIte]
end
end Go.Proofs.Ythmkenkjfmbkiaa.VM
