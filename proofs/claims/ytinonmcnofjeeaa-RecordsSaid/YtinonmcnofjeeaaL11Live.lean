/- Live data by their places: what is a number stays a number. -/
import Derived.Test.YtinonmcnofjeeaaL11Same
namespace Go.Proofs.Ytinonmcnofjeeaa.VM
set_option linter.unusedSimpArgs false
set_option linter.unusedVariables false
set_option linter.defProp false
set_option maxHeartbeats 1000000
attribute [local irreducible] Af Nx EvO Ev Un Gd Cd EvR EvQ EvC Nc Gc Lp EvM NxM AfM GdM EvMR EvMQ EvMD EvMC Nm Gm
def At (h : Heap) (b j : Nat) (x : AV) : Prop := ∃ l e ver, h.get b = some (.cells l e ver) ∧ l[j]? = some x
def AtI (h : Heap) (b j : Nat) : Prop := ∃ m, At h b j (.int .i64 m)
def AtE (h : Heap) (b j : Nat) : Prop := ∃ x, At h b j x ∧ x.one = true
def NoI (x : AV) : Prop := ∀ m, x ≠ .int .i64 m
theorem At.ld {h : Heap} {b j : Nat} {x : AV} (a : At h b j x) : ldB false j 1 h (h.get b) = .val x h := by
  obtain ⟨l, e, ver, hg, hx⟩ := a
  obtain ⟨hj, rfl⟩ := List.getElem?_eq_some_iff.1 hx
  rw [hg, ldB_at hj]
theorem At.ld3 {h : Heap} {b j : Nat} {x y z : AV} (a : At h b j x) (a1 : At h b (j + 1) y) (a2 : At h b (j + 2) z) : ldB true j 3 h (h.get b) = .val (.agg [x, y, z]) h := by
  obtain ⟨l, e, ver, hg, hx⟩ := a
  obtain ⟨l1, e1, ver1, hg1, hy⟩ := a1
  obtain ⟨l2, e2, ver2, hg2, hz⟩ := a2
  rw [hg] at hg1 hg2
  cases hg1
  cases hg2
  obtain ⟨i0, rfl⟩ := List.getElem?_eq_some_iff.1 hx
  obtain ⟨i1, rfl⟩ := List.getElem?_eq_some_iff.1 hy
  obtain ⟨i2, rfl⟩ := List.getElem?_eq_some_iff.1 hz
  have e : (l.drop j).take 3 = [l[j], l[j + 1], l[j + 2]] := by
    rw [List.drop_eq_getElem_cons i0, List.drop_eq_getElem_cons i1, List.drop_eq_getElem_cons i2]
    rfl
  rw [hg, ldB_some, part_eq, e]
  rfl
def Sims (l k : List AV) : Prop := k.length = l.length ∧ ∀ j : Nat, k[j]? = l[j]? ∨ ((∃ m, l[j]? = some (AV.int .i64 m)) ∧ ∃ m, k[j]? = some (AV.int .i64 m))
theorem Sims.refl (l : List AV) : Sims l l := ⟨rfl, fun _ => .inl rfl⟩
theorem Sims.trans {a b c : List AV} (x : Sims a b) (y : Sims b c) : Sims a c := ⟨y.1.trans x.1, fun j => by
  rcases x.2 j with p | ⟨⟨m, p⟩, m', p'⟩
  · rcases y.2 j with q | ⟨q, q'⟩
    · exact .inl (q.trans p)
    · exact .inr ⟨by rw [← p]; exact q, q'⟩
  · rcases y.2 j with q | ⟨q, q'⟩
    · exact .inr ⟨⟨m, p⟩, m', q.trans p'⟩
    · exact .inr ⟨⟨m, p⟩, q'⟩⟩
theorem Sims.set {l : List AV} {j : Nat} {m n : Int} (h : l[j]? = some (.int .i64 m)) : Sims l (l.set j (.int .i64 n)) := ⟨List.length_set, fun i => by
  by_cases e : i = j
  · subst e
    obtain ⟨hi, _⟩ := List.getElem?_eq_some_iff.1 h
    exact .inr ⟨⟨m, h⟩, n, by rw [List.getElem?_set_self hi]⟩
  · exact .inl (List.getElem?_set_ne (fun c => e c.symm))⟩
/-- the blocks of B have numbers written over, the others stand -/
def Sim (B : Nat → Prop) (h h' : Heap) : Prop := h.next ≤ h'.next ∧ ∀ b, b < h.next → (¬ B b → h'.get b = h.get b) ∧ ∀ l e ver, h.get b = some (.cells l e ver) → ∃ l' ver', h'.get b = some (.cells l' e ver') ∧ Sims l l'
section
variable {B : Nat → Prop} {h h' h'' : Heap}
theorem Sim.refl : Sim B h h := ⟨Nat.le_refl _, fun b _ => ⟨fun _ => rfl, fun l e ver hg => ⟨l, ver, hg, Sims.refl l⟩⟩⟩
theorem Sim.trans (x : Sim B h h') (y : Sim B h' h'') : Sim B h h'' := ⟨Nat.le_trans x.1 y.1, fun b hb => by
  obtain ⟨a1, a2⟩ := x.2 b hb
  obtain ⟨c1, c2⟩ := y.2 b (Nat.lt_of_lt_of_le hb x.1)
  refine ⟨fun n => (c1 n).trans (a1 n), fun l e ver hg => ?_⟩
  obtain ⟨l', ver', g', s'⟩ := a2 l e ver hg
  obtain ⟨l'', ver'', g'', s''⟩ := c2 l' e ver' g'
  exact ⟨l'', ver'', g'', s'.trans s''⟩⟩
theorem Sim.ext (x : Ext h h') : Sim B h h' := ⟨x.1, fun b hb => ⟨fun _ => x.2 b hb, fun l e ver hg => ⟨l, ver, (x.2 b hb).trans hg, Sims.refl l⟩⟩⟩
theorem Sim.cut {B' : Nat → Prop} (x : Sim B' h h') (k : ∀ b, B' b → b < h.next → B b) : Sim B h h' := ⟨x.1, fun b hb => ⟨fun n => (x.2 b hb).1 fun c => n (k b c hb), (x.2 b hb).2⟩⟩
theorem At.sim {b j : Nat} {x : AV} (a : At h b j x) (hb : b < h.next) (hx : NoI x) (s : Sim B h h') : At h' b j x := by
  obtain ⟨l, e, ver, hg, h1⟩ := a
  obtain ⟨l', ver', g', _, s'⟩ := (s.2 b hb).2 l e ver hg
  rcases s' j with c | ⟨⟨m, c⟩, _⟩
  · exact ⟨l', e, ver', g', c.trans h1⟩
  · rw [h1] at c; cases c; exact absurd rfl (hx m)
theorem AtI.sim {b j : Nat} (a : AtI h b j) (hb : b < h.next) (s : Sim B h h') : AtI h' b j := by
  obtain ⟨m, l, e, ver, hg, h1⟩ := a
  obtain ⟨l', ver', g', _, s'⟩ := (s.2 b hb).2 l e ver hg
  rcases s' j with c | ⟨_, m', c⟩
  · exact ⟨m, l', e, ver', g', c.trans h1⟩
  · exact ⟨m', l', e, ver', g', c⟩
theorem AtE.sim {b j : Nat} (a : AtE h b j) (hb : b < h.next) (s : Sim B h h') : AtE h' b j := by
  obtain ⟨x, ⟨l, e, ver, hg, h1⟩, ho⟩ := a
  obtain ⟨l', ver', g', hl, s'⟩ := (s.2 b hb).2 l e ver hg
  rcases s' j with c | ⟨_, m', c⟩
  · exact ⟨x, ⟨l', e, ver', g', c.trans h1⟩, ho⟩
  · exact ⟨_, ⟨l', e, ver', g', c⟩, rfl⟩
/-- a number is written over -/
theorem AtI.st {b j : Nat} (a : AtI h b j) (hB : B b) (n : Int) : ∃ h', writeAt h b j [.int .i64 n] = some h' ∧ Sim B h h' := by
  obtain ⟨m, l, e, ver, hg, h1⟩ := a
  obtain ⟨hj, _⟩ := List.getElem?_eq_some_iff.1 h1
  refine ⟨h.put b (.cells (l.set j (.int .i64 n)) e (ver + 1)), ?_, by rw [put_next]; exact Nat.le_refl _, fun c hc => ⟨fun hn => by rw [Heap.get_put, if_neg (show ¬ c = b from fun ec => hn (ec ▸ hB))], fun l2 e2 v2 hg2 => ?_⟩⟩
  · unfold writeAt
    rw [hg]
    have : Nat.ble (j + 1) l.length = true := by rw [Nat.ble_eq]; exact hj
    simp only [List.length_cons, List.length_nil, Nat.zero_add, this, List.all_cons, one_int, List.all_nil, Bool.and_self, cond_true, lsets_one hj]
  · by_cases hc' : c = b
    · subst hc'
      rw [hg] at hg2
      cases hg2
      exact ⟨_, _, by rw [Heap.get_put, if_pos rfl], Sims.set h1⟩
    · exact ⟨l2, v2, by rw [Heap.get_put, if_neg hc']; exact hg2, Sims.refl _⟩
end
def most3 : Nat := 1000000
def LInts (h : Heap) (B : Nat → Prop) (v : AV) : Prop := v = .nils ∨ ∃ b off n cap, v = .sl b off n cap 1 ∧ n ≤ most3 ∧ B b ∧ b < h.next ∧ ∀ i, i < n → AtI h b (off + i)
def LPts (h : Heap) (B : Nat → Prop) (v : AV) : Prop := v = .nils ∨ ∃ b off n cap, v = .sl b off n cap 2 ∧ n ≤ most3 ∧ B b ∧ b < h.next ∧ ∀ i, i < n → AtI h b (off + i * 2)
def LRings (h : Heap) (B : Nat → Prop) (v : AV) : Prop := v = .nils ∨ ∃ b off n cap, v = .sl b off n cap 1 ∧ n ≤ most3 ∧ B b ∧ b < h.next ∧ ∀ i, i < n → ∃ x, At h b (off + i) x ∧ LPts h B x
def LFeats (h : Heap) (B : Nat → Prop) (v : AV) : Prop := v = .nils ∨ ∃ b off n cap, v = .sl b off n cap 3 ∧ n ≤ most3 ∧ B b ∧ b < h.next ∧ ∀ i, i < n → AtI h b (off + i * 3) ∧ ∃ x, At h b (off + i * 3 + 2) x ∧ LRings h B x
def LOps (h : Heap) (B : Nat → Prop) (v : AV) : Prop := v = .nils ∨ ∃ b off n cap, v = .sl b off n cap 8 ∧ n ≤ most3 ∧ B b ∧ b < h.next ∧ ∀ i, i < n → AtI h b (off + i * 8 + 1) ∧ AtE h b (off + i * 8 + 2) ∧ (∃ x, At h b (off + i * 8 + 3) x ∧ LRings h B x) ∧
  AtI h b (off + i * 8 + 4) ∧ AtE h b (off + i * 8 + 5) ∧ (∃ x, At h b (off + i * 8 + 6) x ∧ LInts h B x) ∧ ∃ x, At h b (off + i * 8 + 7) x ∧ LInts h B x
section
variable {B B' : Nat → Prop} {h h' : Heap}
theorem LInts.noI {v : AV} (l : LInts h B v) : NoI v := by rintro m rfl; rcases l with e | ⟨_, _, _, _, e, _⟩ <;> cases e
theorem LPts.noI {v : AV} (l : LPts h B v) : NoI v := by rintro m rfl; rcases l with e | ⟨_, _, _, _, e, _⟩ <;> cases e
theorem LRings.noI {v : AV} (l : LRings h B v) : NoI v := by rintro m rfl; rcases l with e | ⟨_, _, _, _, e, _⟩ <;> cases e
theorem LInts.one {v : AV} (l : LInts h B v) : v.one = true := by rcases l with rfl | ⟨_, _, _, _, rfl, _⟩ <;> rfl
theorem LRings.one {v : AV} (l : LRings h B v) : v.one = true := by rcases l with rfl | ⟨_, _, _, _, rfl, _⟩ <;> rfl
theorem LInts.sim {v : AV} (l : LInts h B v) (s : Sim B' h h') : LInts h' B v := by
  rcases l with rfl | ⟨b, off, n, cap, rfl, a1, a2, a3, a4⟩
  · exact .inl rfl
  · exact .inr ⟨b, off, n, cap, rfl, a1, a2, Nat.lt_of_lt_of_le a3 s.1, fun i hi => (a4 i hi).sim a3 s⟩
theorem LPts.sim {v : AV} (l : LPts h B v) (s : Sim B' h h') : LPts h' B v := by
  rcases l with rfl | ⟨b, off, n, cap, rfl, a1, a2, a3, a4⟩
  · exact .inl rfl
  · exact .inr ⟨b, off, n, cap, rfl, a1, a2, Nat.lt_of_lt_of_le a3 s.1, fun i hi => (a4 i hi).sim a3 s⟩
theorem LRings.sim {v : AV} (l : LRings h B v) (s : Sim B' h h') : LRings h' B v := by
  rcases l with rfl | ⟨b, off, n, cap, rfl, a1, a2, a3, a4⟩
  · exact .inl rfl
  · refine .inr ⟨b, off, n, cap, rfl, a1, a2, Nat.lt_of_lt_of_le a3 s.1, fun i hi => ?_⟩
    obtain ⟨x, c1, c2⟩ := a4 i hi
    exact ⟨x, c1.sim a3 c2.noI s, c2.sim s⟩
theorem LFeats.sim {v : AV} (l : LFeats h B v) (s : Sim B' h h') : LFeats h' B v := by
  rcases l with rfl | ⟨b, off, n, cap, rfl, a1, a2, a3, a4⟩
  · exact .inl rfl
  · refine .inr ⟨b, off, n, cap, rfl, a1, a2, Nat.lt_of_lt_of_le a3 s.1, fun i hi => ?_⟩
    obtain ⟨c0, x, c1, c2⟩ := a4 i hi
    exact ⟨c0.sim a3 s, x, c1.sim a3 c2.noI s, c2.sim s⟩
theorem LOps.sim {v : AV} (l : LOps h B v) (s : Sim B' h h') : LOps h' B v := by
  rcases l with rfl | ⟨b, off, n, cap, rfl, a1, a2, a3, a4⟩
  · exact .inl rfl
  · refine .inr ⟨b, off, n, cap, rfl, a1, a2, Nat.lt_of_lt_of_le a3 s.1, fun i hi => ?_⟩
    obtain ⟨c1, c2, ⟨x, c3, c4⟩, c5, c6, ⟨y, c7, c8⟩, z, c9, c10⟩ := a4 i hi
    exact ⟨c1.sim a3 s, c2.sim a3 s, ⟨x, c3.sim a3 c4.noI s, c4.sim s⟩, c5.sim a3 s, c6.sim a3 s, ⟨y, c7.sim a3 c8.noI s, c8.sim s⟩, z, c9.sim a3 c10.noI s, c10.sim s⟩
theorem LPts.weak {v : AV} (l : LPts h B v) (k : ∀ b, B b → B' b) : LPts h B' v := by
  rcases l with rfl | ⟨b, off, n, cap, rfl, a1, a2, a3, a4⟩
  · exact .inl rfl
  · exact .inr ⟨b, off, n, cap, rfl, a1, k _ a2, a3, a4⟩
theorem LRings.weak {v : AV} (l : LRings h B v) (k : ∀ b, B b → B' b) : LRings h B' v := by
  rcases l with rfl | ⟨b, off, n, cap, rfl, a1, a2, a3, a4⟩
  · exact .inl rfl
  · refine .inr ⟨b, off, n, cap, rfl, a1, k _ a2, a3, fun i hi => ?_⟩
    obtain ⟨x, c1, c2⟩ := a4 i hi
    exact ⟨x, c1, c2.weak k⟩
end
section
variable {P : Program}
theorem spInts_loop (g : Pg P tab) {B : Nat → Prop} {h0 : Heap} {b off N cap : Nat} (hN : N ≤ most3) (hB : B b) (hb : b < h0.next) (ha : ∀ i, i < N → AtI h0 b (off + i)) (n : Nat) :
    ∀ (i : Nat) (s : T AV) (h : Heap) (k : List Fr) (Q : Ex → T AV → Heap → Prop), i + n = N → Sim B h0 h → sg s 0 = .sl b off N cap 1 → sg s 2 = .int .i64 i → (∀ s' h', Sim B h0 h' → Un P k Q (.exit 0) s' h') → Lp P b70_0 s h (Un P k Q) := by
  unfold most3 at hN
  induction n with
  | zero =>
    intro i s h k Q hi hs h1 h2 hK
    refine g.lpe b70_0.eq_1 ?_
    have c1 : ¬ ((i : Int) < (N : Int)) := by omega
    simp only [h1, h2, c1, R0, R1, R2, R3, R4, R5, R6, R7, R8, R9, VOp.fresh, bxC, bsC, R10, un, most, callsOf, List.contains_nil, List.contains_cons, beq_iff_eq, List.getElem?_cons_zero, List.getElem?_cons_succ, seval, Option.map_none, Int.reducePow, ↓reduceIte, Nat.reduceEqDiff, reduceCtorEq, and_self]
    exact hK _ _ hs
  | succ n ih =>
    intro i s h k Q hi hs h1 h2 hK
    refine g.lpe b70_0.eq_1 ?_
    have c1 : ((i : Int) < (N : Int)) := by omega
    have c2 : 0 ≤ (i : Int) ∧ (i : Int) < (N : Int) ∧ 1 = 1 := ⟨by omega, by omega, rfl⟩
    have w1 : IntKind.i64.wrap ((i : Int) + 1) = ((i + 1 : Nat) : Int) := by rw [w64 (by omega) (by omega)]; push_cast; rfl
    have a := (ha i (by omega)).sim hb hs
    have a' := a
    obtain ⟨m, am⟩ := a'
    have ld := am.ld
    obtain ⟨h', hw, hs'⟩ := a.st hB (IntKind.i64.wrap (-9 - m))
    simp only [h1, h2, c1, c2, ld, hw, w1, Int.toNat_natCast, Nat.mul_one, R0, R1, R2, R3, R4, R5, R6, R7, R8, R9, VOp.fresh, bxC, bsC, R10, un, most, callsOf, List.contains_nil, List.contains_cons, beq_iff_eq, List.getElem?_cons_zero, List.getElem?_cons_succ, seval, Option.map_none, Int.reducePow, ↓reduceIte, Nat.reduceEqDiff, reduceCtorEq, and_self]
    refine ih (i + 1) _ h' k Q (by omega) (hs.trans hs') ?_ ?_ hK
    · simp only [h1, sg_set, Nat.reduceEqDiff, ↓reduceIte]
    · simp only [sg_set, Nat.reduceEqDiff, ↓reduceIte]
theorem spInts_cl (g : Pg P tab) {B : Nat → Prop} {h : Heap} {v : AV} (l : LInts h B v) {Q : AV → Heap → Prop} (q : ∀ v h', Sim B h h' → Q v h') : Cl P 70 [v] h Q := by
  refine g.cl (vf := v70) rfl rfl ?_
  rcases l with rfl | ⟨b, off, n, cap, rfl, a1, a2, a3, a4⟩
  · simp only [v70, R0, R1, R2, R3, R4, R5, R6, R7, R8, R9, VOp.fresh, bxC, bsC, R10, un, most, callsOf, List.contains_nil, List.contains_cons, beq_iff_eq, List.getElem?_cons_zero, List.getElem?_cons_succ, seval, Option.map_none, Int.reducePow, ↓reduceIte, Nat.reduceEqDiff, reduceCtorEq, and_self]
    refine g.lpe b70_0.eq_1 ?_
    simp only [R0, R1, R2, R3, R4, R5, R6, R7, R8, R9, VOp.fresh, bxC, bsC, R10, un, most, callsOf, List.contains_nil, List.contains_cons, beq_iff_eq, List.getElem?_cons_zero, List.getElem?_cons_succ, seval, Option.map_none, Int.reducePow, ↓reduceIte, Nat.reduceEqDiff, reduceCtorEq, and_self]
    exact q _ _ Sim.refl
  · simp only [v70, R0, R1, R2, R3, R4, R5, R6, R7, R8, R9, VOp.fresh, bxC, bsC, R10, un, most, callsOf, List.contains_nil, List.contains_cons, beq_iff_eq, List.getElem?_cons_zero, List.getElem?_cons_succ, seval, Option.map_none, Int.reducePow, ↓reduceIte, Nat.reduceEqDiff, reduceCtorEq, and_self]
    refine spInts_loop g (cap := cap) a1 a2 a3 a4 n 0 _ _ _ _ (by omega) Sim.refl ?_ ?_ fun s' h' hs => ?_
    · simp only [sg_set, Nat.reduceEqDiff, ↓reduceIte]
    · simp only [sg_set, Nat.reduceEqDiff, ↓reduceIte]
      rfl
    simp only [R0, R1, R2, R3, R4, R5, R6, R7, R8, R9, VOp.fresh, bxC, bsC, R10, un, most, callsOf, List.contains_nil, List.contains_cons, beq_iff_eq, List.getElem?_cons_zero, List.getElem?_cons_succ, seval, Option.map_none, Int.reducePow, ↓reduceIte, Nat.reduceEqDiff, reduceCtorEq, and_self]
    exact q _ _ hs
theorem spMap_cl (g : Pg P tab) {B : Nat → Prop} {h : Heap} {e u v : AV} (lu : LInts h B u) (lv : LInts h B v) (ho : e.one = true ∧ u.one = true ∧ v.one = true) {Q : AV → Heap → Prop} (q : ∀ v h', Sim B h h' → Q v h') : Cl P 22 [.agg [e, u, v]] h Q := by
  refine g.cl (vf := v22) rfl rfl ?_
  obtain ⟨o1, o2, o3⟩ := ho
  have x0 := Ext.mk (h := h) (.cells [e, u, v] 26 0)
  have a1 : At (h.mk' h.next (.cells [e, u, v] 26 0)) h.next 1 u := ⟨_, _, _, by rw [Heap.get_mk, if_pos rfl], rfl⟩
  have a2 : At (h.mk' h.next (.cells [e, u, v] 26 0)) h.next 2 v := ⟨_, _, _, by rw [Heap.get_mk, if_pos rfl], rfl⟩
  have n0 : (h.mk' h.next (.cells [e, u, v] 26 0)).next = h.next + 1 := by rw [mk_next]; omega
  simp only [v22, RW, o1, o2, o3, R0, R1, R2, R3, R4, R5, R6, R7, R8, R9, VOp.fresh, bxC, bsC, R10, un, most, callsOf, List.contains_nil, List.contains_cons, beq_iff_eq, List.getElem?_cons_zero, List.getElem?_cons_succ, seval, Option.map_none, Int.reducePow, ↓reduceIte, Nat.reduceEqDiff, reduceCtorEq, and_self]
  refine spInts_cl g (lu.sim (B' := B) (Sim.ext x0)) fun _ h1 s1 => ?_
  have l1 := (a2.sim (by omega) lv.noI s1).ld
  simp only [l1, R0, R1, R2, R3, R4, R5, R6, R7, R8, R9, VOp.fresh, bxC, bsC, R10, un, most, callsOf, List.contains_nil, List.contains_cons, beq_iff_eq, List.getElem?_cons_zero, List.getElem?_cons_succ, seval, Option.map_none, Int.reducePow, ↓reduceIte, Nat.reduceEqDiff, reduceCtorEq, and_self]
  refine spInts_cl g ((lv.sim (B' := B) (Sim.ext x0)).sim s1) fun _ h2 s2 => ?_
  simp only [R0, R1, R2, R3, R4, R5, R6, R7, R8, R9, VOp.fresh, bxC, bsC, R10, un, most, callsOf, List.contains_nil, List.contains_cons, beq_iff_eq, List.getElem?_cons_zero, List.getElem?_cons_succ, seval, Option.map_none, Int.reducePow, ↓reduceIte, Nat.reduceEqDiff, reduceCtorEq, and_self]
  exact q _ _ (((Sim.ext x0).trans s1).trans s2)
end
end Go.Proofs.Ytinonmcnofjeeaa.VM
