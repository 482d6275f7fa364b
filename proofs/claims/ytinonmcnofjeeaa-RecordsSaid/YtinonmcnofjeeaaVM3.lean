/- Memory: what reading, writing and making do to what stands for what. -/
import Derived.Test.YtinonmcnofjeeaaVM2
namespace Go.Proofs.Ytinonmcnofjeeaa.VM
set_option linter.unusedSimpArgs false
set_option linter.unusedVariables false
set_option linter.defProp false
set_option maxHeartbeats 1000000
open Go.RowKit

theorem cut_spec {l r : List AV} {i n : Nat} (h : cut l i n = some r) : r = (l.drop i).take n ∧ r.length = n := by
  unfold cut at h
  by_cases e : ((l.drop i).take n).length = n
  · simp only [e, cond_true, T.beq_dec, decide_true] at h
    cases h
    exact ⟨rfl, e⟩
  · simp only [T.beq_dec, decide_eq_false e, cond_false] at h
    cases h

theorem Heap.get_put (h : Heap) (b : Nat) (o : Blk) (c : Nat) : (h.put b o).get c = if c = b then some o else h.get c := T.get_set _ _ _ _
theorem Heap.get_mk (h : Heap) (b : Nat) (o : Blk) (c : Nat) : (h.mk' b o).get c = if c = b then some o else h.get c := T.get_set _ _ _ _

section
variable {φ : Env} {w : World} {H : Heap}

theorem HR.cells (hr : HR φ w H) {b : Nat} {l : List AV} {e : TypeId} {ver : Nat} (h : H.get b = some (.cells l e ver)) :
    ∃ B o e' n, φ b = some (B, o) ∧ w.shape? B = some (e', n) ∧ VRm φ w l B o ∧ (∀ i, i < n → w.frozen? ⟨B, i, none⟩ = false) ∧ o + l.length ≤ n := by
  have := hr.blk b
  rw [h] at this
  obtain ⟨B, o, e', n, h1, h2, h3, h4, h5⟩ := this
  exact ⟨B, o, e', n, h1, h2, h3, h4.1, h5⟩
theorem HR.thawed (hr : HR φ w H) {b : Nat} {l : List AV} {e : TypeId} {ver : Nat} (h : H.get b = some (.cells l e ver)) {B o : Nat} (hb : φ b = some (B, o)) {e' : TypeId} {n : Nat} (hs : w.shape? B = some (e', n)) : Thawed w B n := by
  have := hr.blk b
  rw [h] at this
  obtain ⟨B1, o1, e1, n1, h1, h2, _, h4, _⟩ := this
  rw [hb] at h1
  cases h1
  rw [hs] at h2
  cases h2
  exact h4

/-- A new block of cells. -/
theorem shape_alloc_old (o : Obj) {B : Nat} {x : TypeId × Nat} (h : w.shape? B = some x) : (w.alloc o).shape? B = some x := by
  unfold World.shape? at *
  have hlt : B < w.heap.size := by
    rcases Nat.lt_or_ge B w.heap.size with h' | h'
    · exact h'
    · rw [Array.getElem?_eq_none h'] at h; cases h
  rw [Below.heap_alloc _ _ _ hlt]
  exact h
theorem heap_alloc_new (w : World) (o : Obj) : (w.alloc o).heap[w.heap.size]? = some o := by
  show (w.heap.push o)[w.heap.size]? = some o
  simp

def Env.at (φ : Env) (b : Nat) (p : Nat × Nat) : Env := fun c => if c = b then some p else φ c

theorem upd_alloc (o : Obj) {nm : Nat} (hn : φ nm = none) : Upd φ w (φ.at nm (w.heap.size, 0)) (w.alloc o) where
  os := rfl
  tape := rfl
  output := rfl
  size := by simp
  ext b p hb := by
    unfold Env.at
    rw [if_neg (fun e => by rw [e, hn] at hb; cases hb)]
    exact hb
  new b B o' hb := by
    unfold Env.at at hb
    by_cases e : b = nm
    · rw [if_pos e] at hb
      cases hb
      exact .inr (Nat.le_refl _)
    · rw [if_neg e] at hb
      exact .inl ⟨_, _, hb⟩
  keep B hB _ := Below.heap_alloc _ _ _ hB
  shape B x hx := shape_alloc_old o hx

/-- All that was there, over a step that leaves it alone. -/
theorem BR.upd {φ' : Env} {w' : World} (hr : HR φ w H) (u : Upd φ w φ' w') {b : Nat} (hlive : live (H.get b) = true) (hsame : ∀ p, φ b = some p → w'.heap[p.1]? = w.heap[p.1]?) : BR φ' w' b (H.get b) := by
  have h := hr.blk b
  revert h hlive
  cases H.get b with
  | none => intro h; cases h
  | some x =>
    cases x with
    | dead => intro h; cases h
    | cells l e ver =>
      intro _ h
      obtain ⟨B, o, e', n, h1, h2, h3, h4, h5⟩ := h
      have hs := hsame _ h1
      exact ⟨B, o, e', n, u.ext _ _ h1, u.shape _ _ h2, h3.upd u hs, h4.keep hs, h5⟩
    | map es ver =>
      intro _ h
      obtain ⟨B, o, vs, clock, h1, h2, h3, h4⟩ := h
      have hs := hsame _ h1
      exact ⟨B, o, vs, clock, u.ext _ _ h1, hs.trans h2, h3.upd u, h4.upd u⟩

theorem live_named (hr : HR φ w H) {b : Nat} (h : live (H.get b) = true) : ∃ p, φ b = some p := by
  have hb := hr.blk b
  revert hb h
  cases H.get b with
  | none => intro h; cases h
  | some x =>
    cases x with
    | dead => intro h; cases h
    | cells l e ver => intro _ ⟨B, o, _, _, h1, _⟩; exact ⟨_, h1⟩
    | map es ver => intro _ ⟨B, o, _, _, h1, _⟩; exact ⟨_, h1⟩

theorem not_live {x : Option Blk} (h : ¬ live x = true) : x = none ∨ x = some .dead := by
  cases x with
  | none => exact .inl rfl
  | some y => cases y <;> simp [live] at h ⊢

/-- A new block. -/
theorem hr_alloc (hr : HR φ w H) {nm : Nat} (hn : H.get nm = none) {o : Obj} {x : Blk} (hx : BR (φ.at nm (w.heap.size, 0)) (w.alloc o) nm (some x)) :
    HR (φ.at nm (w.heap.size, 0)) (w.alloc o) (H.mk' nm x) := by
  have hφ : φ nm = none := by have := hr.blk nm; rw [hn] at this; exact this
  have u := upd_alloc (φ := φ) (w := w) o hφ
  refine ⟨fun b => ?_, fun b p hb => ?_, fun b b' p p' hl hl' hp hp' he => ?_, fun b hb => ?_⟩
  · rw [Heap.get_mk]
    by_cases e : b = nm
    · rw [if_pos e, e]; exact hx
    · rw [if_neg e]
      by_cases hl : live (H.get b) = true
      · exact BR.upd hr u hl fun p hp => Below.heap_alloc _ _ _ (hr.lt _ _ hp)
      · rcases not_live hl with h | h
        · rw [h]
          have := hr.blk b
          rw [h] at this
          show φ.at nm _ b = none
          unfold Env.at
          rw [if_neg e]
          exact this
        · rw [h]; trivial
  · unfold Env.at at hb
    by_cases e : b = nm
    · rw [if_pos e] at hb
      cases hb
      simp
    · rw [if_neg e] at hb
      have := hr.lt _ _ hb
      simp; omega
  · rw [Heap.get_mk] at hl hl'
    unfold Env.at at hp hp'
    by_cases e : b = nm
    · by_cases e' : b' = nm
      · rw [e, e']
      · rw [if_pos e] at hp
        rw [if_neg e'] at hp'
        cases hp
        have := hr.lt _ _ hp'
        simp at he; omega
    · by_cases e' : b' = nm
      · rw [if_neg e] at hp
        rw [if_pos e'] at hp'
        cases hp'
        have := hr.lt _ _ hp
        simp at he; omega
      · rw [if_neg e] at hp hl
        rw [if_neg e'] at hp' hl'
        exact hr.inj b b' p p' hl hl' hp hp' he
  · have hb' : max H.next (nm + 1) ≤ b := hb
    rw [Heap.get_mk, if_neg (by omega)]
    exact hr.next b (by omega)

/-- A new block of cells, by its cells. -/
theorem br_new {l : List AV} {cs : Array Value} (h : VRs φ w l cs.toList) {nm : Nat} (hn : φ nm = none) (e e' : TypeId) (ver : Nat) :
    BR (φ.at nm (w.heap.size, 0)) (w.alloc (.cells cs e')) nm (some (.cells l e ver)) := by
  have u := upd_alloc (φ := φ) (w := w) (.cells cs e') hn
  refine ⟨w.heap.size, 0, e', cs.size, by unfold Env.at; rw [if_pos rfl], ?_, VRm.of_get fun i x hx => ?_, ⟨fun i _ => by simp, fun fr hf => by simp only [frz?, heap_alloc_new, Option.some.injEq] at hf; rw [← hf]; exact Nat.le_refl _⟩, by rw [h.length]; simp⟩
  · unfold World.shape?
    rw [heap_alloc_new]
  · obtain ⟨v, hv, hrv⟩ := (h.upd u).get hx
    refine ⟨v, ?_, hrv⟩
    rw [Nat.zero_add, World.cell?_alloc_new]
    simpa using hv

/-- Writing cells of a block that is named. -/
theorem setCells_heap (B : Nat) : ∀ (vs : List Value) (o : Nat) (w : World) (k : Nat), k ≠ B → (w.setCells B o vs).heap[k]? = w.heap[k]?
  | [], _, _, _, _ => rfl
  | v :: r, o, w, k, h => by rw [World.setCells, setCells_heap B r (o + 1) _ k h, Below.heap_setCell _ _ _ _ h]
theorem setCells_size (B : Nat) : ∀ (vs : List Value) (o : Nat) (w : World), (w.setCells B o vs).heap.size = w.heap.size
  | [], _, _ => rfl
  | v :: r, o, w => by rw [World.setCells, setCells_size B r (o + 1), World.size_setCell]
theorem setCell_shape (w : World) (a : Addr) (v : Value) (B : Nat) : (w.setCell a v).shape? B = w.shape? B := by
  simp only [World.setCell, World.shape?, Array.getElem?_modify]
  by_cases h : a.block = B
  · subst h
    cases hh : w.heap[a.block]? with
    | none => simp
    | some x =>
      cases x <;> simp
      split <;> simp
  · simp [h]
theorem setCells_shape (B : Nat) : ∀ (vs : List Value) (o : Nat) (w : World) (k : Nat), (w.setCells B o vs).shape? k = w.shape? k
  | [], _, _, _ => rfl
  | v :: r, o, w, k => by rw [World.setCells, setCells_shape B r (o + 1), setCell_shape]
theorem setCells_frz (B : Nat) : ∀ (vs : List Value) (o : Nat) (w : World) (k : Nat), frz? (w.setCells B o vs) k = frz? w k
  | [], _, _, _ => rfl
  | v :: r, o, w, k => by
    rw [World.setCells, setCells_frz B r (o + 1)]
    simp only [World.setCell, frz?, Array.getElem?_modify]
    by_cases h : B = k
    · subst h
      simp only [if_true]
      cases w.heap[B]? with
      | none => rfl
      | some x => cases x <;> rfl
    · rw [if_neg h]
theorem Thawed.setCells {w : World} {B n : Nat} (h : Thawed w B n) (B' o : Nat) (vs : List Value) : Thawed (w.setCells B' o vs) B n :=
  ⟨fun i hi => by rw [World.frozen?_setCells]; exact h.1 i hi, fun fr hf => h.2 fr (by rw [← hf, setCells_frz])⟩
theorem setCells_rest (B : Nat) : ∀ (vs : List Value) (o : Nat) (w : World), (w.setCells B o vs).os = w.os ∧ (w.setCells B o vs).tape = w.tape ∧ (w.setCells B o vs).output = w.output
  | [], _, _ => ⟨rfl, rfl, rfl⟩
  | v :: r, o, w => by
    have := setCells_rest B r (o + 1) (w.setCell ⟨B, o, none⟩ v)
    rw [World.setCells]
    exact this

theorem upd_setCells {b B o : Nat} (hb : φ b = some (B, o)) (off : Nat) (vs : List Value) : Upd φ w φ (w.setCells B off vs) where
  os := (setCells_rest B vs off w).1
  tape := (setCells_rest B vs off w).2.1
  output := (setCells_rest B vs off w).2.2
  size := by rw [setCells_size]; exact Nat.le_refl _
  ext _ _ h := h
  new _ _ _ h := .inl ⟨_, _, h⟩
  keep B' _ hn := setCells_heap B vs off w B' fun e => hn _ _ hb e.symm
  shape B' x hx := by rw [setCells_shape]; exact hx

theorem cell_lt {B k n : Nat} {e : TypeId} {v : Value} (h : w.shape? B = some (e, n)) (hc : w.cell? ⟨B, k, none⟩ = some v) : k < n := by
  unfold World.cell? at hc
  unfold World.shape? at h
  cases hh : w.heap[B]? with
  | none => rw [hh] at h; cases h
  | some x =>
    rw [hh] at h hc
    cases x with
    | cells c t fr =>
      have h' : some (t, c.size) = some (e, n) := h
      have hc' : c[k]? = some v := hc
      cases h'
      exact (Array.getElem?_eq_some_iff.1 hc').1
    | _ => cases h

theorem lsets_get (vs l : List AV) (i : Nat) (h : i + vs.length ≤ l.length) (j : Nat) : (lsets vs l i)[j]? = if j < i then l[j]? else if j < i + vs.length then vs[j - i]? else l[j]? := by
  unfold lsets
  rw [List.append_assoc]
  by_cases h1 : j < i
  · rw [if_pos h1, List.getElem?_append_left (by simp; omega), List.getElem?_take_of_lt h1]
  · rw [if_neg h1, List.getElem?_append_right (by simp; omega)]
    have e : (l.take i).length = i := by simp; omega
    rw [e]
    by_cases h2 : j < i + vs.length
    · rw [if_pos h2, List.getElem?_append_left (by omega)]
    · rw [if_neg h2, List.getElem?_append_right (by omega), List.getElem?_drop]
      congr 1; omega
theorem lsets_length (vs l : List AV) (i : Nat) (h : i + vs.length ≤ l.length) : (lsets vs l i).length = l.length := by
  unfold lsets; simp; omega

theorem writeAt_spec {h h' : Heap} {b off : Nat} {vs : List AV} (e : writeAt h b off vs = some h') :
    ∃ l t ver, h.get b = some (.cells l t ver) ∧ off + vs.length ≤ l.length ∧ vs.all AV.one = true ∧ h' = h.put b (.cells (lsets vs l off) t (ver + 1)) := by
  unfold writeAt at e
  split at e
  · rename_i l t ver hb
    by_cases c : (Nat.ble (off + vs.length) l.length && vs.all AV.one) = true
    · rw [c] at e
      cases e
      rw [Bool.and_eq_true] at c
      exact ⟨l, t, ver, hb, Nat.ble_eq ▸ c.1, c.2, rfl⟩
    · rw [Bool.not_eq_true] at c
      rw [c] at e
      cases e
  · cases e

/-- Cells are written: memory as it is then. -/
theorem hr_write (hr : HR φ w H) {b B o off : Nat} {vs : List AV} {us : List Value} {H' : Heap} (hb : φ b = some (B, o)) (e : writeAt H b off vs = some H') (hv : VRs φ w vs us) :
    HR φ (w.setCells B (o + off) us) H' ∧ (∀ j, j < us.length → (w.cell? ⟨B, o + off + j, none⟩).isSome = true) ∧ (∀ j, j < us.length → w.frozen? ⟨B, o + off + j, none⟩ = false) := by
  obtain ⟨l, t, ver, hg, hle, _, rfl⟩ := writeAt_spec e
  obtain ⟨B', o', e', n, h1, h2, h3, h4, h5⟩ := hr.cells hg
  rw [hb] at h1
  cases h1
  have hlen := hv.length
  have hcells : ∀ j, j < us.length → (w.cell? ⟨B, o + off + j, none⟩).isSome = true := by
    intro j hj
    obtain ⟨x, hx⟩ : ∃ x, l[off + j]? = some x := ⟨l[off + j]'(by omega), List.getElem?_eq_getElem _⟩
    obtain ⟨u, hu, _⟩ := h3.get hx
    rw [show o + off + j = o + (off + j) by omega, hu]
    rfl
  have u : Upd φ w φ (w.setCells B (o + off) us) := upd_setCells hb _ _
  refine ⟨⟨fun c => ?_, fun c p hp => ?_, fun c c' p p' hl hl' hp hp' he => ?_, fun c hc => ?_⟩, hcells, fun j hj => ?_⟩
  · rw [Heap.get_put]
    by_cases ec : c = b
    · rw [if_pos ec, ec]
      refine ⟨B, o, e', n, hb, by rw [setCells_shape]; exact h2, VRm.of_get fun i x hx => ?_, (hr.thawed hg hb h2).setCells _ _ _, by rw [lsets_length _ _ _ hle]; exact h5⟩
      rw [lsets_get _ _ _ hle] at hx
      by_cases c1 : i < off
      · rw [if_pos c1] at hx
        obtain ⟨v, hv1, hv2⟩ := h3.get hx
        exact ⟨v, by rw [World.cell?_setCells_out B us _ _ _ (fun _ _ => .inl (by show o + i < o + off; omega))]; exact hv1, hv2.upd u⟩
      · rw [if_neg c1] at hx
        by_cases c2 : i < off + vs.length
        · rw [if_pos c2] at hx
          obtain ⟨v, hv1, hv2⟩ := hv.get hx
          have hj : i - off < us.length := by omega
          have := World.cell?_setCells_in B us (o + off) w hcells (i - off) hj
          rw [show o + off + (i - off) = o + i by omega] at this
          rw [List.getElem?_eq_getElem hj] at hv1
          cases hv1
          exact ⟨_, this, hv2.upd u⟩
        · rw [if_neg c2] at hx
          obtain ⟨v, hv1, hv2⟩ := h3.get hx
          exact ⟨v, by rw [World.cell?_setCells_out B us _ _ _ (fun _ _ => .inr (by show o + off + us.length ≤ o + i; omega))]; exact hv1, hv2.upd u⟩
    · rw [if_neg ec]
      by_cases hl : live (H.get c) = true
      · refine BR.upd hr u hl fun p hp => setCells_heap B us _ w _ fun e' => ec ?_
        exact hr.inj c b p (B, o) hl (by rw [hg]; rfl) hp hb e'
      · rcases not_live hl with h | h
        · rw [h]
          have := hr.blk c
          rw [h] at this
          exact this
        · rw [h]; trivial
  · rw [setCells_size]; exact hr.lt _ _ hp
  · rw [Heap.get_put] at hl hl'
    have L : ∀ {d : Nat}, live (if d = b then some (Blk.cells (lsets vs l off) t (ver + 1)) else H.get d) = true → live (H.get d) = true := by
      intro d hd
      by_cases ed : d = b
      · rw [ed, hg]; rfl
      · rw [if_neg ed] at hd; exact hd
    exact hr.inj c c' p p' (L hl) (L hl') hp hp' he
  · have hc' : H.next ≤ c := hc
    rw [Heap.get_put]
    have := hr.next c hc'
    rw [if_neg (fun ec => by rw [ec, hg] at this; cases this)]
    exact this
  · obtain ⟨x, hx⟩ : ∃ x, l[off + j]? = some x := ⟨l[off + j]'(by omega), List.getElem?_eq_getElem _⟩
    obtain ⟨v, hv1, _⟩ := h3.get hx
    have hlt : o + off + j < n := by
      rw [show o + (off + j) = o + off + j by omega] at hv1
      exact cell_lt h2 hv1
    exact h4 _ hlt

/-- From memory to memory: what is not named by what lives stays; what is dead stays dead. -/
structure UpdH (φ : Env) (w : World) (H : Heap) (φ' : Env) (w' : World) (H' : Heap) : Prop extends Upd φ w φ' w' where
  keepL : ∀ B, B < w.heap.size → (∀ b p, live (H.get b) = true → φ b = some p → p.1 ≠ B) → w'.heap[B]? = w.heap[B]?
  deadL : ∀ b, H.get b ≠ none → live (H.get b) = false → H'.get b ≠ none ∧ live (H'.get b) = false ∧ φ' b = φ b
  newL : ∀ b B o, live (H'.get b) = true → φ' b = some (B, o) → (∃ b0 o0, live (H.get b0) = true ∧ φ b0 = some (B, o0)) ∨ w.heap.size ≤ B
  stay : ∀ b, H.get b ≠ none → H'.get b ≠ none
theorem UpdH.same {φ : Env} {w : World} (w' : World) (H : Heap) (u : Upd φ w φ w') (k : ∀ B, B < w.heap.size → w'.heap[B]? = w.heap[B]?) : UpdH φ w H φ w' H :=
  { toUpd := u, keepL := fun B hB _ => k B hB, deadL := fun b h1 h2 => ⟨h1, h2, rfl⟩, newL := fun b B o h1 h2 => .inl ⟨b, o, h1, h2⟩, stay := fun _ h => h }
theorem UpdH.refl (φ : Env) (w : World) (H : Heap) : UpdH φ w H φ w H := UpdH.same w H (Upd.refl _ _) fun _ _ => rfl
theorem UpdH.trans {φ φ1 φ2 : Env} {w w1 w2 : World} {H H1 H2 : Heap} (h : UpdH φ w H φ1 w1 H1) (k : UpdH φ1 w1 H1 φ2 w2 H2) : UpdH φ w H φ2 w2 H2 :=
  { toUpd := h.toUpd.trans k.toUpd
    keepL := fun B hB hn => by
      rw [k.keepL B (Nat.lt_of_lt_of_le hB h.size) (fun b p hl hb he => ?_), h.keepL B hB hn]
      obtain ⟨B1, o1⟩ := p
      simp only at he
      subst he
      rcases h.newL _ _ _ hl hb with ⟨b0, o0, h0, h1⟩ | h0
      · exact hn _ _ h0 h1 rfl
      · omega
    deadL := fun b h1 h2 => by
      obtain ⟨a1, a2, a3⟩ := h.deadL b h1 h2
      obtain ⟨b1, b2, b3⟩ := k.deadL b a1 a2
      exact ⟨b1, b2, b3.trans a3⟩
    newL := fun b B o hl hb => by
      rcases k.newL b B o hl hb with ⟨b0, o0, h0, h1⟩ | h0
      · exact h.newL _ _ _ h0 h1
      · exact .inr (Nat.le_trans h.size h0)
    stay := fun b hb => k.stay b (h.stay b hb) }
/-- a new block -/
theorem updH_alloc {φ : Env} {w : World} {H : Heap} (hr : HR φ w H) {nm : Nat} (hn : H.get nm = none) (o : Obj) (x : Blk) : UpdH φ w H (φ.at nm (w.heap.size, 0)) (w.alloc o) (H.mk' nm x) := by
  have hφ : φ nm = none := by have := hr.blk nm; rw [hn] at this; exact this
  refine { toUpd := upd_alloc o hφ, keepL := fun B hB _ => Below.heap_alloc _ _ _ hB, deadL := fun b h1 h2 => ?_, newL := fun b B o' h1 h2 => ?_, stay := fun b h1 => ?_ }
  · have hb : b ≠ nm := fun e => h1 (by rw [e, hn])
    rw [Heap.get_mk, if_neg hb]
    exact ⟨h1, h2, by unfold Env.at; rw [if_neg hb]⟩
  · rw [Heap.get_mk] at h1
    unfold Env.at at h2
    by_cases e : b = nm
    · rw [if_pos e] at h2
      cases h2
      exact .inr (Nat.le_refl _)
    · rw [if_neg e] at h1 h2
      exact .inl ⟨_, _, h1, h2⟩
  · rw [Heap.get_mk]
    by_cases e : b = nm
    · rw [if_pos e]; simp
    · rw [if_neg e]; exact h1
/-- a living block is written -/
theorem updH_put {φ : Env} {w w' : World} {H : Heap} {b B o : Nat} (hb : φ b = some (B, o)) (hl : live (H.get b) = true) (u : Upd φ w φ w') (k : ∀ B', B' < w.heap.size → B' ≠ B → w'.heap[B']? = w.heap[B']?) (x : Blk) : UpdH φ w H φ w' (H.put b x) := by
  have hne : H.get b ≠ none := fun e => by rw [e] at hl; cases hl
  refine { toUpd := u, keepL := fun B' hB hn => k B' hB fun e => hn _ _ hl hb e.symm, deadL := fun c h1 h2 => ?_, newL := fun c B' o' h1 h2 => ?_, stay := fun c h1 => ?_ }
  · have hc : c ≠ b := fun e => by rw [e, hl] at h2; cases h2
    rw [Heap.get_put, if_neg hc]
    exact ⟨h1, h2, rfl⟩
  · rw [Heap.get_put] at h1
    by_cases e : c = b
    · subst e; exact .inl ⟨_, _, hl, h2⟩
    · rw [if_neg e] at h1
      exact .inl ⟨_, _, h1, h2⟩
  · rw [Heap.get_put]
    by_cases e : c = b
    · rw [if_pos e]; simp
    · rw [if_neg e]; exact h1
theorem updH_write {φ : Env} {w : World} {H H' : Heap} {b B o off at_ : Nat} {vs : List AV} {us : List Value} (hb : φ b = some (B, o)) (e : writeAt H b off vs = some H') : UpdH φ w H φ (w.setCells B at_ us) H' := by
  obtain ⟨l, t, ver, hg, _, _, rfl⟩ := writeAt_spec e
  exact updH_put hb (by rw [hg]; rfl) (upd_setCells hb _ _) (fun B' _ hne => setCells_heap B us _ w B' hne) _
end
open Go.RowKit

theorem add_none (B o n : Nat) : (⟨B, o, none⟩ : Addr).add n = ⟨B, o + n, none⟩ := by unfold Addr.add; split <;> simp_all

/-- Slots stand for slots. -/
structure SR (φ : Env) (w : World) (nt : Nat) (st : St) (a : Act) : Prop where
  size : a.tmps.size = nt
  get : ∀ t, VR φ w (st.get t) (a.tmps.getD t undef)

theorem SR.upd {φ φ' : Env} {w w' : World} {nt : Nat} {st : St} {a : Act} (h : SR φ w nt st a) (u : Upd φ w φ' w') : SR φ' w' nt st a :=
  ⟨h.size, fun t => (h.get t).upd u⟩

theorem St.get_put (st : St) (d : Option Nat) (v : AV) (t : Nat) : (st.put d v).get t = if d = some t then v else st.get t := by
  cases d with
  | none => rfl
  | some d =>
    show ((st.s.set d v).get t).getD .undef = _
    rw [T.get_set]
    by_cases e : t = d
    · subst e; simp
    · rw [if_neg e, if_neg (fun h => e (Option.some.inj h).symm)]; rfl

theorem SR.put {φ : Env} {w : World} {nt : Nat} {st : St} {a : Act} (h : SR φ w nt st a) {d : Option Nat} (hd : d.all (· < nt) = true) {v : AV} {u : Value} (hv : VR φ w v u) (h' : Heap) :
    SR φ w nt (St.put ⟨st.s, h'⟩ d v) (a.put d u) := by
  cases d with
  | none => exact ⟨h.size, h.get⟩
  | some d =>
    have hlt : d < nt := by simpa using hd
    refine ⟨by simp [Act.put, h.size], fun t => ?_⟩
    rw [St.get_put]
    show VR φ w _ ((a.tmps.setIfInBounds d u).getD t undef)
    have e1 : St.get ⟨st.s, h'⟩ t = st.get t := rfl
    rw [e1]
    by_cases e : d = t
    · subst e
      rw [if_pos rfl]
      have : (a.tmps.setIfInBounds d u).getD d undef = u := by
        simp [Array.getD_eq_getD_getElem?, h.size, hlt]
      rw [this]
      exact hv
    · rw [if_neg (fun h => e (Option.some.inj h))]
      have : (a.tmps.setIfInBounds d u).getD t undef = a.tmps.getD t undef := by
        simp [Array.getD_eq_getD_getElem?, Array.getElem?_setIfInBounds_ne e]
      rw [this]
      exact h.get t

section
variable {φ : Env} {w : World}
theorem avCell_ok : ∀ {v : Value} {x : AV}, avCell v = some x → VR φ w x v := by
  intro v x h
  unfold avCell at h
  split at h <;> first | (cases h; done) | (cases h; constructor)
theorem mapM_cells : ∀ {vs : List Value} {l : List AV}, vs.mapM avCell = some l → VRs φ w l vs
  | [], l, h => by simp at h; subst h; exact .nil
  | v :: vs, l, h => by
    simp only [List.mapM_cons, Option.bind_eq_bind, Option.bind_eq_some_iff, Option.pure_def, Option.some.injEq] at h
    obtain ⟨x, hx, l', hl, rfl⟩ := h
    exact .cons (avCell_ok hx) (mapM_cells hl)
theorem avOf_ok {v : Value} {x : AV} (h : avOf v = some x) : VR φ w x v := by
  unfold avOf at h
  split at h
  · rename_i cs
    simp only [Option.map_eq_some_iff] at h
    obtain ⟨l, hl, rfl⟩ := h
    exact .agg (mapM_cells hl)
  · exact avCell_ok h

variable {nt : Nat} {st : St} {a : Act}
theorem opd_ok (hs : SR φ w nt st a) {x : Operand} {y : Opd} (h : cOpd x = some y) : VR φ w (y.eval st) (a.eval x) := by
  cases x with
  | tmp t => cases h; exact hs.get t
  | const v =>
    simp only [cOpd, Option.map_eq_some_iff] at h
    obtain ⟨c, hc, rfl⟩ := h
    exact avOf_ok hc
  | func f => cases h; exact .fn .nil
  | global g => cases h
theorem opds_ok (hs : SR φ w nt st a) : ∀ {l : List Operand} {ys : List Opd}, cOpds l = some ys → VRs φ w (ys.map (·.eval st)) (l.map a.eval)
  | [], _, h => by simp [cOpds] at h; subst h; exact .nil
  | x :: l, ys, h => by
    simp only [cOpds, List.mapM_cons, Option.bind_eq_bind, Option.bind_eq_some_iff, Option.pure_def, Option.some.injEq] at h
    obtain ⟨y, hy, l', hl, rfl⟩ := h
    exact .cons (opd_ok hs hy) (opds_ok hs hl)

/-! ### what values come to -/
theorem VR.cells : ∀ {x : AV} {v : Value} {l : List AV}, VR φ w x v → x.cells = some l → VRs φ w l v.cells.toList := by
  intro x v l h e
  cases h <;> simp only [AV.cells, Option.some.injEq] at e <;> first | (cases e; done) | (subst e; first | assumption | exact .cons (by constructor <;> assumption) .nil)
theorem VR.one : ∀ {x : AV} {v : Value}, VR φ w x v → x.one = true → v.oneCell' = true := by
  intro x v h e
  cases h <;> first | rfl | (simp [AV.one] at e)
theorem VRs.one : ∀ {l : List AV} {vs : List Value}, VRs φ w l vs → l.all AV.one = true → ∀ v ∈ vs, v.oneCell' = true
  | _, _, .nil, _, _, h => by simp at h
  | _, _, .cons h t, e, v, hv => by
    simp only [List.all_cons, Bool.and_eq_true] at e
    cases hv with
    | head => exact h.one e.1
    | tail _ hv => exact t.one e.2 v hv
end

section
variable {P : Program}
theorem has_info {t : TypeId} (h : has P t = true) : ∃ i, P.info? t = some i := by
  unfold has at h
  rw [Bool.and_eq_true] at h
  exact Option.isSome_iff_exists.1 h.1
theorem has_under {t : TypeId} (h : has P t = true) : ∃ d, P.underlying t = some d := by
  unfold has at h
  rw [Bool.and_eq_true] at h
  exact Option.isSome_iff_exists.1 h.2
theorem run_size {t : TypeId} (h : has P t = true) (w : World) : (sizeOf t).run P w = .ok (P.cellsOf t) w := by
  obtain ⟨i, hi⟩ := has_info h
  simp [sizeOf, typeInfo, hi, Program.cellsOf]
theorem run_agg {t : TypeId} (h : has P t = true) (w : World) : (isAgg t).run P w = .ok (isAggB P t) w := by
  obtain ⟨d, hd⟩ := has_under h
  unfold isAgg
  rw [Sem.run_bind, run_underlying hd, Result.andThen_ok]
  unfold isAggB
  rw [hd]
  cases d <;> rfl

variable {φ : Env} {w : World}
theorem part_spec {agg : Bool} {l : List AV} {off n : Nat} {v : AV} (h : part agg l off n = some v) :
    ∃ r, r = (l.drop off).take n ∧ r.length = n ∧ ((agg = true ∧ v = .agg r) ∨ (agg = false ∧ r = [v])) := by
  unfold part at h
  split at h
  · cases h
  · rename_i r hr
    obtain ⟨e1, e2⟩ := cut_spec hr
    refine ⟨r, e1, e2, ?_⟩
    cases agg with
    | true => simp at h; exact .inl ⟨rfl, h.symm⟩
    | false =>
      simp at h
      split at h
      · cases h; exact .inr ⟨rfl, rfl⟩
      · cases h

theorem load_ok {t : TypeId} (ht : has P t = true) {l : List AV} {B o off : Nat} (hm : VRm φ w l B o) {v : AV} (hp : part (isAggB P t) l off (P.cellsOf t) = some v) :
    ∃ u, (loadVar t ⟨B, o + off, none⟩).run P w = .ok u w ∧ VR φ w v u := by
  obtain ⟨r, e1, e2, e3⟩ := part_spec hp
  have hm' := (hm.drop off).take (P.cellsOf t)
  rw [← e1] at hm'
  unfold loadVar
  rw [Sem.run_bind, run_agg ht, Result.andThen_ok]
  rcases e3 with ⟨ha, rfl⟩ | ⟨ha, rfl⟩
  · rw [ha]
    obtain ⟨us, h1, h2⟩ := hm'.vals
    have hl := h1.length
    refine ⟨.agg us.toArray, ?_, .agg (by simpa using h1)⟩
    simp only [if_true, Sem.run_bind, run_size ht, Result.andThen_ok]
    have := run_loadCells_list (P := P) w ⟨B, o + off, none⟩ us fun j u hj => by rw [add_none]; exact h2 j u hj
    rw [← hl, e2] at this
    rw [this]
    rfl
  · rw [ha]
    cases hm' with
    | cons hc h t =>
      refine ⟨_, ?_, h⟩
      simp only [Bool.false_eq_true, if_false, run_load, hc]

theorem store_ok {t : TypeId} (ht : has P t = true) {H H' : Heap} (hr : HR φ w H) {b B o off : Nat} (hb : φ b = some (B, o)) {x : AV} {u : Value} (hv : VR φ w x u) {c : List AV} (hc : x.cells = some c)
    (hn : c.length = P.cellsOf t) (e : writeAt H b off c = some H') :
    ∃ w', (storeVar t ⟨B, o + off, none⟩ u).run P w = .ok () w' ∧ HR φ w' H' ∧ UpdH φ w H φ w' H' := by
  have hcs := hv.cells hc
  obtain ⟨h1, h2, h3⟩ := hr_write hr hb e hcs
  obtain ⟨l, t', ver, _, _, hone, _⟩ := writeAt_spec e
  refine ⟨_, ?_, h1, updH_write hb e⟩
  unfold storeVar
  have hsz : u.cells.size = P.cellsOf t := by rw [← hn, hcs.length]; simp
  simp only [Sem.run_bind, run_size ht, Result.andThen_ok, hsz, ne_eq, not_true_eq_false, if_false]
  have := run_storeCells_cells (P := P) B (o + off) u.cells.toList 0 w (fun j hj => by simpa using h2 j hj) (fun j hj => by simpa using h3 j hj) (hcs.one hone)
  simpa using this
end
end Go.Proofs.Ytinonmcnofjeeaa.VM
