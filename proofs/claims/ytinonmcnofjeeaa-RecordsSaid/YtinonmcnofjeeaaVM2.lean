/- How the small machine's values and memory stand for the program's. -/
import Derived.Test.YtinonmcnofjeeaaVM1
import Derived.WalkKit
import Derived.Laws.IdiomCopy
import Derived.Laws.Cells
namespace Go.Proofs.Ytinonmcnofjeeaa.VM
set_option linter.unusedSimpArgs false
set_option linter.unusedVariables false
set_option linter.defProp false
set_option maxHeartbeats 1000000
open Go.RowKit

/-- Where the machine's blocks lie: block and first cell. -/
abbrev Env := Nat → Option (Nat × Nat)

mutual
inductive VR (φ : Env) (w : World) : AV → Value → Prop
  | undef : VR φ w .undef (.tuple #[])
  | bool (b : Bool) : VR φ w (.bool b) (.bool b)
  | int (k : IntKind) (n : Int) : VR φ w (.int k n) (.int k n)
  | str (s : ByteArray) : VR φ w (.str (s.data.toList.map fun c => c.toNat)) (.string s)
  | ptr {b off B o : Nat} (h : φ b = some (B, o)) : VR φ w (.ptr b off) (.pointer (some ⟨B, o + off, none⟩))
  | nilp : VR φ w .nilp (.pointer none)
  | sl {b off len cap sz B o c n : Nat} {e : TypeId} (h : φ b = some (B, o)) (hc : cap ≤ c) (hl : len ≤ cap) (hs : w.shape? B = some (e, n)) (hr : o + off + c * sz ≤ n) :
      VR φ w (.sl b off len cap sz) (.slice (some ⟨B, o + off, none⟩) len c)
  | sl0 {b off sz : Nat} (a : Addr) : VR φ w (.sl b off 0 0 sz) (.slice (some a) 0 0)
  | nils : VR φ w .nils (.slice none 0 0)
  | map {b B o : Nat} (h : φ b = some (B, o)) : VR φ w (.map b) (.map (some B))
  | nilm : VR φ w .nilm (.map none)
  | fn {f : Nat} {l : List AV} {vs : Array Value} (h : VRs φ w l vs.toList) : VR φ w (.fn f l) (.func (.func f) #[] vs)
  | nilf : VR φ w .nilf .nilFunc
  | agg {l : List AV} {vs : Array Value} (h : VRs φ w l vs.toList) : VR φ w (.agg l) (.agg vs)
  | tup {l : List AV} {vs : Array Value} (h : VRs φ w l vs.toList) : VR φ w (.tup l) (.tuple vs)
  | rs {l : List AV} {len B off c : Nat} (hl : len ≤ c) (hB : ∀ b p, φ b = some p → p.1 ≠ B) (hlt : B < w.heap.size) (h : VRm φ w l B off) : VR φ w (.rs l len) (.slice (some ⟨B, off, none⟩) len c)
  | rs0 (a : Addr) (c : Nat) : VR φ w (.rs [] 0) (.slice (some a) 0 c)
  | rp {l : List AV} {B off : Nat} (hB : ∀ b p, φ b = some p → p.1 ≠ B) (hlt : B < w.heap.size) (h : VRm φ w l B off) : VR φ w (.rp l) (.pointer (some ⟨B, off, none⟩))
inductive VRs (φ : Env) (w : World) : List AV → List Value → Prop
  | nil : VRs φ w [] []
  | cons {x : AV} {u : Value} {l : List AV} {vs : List Value} (h : VR φ w x u) (t : VRs φ w l vs) : VRs φ w (x :: l) (u :: vs)
inductive VRm (φ : Env) (w : World) : List AV → Nat → Nat → Prop
  | nil {B off : Nat} : VRm φ w [] B off
  | cons {x : AV} {u : Value} {l : List AV} {B off : Nat} (hc : w.cell? ⟨B, off, none⟩ = some u) (h : VR φ w x u) (t : VRm φ w l B (off + 1)) : VRm φ w (x :: l) B off
end

/-- From world and places to world and places: what is not named stays. -/
structure Upd (φ : Env) (w : World) (φ' : Env) (w' : World) : Prop where
  os : w'.os = w.os
  tape : w'.tape = w.tape
  output : w'.output = w.output
  size : w.heap.size ≤ w'.heap.size
  ext : ∀ b p, φ b = some p → φ' b = some p
  new : ∀ b B o, φ' b = some (B, o) → (∃ b0 o0, φ b0 = some (B, o0)) ∨ w.heap.size ≤ B
  keep : ∀ B, B < w.heap.size → (∀ b p, φ b = some p → p.1 ≠ B) → w'.heap[B]? = w.heap[B]?
  shape : ∀ B x, w.shape? B = some x → w'.shape? B = some x

theorem Upd.refl (φ : Env) (w : World) : Upd φ w φ w :=
  ⟨rfl, rfl, rfl, Nat.le_refl _, fun _ _ h => h, fun _ _ _ h => .inl ⟨_, _, h⟩, fun _ _ _ => rfl, fun _ _ h => h⟩

theorem Upd.trans {φ φ1 φ2 : Env} {w w1 w2 : World} (h : Upd φ w φ1 w1) (k : Upd φ1 w1 φ2 w2) : Upd φ w φ2 w2 where
  os := k.os.trans h.os
  tape := k.tape.trans h.tape
  output := k.output.trans h.output
  size := Nat.le_trans h.size k.size
  ext b p hb := k.ext b p (h.ext b p hb)
  new b B o hb := by
    rcases k.new b B o hb with ⟨b0, o0, h0⟩ | h0
    · exact h.new _ _ _ h0
    · exact .inr (Nat.le_trans h.size h0)
  keep B hB hn := by
    rw [k.keep B (Nat.lt_of_lt_of_le hB h.size) (fun b p hb he => ?_), h.keep B hB hn]
    obtain ⟨B1, o1⟩ := p
    simp only at he
    subst he
    rcases h.new _ _ _ hb with ⟨b0, o0, h0⟩ | h0
    · exact hn _ _ h0 rfl
    · omega
  shape B x hx := k.shape B x (h.shape B x hx)

theorem cell_of_heap {w w' : World} {B : Nat} (h : w'.heap[B]? = w.heap[B]?) (off : Nat) : w'.cell? ⟨B, off, none⟩ = w.cell? ⟨B, off, none⟩ := by
  simp only [World.cell?, h]

section
variable {φ φ' : Env} {w w' : World}
theorem named_new (u : Upd φ w φ' w') {B : Nat} (hB : ∀ b p, φ b = some p → p.1 ≠ B) (hlt : B < w.heap.size) : ∀ b p, φ' b = some p → p.1 ≠ B := by
  intro b p hb he
  obtain ⟨B1, o1⟩ := p
  simp only at he
  subst he
  rcases u.new _ _ _ hb with ⟨b0, o0, h0⟩ | h0
  · exact hB _ _ h0 rfl
  · omega

mutual
/-- What a value stands for stays. -/
theorem VR.upd (u : Upd φ w φ' w') : ∀ {x : AV} {v : Value}, VR φ w x v → VR φ' w' x v
  | _, _, .undef => .undef
  | _, _, .bool b => .bool b
  | _, _, .int k n => .int k n
  | _, _, .str s => .str s
  | _, _, .ptr h => .ptr (u.ext _ _ h)
  | _, _, .nilp => .nilp
  | _, _, .sl h hc hl hs hr => .sl (u.ext _ _ h) hc hl (u.shape _ _ hs) hr
  | _, _, .sl0 a => .sl0 a
  | _, _, .nils => .nils
  | _, _, .map h => .map (u.ext _ _ h)
  | _, _, .nilm => .nilm
  | _, _, .fn h => .fn (h.upd u)
  | _, _, .nilf => .nilf
  | _, _, .agg h => .agg (h.upd u)
  | _, _, .tup h => .tup (h.upd u)
  | _, _, .rs hl hB hlt h => .rs hl (named_new u hB hlt) (Nat.lt_of_lt_of_le hlt u.size) (h.upd u (u.keep _ hlt hB))
  | _, _, .rs0 a c => .rs0 a c
  | _, _, .rp hB hlt h => .rp (named_new u hB hlt) (Nat.lt_of_lt_of_le hlt u.size) (h.upd u (u.keep _ hlt hB))
theorem VRs.upd (u : Upd φ w φ' w') : ∀ {l : List AV} {vs : List Value}, VRs φ w l vs → VRs φ' w' l vs
  | _, _, .nil => .nil
  | _, _, .cons h t => .cons (h.upd u) (t.upd u)
/-- memory that keeps its cells -/
theorem VRm.upd (u : Upd φ w φ' w') : ∀ {l : List AV} {B off : Nat}, VRm φ w l B off → w'.heap[B]? = w.heap[B]? → VRm φ' w' l B off
  | _, _, _, .nil, _ => .nil
  | _, _, _, .cons hc h t, hB => .cons ((cell_of_heap hB _).trans hc) (h.upd u) (t.upd u hB)
end

theorem VRs.length : ∀ {l : List AV} {vs : List Value}, VRs φ w l vs → l.length = vs.length
  | _, _, .nil => rfl
  | _, _, .cons _ t => by simp [t.length]
theorem VRs.append : ∀ {l l' : List AV} {vs vs' : List Value}, VRs φ w l vs → VRs φ w l' vs' → VRs φ w (l ++ l') (vs ++ vs')
  | _, _, _, _, .nil, h => h
  | _, _, _, _, .cons h t, h' => .cons h (t.append h')
theorem VRs.drop : ∀ (n : Nat) {l : List AV} {vs : List Value}, VRs φ w l vs → VRs φ w (l.drop n) (vs.drop n)
  | 0, _, _, h => h
  | _ + 1, _, _, .nil => .nil
  | n + 1, _, _, .cons _ t => t.drop n
theorem VRs.take : ∀ (n : Nat) {l : List AV} {vs : List Value}, VRs φ w l vs → VRs φ w (l.take n) (vs.take n)
  | 0, _, _, _ => .nil
  | _ + 1, _, _, .nil => .nil
  | n + 1, _, _, .cons h t => .cons h (t.take n)
theorem VRs.get : ∀ {l : List AV} {vs : List Value}, VRs φ w l vs → ∀ {i : Nat} {x : AV}, l[i]? = some x → ∃ u, vs[i]? = some u ∧ VR φ w x u
  | _, _, .nil, _, _, h => by simp at h
  | _, _, .cons h _, 0, _, e => by simp at e; subst e; exact ⟨_, rfl, h⟩
  | _, _, .cons _ t, i + 1, _, e => by simp at e; simpa using t.get e
theorem VRs.of_get : ∀ {l : List AV} {vs : List Value}, l.length = vs.length → (∀ (i : Nat) (x : AV) (u : Value), l[i]? = some x → vs[i]? = some u → VR φ w x u) → VRs φ w l vs
  | [], [], _, _ => .nil
  | x :: l, u :: vs, hl, h => .cons (h 0 x u rfl rfl) (VRs.of_get (by simpa using hl) fun i y v h1 h2 => h (i + 1) y v (by simpa using h1) (by simpa using h2))
  | [], _ :: _, hl, _ => by simp at hl
  | _ :: _, [], hl, _ => by simp at hl

theorem VRm.get : ∀ {l : List AV} {B off : Nat}, VRm φ w l B off → ∀ {i : Nat} {x : AV}, l[i]? = some x → ∃ u, w.cell? ⟨B, off + i, none⟩ = some u ∧ VR φ w x u
  | _, _, _, .nil, _, _, h => by simp at h
  | _, _, _, .cons hc h _, 0, _, e => by simp at e; subst e; exact ⟨_, hc, h⟩
  | _, _, off, .cons _ _ t, i + 1, _, e => by
    simp at e
    obtain ⟨u, h1, h2⟩ := t.get e
    exact ⟨u, by rw [show off + (i + 1) = off + 1 + i by omega]; exact h1, h2⟩
theorem VRm.of_get : ∀ {l : List AV} {B off : Nat}, (∀ (i : Nat) (x : AV), l[i]? = some x → ∃ u, w.cell? ⟨B, off + i, none⟩ = some u ∧ VR φ w x u) → VRm φ w l B off
  | [], _, _, _ => .nil
  | x :: l, B, off, h => by
    obtain ⟨u, h1, h2⟩ := h 0 x rfl
    exact .cons h1 h2 (VRm.of_get fun i y hy => by
      obtain ⟨v, g1, g2⟩ := h (i + 1) y (by simpa using hy)
      exact ⟨v, by rw [show off + 1 + i = off + (i + 1) by omega]; exact g1, g2⟩)
theorem VRm.drop {l : List AV} {B off : Nat} (h : VRm φ w l B off) (n : Nat) : VRm φ w (l.drop n) B (off + n) :=
  VRm.of_get fun i x hx => by
    obtain ⟨u, h1, h2⟩ := h.get (i := n + i) (x := x) (by simpa using hx)
    exact ⟨u, by rw [Nat.add_assoc]; exact h1, h2⟩
theorem VRm.take {l : List AV} {B off : Nat} (h : VRm φ w l B off) (n : Nat) : VRm φ w (l.take n) B off :=
  VRm.of_get fun i x hx => by
    have : l[i]? = some x := by
      rw [List.getElem?_take] at hx
      split at hx
      · exact hx
      · cases hx
    exact h.get this
/-- The cells as a list of values. -/
theorem VRm.vals : ∀ {l : List AV} {B off : Nat}, VRm φ w l B off → ∃ us : List Value, VRs φ w l us ∧ ∀ j u, us[j]? = some u → w.cell? ⟨B, off + j, none⟩ = some u
  | _, _, _, .nil => ⟨[], .nil, fun j u h => by simp at h⟩
  | _, _, off, .cons (u := u) hc h t => by
    obtain ⟨us, h1, h2⟩ := t.vals
    refine ⟨u :: us, .cons h h1, fun j v hj => ?_⟩
    cases j with
    | zero => simp at hj; subst hj; exact hc
    | succ j => rw [show off + (j + 1) = off + 1 + j by omega]; exact h2 j v (by simpa using hj)
end

/-- the frozen stretch of a row -/
def frz? (w : World) (B : Nat) : Option (Nat × Nat) := match w.heap[B]? with
  | some (.cells _ _ fr) => some fr
  | _ => none
/-- nothing of a row is frozen, but behind its end -/
def Thawed (w : World) (B n : Nat) : Prop := (∀ i, i < n → w.frozen? ⟨B, i, none⟩ = false) ∧ ∀ fr, frz? w B = some fr → fr.1 ≤ fr.2
theorem Thawed.keep {w w' : World} {B n : Nat} (h : Thawed w B n) (e : w'.heap[B]? = w.heap[B]?) : Thawed w' B n := by
  refine ⟨fun i hi => ?_, fun fr hf => h.2 fr ?_⟩
  · rw [← h.1 i hi]; simp only [World.frozen?, e]
  · rw [← hf]; simp only [frz?, e]

/-- What a block stands for. -/
def BR (φ : Env) (w : World) (b : Nat) : Option Blk → Prop
  | none => φ b = none
  | some .dead => True
  | some (.cells l _ _) => ∃ B o e n, φ b = some (B, o) ∧ w.shape? B = some (e, n) ∧ VRm φ w l B o ∧ Thawed w B n ∧ o + l.length ≤ n
  | some (.map es _) => ∃ B o vs clock, φ b = some (B, o) ∧ w.heap[B]? = some (.map vs clock) ∧ VRs φ w (es.map (·.1)) (vs.toList.map (·.key)) ∧ VRs φ w (es.map (·.2)) (vs.toList.map (·.val))

def live : Option Blk → Bool
  | some (.cells ..) | some (.map ..) => true
  | _ => false

/-- What memory stands for. -/
structure HR (φ : Env) (w : World) (H : Heap) : Prop where
  blk : ∀ b, BR φ w b (H.get b)
  lt : ∀ b p, φ b = some p → p.1 < w.heap.size
  inj : ∀ b b' p p', live (H.get b) = true → live (H.get b') = true → φ b = some p → φ b' = some p' → p.1 = p'.1 → b = b'
  next : ∀ b, H.next ≤ b → H.get b = none

/-! ### the trees -/
namespace T
variable {α : Type}
theorem beq_dec (a b : Nat) : a.beq b = decide (a = b) := by
  rw [Bool.eq_iff_iff]; simp
theorem get_n (l r : T α) (x : Option α) (i : Nat) : (T.n l x r).get i = if i = 0 then x else if i % 2 = 1 then l.get (i / 2) else r.get (i / 2 - 1) := by
  rw [get, beq_dec, beq_dec]
  by_cases h : i = 0
  · simp [h]
  · by_cases h2 : i % 2 = 1 <;> simp [h, h2]
theorem setF_e (v : α) (f i : Nat) : setF v (f + 1) i .e = if i = 0 then .n .e (some v) .e else if i % 2 = 1 then .n (setF v f (i / 2) .e) none .e else .n .e none (setF v f (i / 2 - 1) .e) := by
  rw [setF, beq_dec, beq_dec]
  by_cases h : i = 0
  · simp [h]
  · by_cases h2 : i % 2 = 1 <;> simp [h, h2]
theorem setF_n (v : α) (f i : Nat) (l r : T α) (x : Option α) : setF v (f + 1) i (.n l x r) = if i = 0 then .n l (some v) r else if i % 2 = 1 then .n (setF v f (i / 2) l) x r else .n l x (setF v f (i / 2 - 1) r) := by
  rw [setF, beq_dec, beq_dec]
  by_cases h : i = 0
  · simp [h]
  · by_cases h2 : i % 2 = 1 <;> simp [h, h2]
theorem get_e (i : Nat) : (T.e : T α).get i = none := rfl
theorem get_setF (v : α) : ∀ (f i : Nat) (t : T α), i < f → ∀ j, (setF v f i t).get j = if j = i then some v else t.get j
  | 0, i, _, h, _ => by omega
  | f + 1, i, t, h, j => by
    have ih1 := fun (t : T α) (hi : i / 2 < f) => get_setF v f (i / 2) t hi
    have ih2 := fun (t : T α) (hi : i / 2 - 1 < f) => get_setF v f (i / 2 - 1) t hi
    cases t with
    | e =>
      rw [setF_e, get_e]
      by_cases h0 : i = 0
      · rw [if_pos h0, get_n, get_e, get_e]
        by_cases j0 : j = 0
        · rw [if_pos j0, if_pos (by omega)]
        · rw [if_neg j0, if_neg (show ¬ j = i by omega)]; simp
      · rw [if_neg h0]
        by_cases h1 : i % 2 = 1
        · rw [if_pos h1, get_n, get_e]
          by_cases j0 : j = 0
          · rw [if_pos j0, if_neg (by omega)]
          · rw [if_neg j0]
            by_cases j1 : j % 2 = 1
            · rw [if_pos j1, ih1 .e (by omega), get_e]
              by_cases e : j = i
              · rw [if_pos (by omega), if_pos e]
              · rw [if_neg (by omega), if_neg e]
            · rw [if_neg j1, if_neg (by omega)]
        · rw [if_neg h1, get_n, get_e]
          by_cases j0 : j = 0
          · rw [if_pos j0, if_neg (by omega)]
          · rw [if_neg j0]
            by_cases j1 : j % 2 = 1
            · rw [if_pos j1, if_neg (by omega)]
            · rw [if_neg j1, ih2 .e (by omega), get_e]
              by_cases e : j = i
              · rw [if_pos (by omega), if_pos e]
              · rw [if_neg (by omega), if_neg e]
    | n l x r =>
      rw [setF_n, get_n]
      by_cases h0 : i = 0
      · rw [if_pos h0, get_n]
        by_cases j0 : j = 0
        · rw [if_pos j0, if_pos (by omega)]
        · rw [if_neg j0, if_neg (show ¬ j = i by omega), if_neg j0]
      · rw [if_neg h0]
        by_cases h1 : i % 2 = 1
        · rw [if_pos h1, get_n]
          by_cases j0 : j = 0
          · rw [if_pos j0, if_neg (by omega), if_pos j0]
          · rw [if_neg j0, if_neg j0]
            by_cases j1 : j % 2 = 1
            · rw [if_pos j1, if_pos j1, ih1 l (by omega)]
              by_cases e : j = i
              · rw [if_pos (by omega), if_pos e]
              · rw [if_neg (by omega), if_neg e]
            · rw [if_neg j1, if_neg j1, if_neg (by omega)]
        · rw [if_neg h1, get_n]
          by_cases j0 : j = 0
          · rw [if_pos j0, if_neg (by omega), if_pos j0]
          · rw [if_neg j0, if_neg j0]
            by_cases j1 : j % 2 = 1
            · rw [if_pos j1, if_pos j1, if_neg (by omega)]
            · rw [if_neg j1, if_neg j1, ih2 r (by omega)]
              by_cases e : j = i
              · rw [if_pos (by omega), if_pos e]
              · rw [if_neg (by omega), if_neg e]
theorem get_set (t : T α) (i : Nat) (v : α) (j : Nat) : (t.set i v).get j = if j = i then some v else t.get j := get_setF v (i + 1) i t (by omega) j
end T

end Go.Proofs.Ytinonmcnofjeeaa.VM
