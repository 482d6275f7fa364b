/- Mixed regions: names ahead, new blocks out of slots alone, traces. -/
import Derived.Test.YtinonmcnofjeeaaVM18
namespace Go.Proofs.Ytinonmcnofjeeaa.VM
set_option linter.unusedSimpArgs false
set_option linter.unusedVariables false
set_option linter.defProp false
set_option maxHeartbeats 1000000
open Go.RowKit

namespace T
variable {α : Type}
def del : T α → Nat → T α
  | .e, _ => .e
  | .n l x r, i => if i = 0 then .n l none r else if i % 2 = 1 then .n (l.del (i / 2)) x r else .n l x (r.del (i / 2 - 1))
theorem get_del : ∀ (t : T α) (i j : Nat), (t.del i).get j = if j = i then none else t.get j
  | .e, i, j => by simp [del, get_e]
  | .n l x r, i, j => by
    rw [del]
    by_cases h0 : i = 0
    · rw [if_pos h0, get_n, get_n]
      by_cases j0 : j = 0
      · rw [if_pos j0, if_pos (show j = i by omega)]
      · have ji : ¬ j = i := by omega
        simp only [if_neg j0, if_neg ji]
    · rw [if_neg h0]
      by_cases h1 : i % 2 = 1
      · rw [if_pos h1, get_n, get_n]
        by_cases j0 : j = 0
        · rw [if_pos j0, if_neg (by omega), if_pos j0]
        · rw [if_neg j0, if_neg j0]
          by_cases j1 : j % 2 = 1
          · rw [if_pos j1, if_pos j1, get_del l]
            by_cases e : j = i
            · rw [if_pos (by omega), if_pos e]
            · rw [if_neg (by omega), if_neg e]
          · rw [if_neg j1, if_neg j1, if_neg (by omega)]
      · rw [if_neg h1, get_n, get_n]
        by_cases j0 : j = 0
        · rw [if_pos j0, if_neg (by omega), if_pos j0]
        · rw [if_neg j0, if_neg j0]
          by_cases j1 : j % 2 = 1
          · rw [if_pos j1, if_pos j1, if_neg (by omega)]
          · rw [if_neg j1, if_neg j1, get_del r]
            by_cases e : j = i
            · rw [if_pos (by omega), if_pos e]
            · rw [if_neg (by omega), if_neg e]
end T
/-- memory with a name taken out -/
def Heap.del (h : Heap) (b : Nat) : Heap := ⟨h.next, h.t.del b⟩
theorem Heap.get_del (h : Heap) (b c : Nat) : (h.del b).get c = if c = b then none else h.get c := T.get_del _ _ _

section
variable {φ : Env} {w : World} {H H' : Heap}
/-- what memory stands for is told by its looks -/
theorem HR.ext (hr : HR φ w H) (e : ∀ b, H'.get b = H.get b) (hn : ∀ b, H'.next ≤ b → H'.get b = none) : HR φ w H' :=
  ⟨fun b => by rw [e]; exact hr.blk b, hr.lt, fun b b' p p' h1 h2 => by rw [e] at h1 h2; exact hr.inj b b' p p' h1 h2, hn⟩
theorem HR.del (hr : HR φ w H) {b : Nat} (hb : φ b = none) : HR φ w (H.del b) := by
  refine ⟨fun c => ?_, hr.lt, fun c c' p p' h1 h2 => ?_, fun c hc => ?_⟩
  · rw [Heap.get_del]
    by_cases e : c = b
    · rw [if_pos e, e]; exact hb
    · rw [if_neg e]; exact hr.blk c
  · rw [Heap.get_del] at h1 h2
    have L : ∀ {d : Nat}, live (if d = b then none else H.get d) = true → live (H.get d) = true := by
      intro d hd
      by_cases ed : d = b
      · rw [if_pos ed] at hd; cases hd
      · rw [if_neg ed] at hd; exact hd
    exact hr.inj c c' p p' (L h1) (L h2)
  · rw [Heap.get_del]
    by_cases e : c = b
    · rw [if_pos e]
    · rw [if_neg e]; exact hr.next c hc
theorem UpdH.exact {φ0 : Env} {w0 : World} {H0 : Heap} (u : UpdH φ0 w0 H0 φ w H) (e : ∀ b, H'.get b = H.get b) : UpdH φ0 w0 H0 φ w H' :=
  { toUpd := u.toUpd, keepL := u.keepL, deadL := fun b h1 h2 => by rw [e]; exact u.deadL b h1 h2, newL := fun b B o h1 h2 => by rw [e] at h1; exact u.newL b B o h1 h2, stay := fun b h => by rw [e]; exact u.stay b h }
/-- fewer living names -/
theorem UpdH.fewer {φ0 : Env} {w0 : World} {H0 : Heap} (u : UpdH φ0 w0 H0 φ w H) (e : ∀ b, live (H'.get b) = true → live (H.get b) = true) (k : ∀ b, H0.get b ≠ none → H'.get b ≠ none) : UpdH φ0 w0 H0 φ w H' :=
  { toUpd := u.toUpd, keepL := u.keepL
    deadL := fun b h1 h2 => by
      obtain ⟨a1, a2, a3⟩ := u.deadL b h1 h2
      refine ⟨k b h1, ?_, a3⟩
      cases h : live (H'.get b) with
      | false => rfl
      | true => have := e b h; rw [a2] at this; cases this
    newL := fun b B o h1 h2 => u.newL b B o (e b h1) h2, stay := k }

/-- A new block out of slots alone: its value and block are the same whatever memory. -/
theorem vop_fresh {op : VOp} (hf : op.fresh = true) {s : T AV} {h h1 : Heap} {nm : Nat} {v : AV} (e : vop ⟨s, h⟩ nm op = .val v h1) :
    ∃ x, h1 = h.mk' nm x ∧ live (some x) = true ∧ ∀ h', vop ⟨s, h'⟩ nm op = .val v (h'.mk' nm x) := by
  have ev : ∀ (x : Opd) (h' : Heap), Opd.eval ⟨s, h⟩ x = Opd.eval ⟨s, h'⟩ x := by
    intro x h'; cases x <;> rfl
  cases op <;> simp only [VOp.fresh] at hf <;> try (cases hf; done)
  case alloc z t => cases e; exact ⟨_, rfl, rfl, fun _ => rfl⟩
  case mkmap => cases e; exact ⟨_, rfl, rfl, fun _ => rfl⟩
  case box t x =>
    simp only [vop] at e
    split at e
    · rename_i c hc
      cases e
      exact ⟨_, rfl, rfl, fun h' => by simp only [vop, ← ev x h', hc]⟩
    · cases e
  case bslice z t n ps =>
    simp only [vop] at e
    split at e
    · rename_i c hc
      cases e
      refine ⟨_, rfl, rfl, fun h' => ?_⟩
      have ep : (ps.map fun (o, n, x) => (o, n, Opd.eval ⟨s, h'⟩ x)) = (ps.map fun (o, n, x) => (o, n, Opd.eval ⟨s, h⟩ x)) := List.map_congr_left fun p _ => by
        show (p.1, p.2.1, Opd.eval ⟨s, h'⟩ p.2.2) = (p.1, p.2.1, Opd.eval ⟨s, h⟩ p.2.2)
        rw [ev _ h']
      simp only [vop]
      rw [ep, hc]
    · cases e
  case mkslice z t b l c =>
    simp only [vop] at e
    split at e
    · rename_i n m h1' h2'
      split at e
      · rename_i hc
        cases e
        exact ⟨_, rfl, rfl, fun h' => by simp only [vop, ← ev l h', ← ev c h', h1', h2']; rw [if_pos hc]⟩
      · cases e
    · cases e
end

section
variable {call : Nat → List AV → Heap → Option (AV × Heap)} {base : Nat}
theorem mtrace_spec : ∀ {l : List VO} {k : Nat} {st : St} {tr : List St}, mtrace call base l k st = some tr → tr.length = l.length + 1 ∧ tr[0]? = some st ∧
    ∀ i o, l[i]? = some o → ∃ a b, tr[i]? = some a ∧ tr[i + 1]? = some b ∧ vdo call a (nameAt base (k + i) o a.h) o = some b
  | [], k, st, tr, h => by
    cases h
    exact ⟨rfl, rfl, fun i o h => by simp at h⟩
  | x :: l, k, st, tr, h => by
    simp only [mtrace] at h
    split at h
    · rename_i st1 h1
      obtain ⟨tr', h2, rfl⟩ := Option.map_eq_some_iff.1 h
      obtain ⟨a1, a2, a3⟩ := mtrace_spec h2
      refine ⟨by simp [a1], rfl, fun i o ho => ?_⟩
      cases i with
      | zero =>
        simp at ho
        subst ho
        exact ⟨st, st1, rfl, by simpa using a2, h1⟩
      | succ i =>
        obtain ⟨a, b, b1, b2, b3⟩ := a3 i o (by simpa using ho)
        exact ⟨a, b, by simpa using b1, by simpa using b2, by rw [show k + (i + 1) = k + 1 + i by omega]; exact b3⟩
    · cases h
open Classical in
/-- the names that are kept ahead -/
theorem reserve_get : ∀ (l : List VO) (k : Nat) (h : Heap) (b : Nat), (reserve base l k h).get b = if ∃ i o, l[i]? = some o ∧ o.op.fresh = true ∧ b = base + (k + i) then some .dead else h.get b
  | [], k, h, b => by simp [reserve]
  | x :: l, k, h, b => by
    rw [reserve, reserve_get l (k + 1)]
    have key : (∃ i o, (x :: l)[i]? = some o ∧ o.op.fresh = true ∧ b = base + (k + i)) ↔ ((x.op.fresh = true ∧ b = base + k) ∨ ∃ i o, l[i]? = some o ∧ o.op.fresh = true ∧ b = base + (k + 1 + i)) := by
      constructor
      · rintro ⟨i, o, h1, h2, h3⟩
        cases i with
        | zero => simp at h1; subst h1; exact .inl ⟨h2, by simpa using h3⟩
        | succ i => exact .inr ⟨i, o, by simpa using h1, h2, by omega⟩
      · rintro (⟨h1, h2⟩ | ⟨i, o, h1, h2, h3⟩)
        · exact ⟨0, x, rfl, h1, by simpa using h2⟩
        · exact ⟨i + 1, o, by simpa using h1, h2, by omega⟩
    by_cases h1 : ∃ i o, l[i]? = some o ∧ o.op.fresh = true ∧ b = base + (k + 1 + i)
    · rw [if_pos h1, if_pos (key.2 (.inr h1))]
    · rw [if_neg h1]
      cases hx : x.op.fresh with
      | false => rw [cond_false, if_neg (fun e => by rcases key.1 e with ⟨a, _⟩ | a; (rw [hx] at a; cases a); exact h1 a)]
      | true =>
        rw [cond_true, Heap.get_mk]
        by_cases hb : b = base + k
        · rw [if_pos hb, if_pos (key.2 (.inl ⟨hx, hb⟩))]
        · rw [if_neg hb, if_neg (fun e => by rcases key.1 e with ⟨_, a⟩ | a; exact hb a; exact h1 a)]
end
end Go.Proofs.Ytinonmcnofjeeaa.VM
