/- Mixed regions: a new block's place, whatever memory. -/
import Derived.Test.YtinonmcnofjeeaaVM18g
namespace Go.Proofs.Ytinonmcnofjeeaa.VM
set_option linter.unusedSimpArgs false
set_option linter.unusedVariables false
set_option linter.defProp false
set_option maxHeartbeats 1000000
open Go.RowKit
section
variable {call : Nat → List AV → Heap → Option (AV × Heap)}
theorem fresh_enter {op : VOp} (hf : op.fresh = true) {st : St} {nm f : Nat} {args : List AV} : vop st nm op ≠ .enter f args := by
  intro hv
  cases op <;> simp only [VOp.fresh] at hf <;> try (cases hf; done)
  all_goals
    simp only [vop] at hv
    first
      | (cases hv; done)
      | ((repeat' (split at hv)) <;> cases hv)
theorem vdo_fresh {s : T AV} {H : Heap} {nm : Nat} {o : VO} {st' : St} (hf : o.op.fresh = true) (h : vdo call ⟨s, H⟩ nm o = some st') :
    (st' = St.put ⟨s, H⟩ o.dst .undef ∧ ∀ H', vdo call ⟨s, H'⟩ nm o = some (St.put ⟨s, H'⟩ o.dst .undef)) ∨
    (∃ v x, live (some x) = true ∧ st' = St.put ⟨s, H.mk' nm x⟩ o.dst v ∧ ∀ H', vdo call ⟨s, H'⟩ nm o = some (St.put ⟨s, H'.mk' nm x⟩ o.dst v)) := by
  have hw' : ∀ H', wanted ⟨s, H'⟩ o.guard = wanted ⟨s, H⟩ o.guard := fun H' => wanted_congr fun t _ => rfl
  unfold vdo at h ⊢
  cases hw : wanted ⟨s, H⟩ o.guard with
  | false =>
    rw [hw] at h
    left
    refine ⟨?_, fun H' => by rw [hw', hw]; rfl⟩
    have : St.put ⟨s, H⟩ o.dst .undef = st' := by simpa using h
    exact this.symm
  | true =>
    rw [hw, cond_true] at h
    right
    cases hv : vop ⟨s, H⟩ nm o.op with
    | fail => rw [hv] at h; cases h
    | enter f args => exact absurd hv (fresh_enter hf)
    | val v h1 =>
      rw [hv] at h
      obtain ⟨x, rfl, hx, hall⟩ := vop_fresh hf hv
      have : St.put ⟨s, H.mk' nm x⟩ o.dst v = st' := by simpa using h
      exact ⟨v, x, hx, this.symm, fun H' => by rw [hw', hw, cond_true, hall H']⟩
end
end Go.Proofs.Ytinonmcnofjeeaa.VM
