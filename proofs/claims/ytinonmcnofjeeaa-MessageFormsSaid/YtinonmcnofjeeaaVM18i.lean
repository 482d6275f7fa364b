/- Mixed regions: a new block comes to wait. -/
import Derived.Test.YtinonmcnofjeeaaVM18h
namespace Go.Proofs.Ytinonmcnofjeeaa.VM
set_option linter.unusedSimpArgs false
set_option linter.unusedVariables false
set_option linter.defProp false
set_option maxHeartbeats 1000000
open Go.RowKit
section
variable {φ φ' : Env} {w w' : World} {H : Heap} {nm : Nat}
/-- back to the name kept ahead -/
theorem wait_hr {x : Blk} (hd : H.get nm = some .dead) (hn : ∀ b, H.next ≤ b → H.get b = none) (hr : HR φ' w' ((H.del nm).mk' nm x)) : HR φ' w' H := by
  have hk := kill_ok (b := nm) hr ⟨x, by rw [Heap.get_mk, if_pos rfl]⟩
  refine hk.ext (fun b => ?_) hn
  rw [Heap.get_put]
  by_cases e : b = nm
  · rw [if_pos e, e]; exact hd
  · rw [if_neg e, Heap.get_mk, if_neg e, Heap.get_del, if_neg e]
theorem wait_hr0 (hd : H.get nm = some .dead) (hn : ∀ b, H.next ≤ b → H.get b = none) (hr : HR φ' w' (H.del nm)) : HR φ' w' H := by
  refine ⟨fun b => ?_, hr.lt, fun b b' p p' h1 h2 => ?_, hn⟩
  · by_cases e : b = nm
    · rw [e, hd]; trivial
    · have := hr.blk b
      rw [Heap.get_del, if_neg e] at this
      exact this
  · have L : ∀ {d : Nat}, live (H.get d) = true → live ((H.del nm).get d) = true := by
      intro d h
      rw [Heap.get_del]
      by_cases e : d = nm
      · rw [e, hd] at h; cases h
      · rw [if_neg e]; exact h
    exact hr.inj b b' p p' (L h1) (L h2)
/-- its own block is new -/
theorem wait_new {x : Blk} (hx : live (some x) = true) (hr : HR φ' w' ((H.del nm).mk' nm x)) (u : UpdH φ w (H.del nm) φ' w' ((H.del nm).mk' nm x)) {p : Nat × Nat} (hp : φ' nm = some p) : w.heap.size ≤ p.1 := by
  rcases u.newL nm p.1 p.2 (by rw [Heap.get_mk, if_pos rfl]; exact hx) hp with ⟨b0, o0, h1, h2⟩ | h
  · exfalso
    have hne : b0 ≠ nm := fun e => by rw [e, Heap.get_del, if_pos rfl] at h1; cases h1
    have := hr.inj b0 nm (p.1, o0) p (by rw [Heap.get_mk, if_neg hne]; exact h1) (by rw [Heap.get_mk, if_pos rfl]; exact hx) (u.ext _ _ h2) hp rfl
    exact hne this
  · exact h
end
end Go.Proofs.Ytinonmcnofjeeaa.VM
