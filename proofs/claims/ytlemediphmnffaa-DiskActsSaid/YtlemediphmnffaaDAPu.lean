/- A law's contract out of what the small machine's call comes to. -/
import Derived.Test.YtlemediphmnffaaLawRow
import Derived.Test.YtlemediphmnffaaDAd
namespace Go.Proofs.Ytlemediphmnffaa.VM
set_option linter.unusedSimpArgs false
set_option linter.unusedVariables false
set_option linter.defProp false
set_option maxHeartbeats 1000000
open Go.RowKit
theorem Pu.calls {P : Program} {f : Nat} {args : List AV} (p : Pu P f args fun v => v = .bool true) {W : World} {us : Array Value} (hus : VRs none0 W args us.toList) :
    Calls P f us W (fun e W' => e = .returned (.bool true) ∧ Below W.heap.size W W') := by
  obtain ⟨v, v', h0, o, hf, rfl⟩ := p
  cases hf
  refine Calls.mono ((o.old (.inl fun r e => by cases e)).2.2 none0 W us (hr_empty W) hus) ?_
  rintro e W' ⟨φ', u, rfl, hv, _, hu⟩
  cases hv
  exact ⟨rfl, hu.toUpd.below⟩
theorem name_ne {a b : String} (h : (a == b) = false) : a ≠ b := by
  intro e; rw [e] at h; simp at h
theorem open_one {P : Program} {W : World} {r : Reach} {b0 : Nat} {t e : TypeId} {v : Value} {a : AV} (ht : P.underlying t = some (.slice e)) (hval : Value.okWide P W r b0 t v) (h : VRs none0 W [a] v.cells.toList) : VR none0 W a v := by
  cases v with
  | agg cs => simp [Value.okWide, Cell.okWide, Cell.ok, ht] at hval
  | _ => cases h with | cons x t => exact x
end Go.Proofs.Ytlemediphmnffaa.VM
