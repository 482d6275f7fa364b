/- The small machine's word for a law's function: it returns true and leaves all that was there. -/
import Derived.Test.YtinonmcnofjeeaaVM19n
import Derived.Below
namespace Go.Proofs.Ytinonmcnofjeeaa.VM
set_option linter.unusedSimpArgs false
set_option linter.unusedVariables false
set_option linter.defProp false
set_option maxHeartbeats 1000000
open Go.RowKit

/-- no name yet -/
def none0 : Env := fun _ => none
theorem hr_empty (w : World) : HR none0 w ⟨0, .e⟩ :=
  ⟨fun _ => rfl, fun _ _ h => (by cases h), fun _ _ _ _ h => (by cases h), fun _ _ => rfl⟩
theorem Upd.below {w w' : World} {φ' : Env} (u : Upd none0 w φ' w') : Below w.heap.size w w' :=
  ⟨u.os, u.tape, u.output, u.size, fun k hk => u.keep k hk fun _ _ h => (by cases h)⟩

theorem calls_vm {P : Program} (hm : P.follows .mixedOrders = true) {F : Nat → Option VFun} {X : Told} (hF : TableOk P F) (hX : CallOk P X) {n f : Nat} {args : List AV} {v : AV} {h' : Heap} (hv : vcall F X n f args ⟨0, .e⟩ = some (v, h'))
    {W : World} {us : Array Value} (hus : VRs none0 W args us.toList) : Calls P f us W (fun e W' => ∃ φ' u, e = .returned u ∧ VR φ' W' v u ∧ HR φ' W' h' ∧ Below W.heap.size W W') :=
  (((vm_ok (drawn_ok hm) hF hX n).2.2 f args ⟨0, .e⟩ v h' hv).2 none0 W us (hr_empty W) hus).mono fun _ _ ⟨φ', u, h1, h2, h3, h4⟩ => ⟨φ', u, h1, h2, h3, h4.toUpd.below⟩

theorem calls_true {P : Program} (hm : P.follows .mixedOrders = true) {F : Nat → Option VFun} {X : Told} (hF : TableOk P F) (hX : CallOk P X) {n f : Nat} {args : List AV} {h' : Heap} (hv : vcall F X n f args ⟨0, .e⟩ = some (.bool true, h'))
    {W : World} {us : Array Value} (hus : VRs none0 W args us.toList) : Calls P f us W (fun e W' => e = .returned (.bool true) ∧ Below W.heap.size W W') :=
  (calls_vm hm hF hX hv hus).mono fun _ _ ⟨_, _, h1, h2, _, h4⟩ => by
    cases h2
    exact ⟨h1, h4⟩

/-- a table out of a list of functions with their places -/
def tableOf : List (Nat × VFun) → Nat → Option VFun
  | [], _ => none
  | p :: l, f => bif Nat.beq p.1 f then some p.2 else tableOf l f
theorem table_ok {P : Program} : ∀ {l : List (Nat × VFun)}, (∀ p ∈ l, ∃ fn, P.funcs[p.1]? = some fn ∧ cFun P fn = some p.2 ∧ fn.name ≠ "runtime.NumGoroutine") → TableOk P (tableOf l)
  | [], _ => fun f vf h => by cases h
  | p :: l, h => fun f vf hf => by
    simp only [tableOf, T.beq_dec] at hf
    by_cases e : p.1 = f
    · subst e
      rw [decide_eq_true rfl, cond_true] at hf
      cases hf
      exact h p (.head _)
    · rw [decide_eq_false e, cond_false] at hf
      exact table_ok (fun q hq => h q (.tail _ hq)) f vf hf

end Go.Proofs.Ytinonmcnofjeeaa.VM
