/- Mixed regions: all that may become memory does. -/
import Derived.Test.YtinonmcnofjeeaaVM18e
namespace Go.Proofs.Ytinonmcnofjeeaa.VM
set_option linter.unusedSimpArgs false
set_option linter.unusedVariables false
set_option linter.defProp false
set_option maxHeartbeats 1000000
open Go.RowKit
section
variable {l : List VO} {call : Nat → List AV → Heap → Option (AV × Heap)} {base : Nat} {tr : Nat → St} {listed : Array Bool} {w0 : World} {φ : Env} {w : World}
theorem GoesM.calm (g : GoesM call base l tr) {i k : Nat} (hik : i ≤ k) (hk : k ≤ l.length) (ha : ∀ j o, l[j]? = some o → i ≤ j → j < k → o.acts = false) : (tr k).h = (tr i).h := g.heap hik hk ha
theorem absorb_all (g : GoesM call base l tr) {φ0 : Env} {H0 : Heap} (h0 : ∀ (j : Nat) (o : VO), l[j]? = some o → o.op.fresh = true → H0.get (base + j) = none) : ∀ (n K : Nat), l.length - K = n →
    (∀ (j : Nat) (o : VO), l[j]? = some o → o.acts = true → j < K → listed.getD j false = true) →
    (∀ (j : Nat) (o : VO), l[j]? = some o → o.acts = true → K ≤ j → listed.getD j false = true → o.op.fresh = true) →
    (K = 0 ∨ ∃ o, l[K - 1]? = some o ∧ o.acts = true) → K ≤ l.length → Waits l base tr listed K w0 φ w → HR φ w (tr K).h → UpdH φ0 w0 H0 φ w (tr K).h →
    ∃ K', Stands l listed K' ∧ Waits l base tr listed K' w0 φ w ∧ HR φ w (tr K').h ∧ UpdH φ0 w0 H0 φ w (tr K').h := by
  intro n
  induction n using Nat.strongRecOn with
  | _ n ih =>
    intro K hn hpre hpost hbound hle hw hr hu
    by_cases hex : ∃ j o, l[j]? = some o ∧ o.acts = true ∧ K ≤ j
    · -- the first act
      obtain ⟨j, o, hj, ha, hK, hmin⟩ : ∃ j o, l[j]? = some o ∧ o.acts = true ∧ K ≤ j ∧ ∀ (i : Nat) (x : VO), l[i]? = some x → x.acts = true → K ≤ i → j ≤ i := by
        obtain ⟨j, o, hj, ha, hK⟩ := hex
        induction j using Nat.strongRecOn generalizing o with
        | _ j ihj =>
          by_cases hm : ∃ i x, l[i]? = some x ∧ x.acts = true ∧ K ≤ i ∧ i < j
          · obtain ⟨i, x, h1, h2, h3, h4⟩ := hm
            exact ihj i h4 x h1 h2 h3
          · exact ⟨j, o, hj, ha, hK, fun i x h1 h2 h3 => by
              rcases Nat.lt_or_ge i j with h | h
              · exact absurd ⟨i, x, h1, h2, h3, h⟩ hm
              · exact h⟩
      have hjl : j < l.length := (List.getElem?_eq_some_iff.1 hj).1
      cases hl : listed.getD j false with
      | false =>
        refine ⟨K, ⟨hpre, hpost, fun i x hi hx hki hm => ?_, hbound, hle⟩, hw, hr, hu⟩
        have h1 := hm j o hj ha hK
        have h2 := hmin i x hi hx hki
        have : i = j := by omega
        rw [this]; exact hl
      | true =>
        have hf := hpost j o hj ha hK hl
        have hh : (tr j).h = (tr K).h := g.calm hK (by omega) fun i x hi h1 h2 => by
          cases hx : x.acts with
          | false => rfl
          | true => have := hmin i x hi hx h1; omega
        refine ih (l.length - (j + 1)) (by omega) (j + 1) rfl (fun i x hi hx hlt => ?_) (fun i x hi hx hge hli => hpost i x hi hx (by omega) hli) (.inr ⟨o, by simpa using hj, ha⟩) hjl (absorb_waits hw g hj hf hK hl hh) (absorb_hr hw hr g hj hf hK hl hh) (absorb_upd hw hu g hj hf hK hl hh (h0 j o hj hf))
        rcases Nat.lt_or_ge i K with h | h
        · exact hpre i x hi hx h
        · have := hmin i x hi hx h
          have : i = j := by omega
          rw [this]; exact hl
    · exact ⟨K, ⟨hpre, hpost, fun i x hi hx hki _ => absurd ⟨i, x, hi, hx, hki⟩ hex, hbound, hle⟩, hw, hr, hu⟩
end
end Go.Proofs.Ytinonmcnofjeeaa.VM
