/- Mixed regions: what waits behind a new block. -/
import Derived.Test.YtinonmcnofjeeaaVM18i
namespace Go.Proofs.Ytinonmcnofjeeaa.VM
set_option linter.unusedSimpArgs false
set_option linter.unusedVariables false
set_option linter.defProp false
set_option maxHeartbeats 1000000
open Go.RowKit
section
variable {ops : Array Oper} {l : List VO} {base : Nat} {tr : Nat → St} {listed : Array Bool} {K : Nat} {w0 : World} {φ φ' : Env} {w w' : World}
theorem Waits.fresh (hw : Waits l base tr listed K w0 φ w) (hr : HR φ w (tr K).h) {i : Nat} {o : VO} (ho : l[i]? = some o) (hf : o.op.fresh = true) (hi : i < listed.size) (hK : K ≤ i) (hpre : ∀ (j : Nat) (x : VO), l[j]? = some x → x.op.fresh = true → j < K → listed.getD j false = true) {H1 : Heap} (u : UpdH φ w ((tr K).h.del (base + i)) φ' w' H1)
    (h0 : w0.heap.size ≤ w.heap.size) (hb : (tr (i + 1)).h = (tr i).h ∨ BR φ' w' (base + i) ((tr (i + 1)).h.get (base + i))) (hn : ∀ p, φ' (base + i) = some p → w.heap.size ≤ p.1) : Waits l base tr (listed.setIfInBounds i true) K w0 φ' w' := by
  have same : ∀ (j : Nat) (x : VO), l[j]? = some x → x.op.fresh = true → K ≤ j → j ≠ i → φ' (base + j) = φ (base + j) := fun j x hj hx hk hne => by
    have hd := hw.dead j x hj hx hk
    refine (u.deadL (base + j) ?_ ?_).2.2
    · rw [Heap.get_del, if_neg (by omega), hd]; simp
    · rw [Heap.get_del, if_neg (by omega), hd]; rfl
  have liveL : ∀ {b : Nat}, live (((tr K).h.del (base + i)).get b) = true → live ((tr K).h.get b) = true := by
    intro b h
    rw [Heap.get_del] at h
    by_cases e : b = base + i
    · rw [if_pos e] at h; cases h
    · rw [if_neg e] at h; exact h
  refine ⟨hw.dead, fun j x hj hx hk hl => ?_, fun j x hj hx hk hl p hp => ?_, fun j x hj hx hl => ?_⟩
  · by_cases e : j = i
    · rw [e]; exact hb
    · rw [set_getD _ hi, if_neg e] at hl
      refine (hw.wait j x hj hx hk hl).imp id fun hbr => hbr.keep u.toUpd (same j x hj hx hk e) fun p hp => ?_
      obtain ⟨_, h2, _⟩ := hw.own j x hj hx hk hl p hp
      exact u.keepL _ (hr.lt _ _ hp) fun b q hb hq => h2 b q (liveL hb) hq
  · -- whose block it is
    have old : ∀ b q, live ((tr K).h.get b) = true → φ' b = some q → φ b = some q := by
      intro b q hb' hq
      obtain ⟨q0, hq0⟩ := live_named hr hb'
      rw [u.ext _ _ hq0] at hq
      rw [hq0, hq]
    by_cases e : j = i
    · subst e
      refine ⟨Nat.le_trans h0 (hn p hp), fun b q hb' hq he => ?_, fun i' x' q hi' hx' hk' hl' hne hq he => ?_⟩
      · have := hr.lt _ _ (old b q hb' hq)
        have := hn p hp
        omega
      · rw [same i' x' hi' hx' hk' hne] at hq
        have := hr.lt _ _ hq
        have := hn p hp
        omega
    · rw [set_getD _ hi, if_neg e] at hl
      rw [same j x hj hx hk e] at hp
      obtain ⟨h1, h2, h3⟩ := hw.own j x hj hx hk hl p hp
      refine ⟨h1, fun b q hb' hq => h2 b q hb' (old b q hb' hq), fun i' x' q hi' hx' hk' hl' hne hq he => ?_⟩
      by_cases e' : i' = i
      · rw [e'] at hq
        have := hn q hq
        have := hr.lt _ _ hp
        omega
      · rw [set_getD _ hi, if_neg e'] at hl'
        rw [same i' x' hi' hx' hk' e'] at hq
        exact h3 i' x' q hi' hx' hk' hl' hne hq he
  · by_cases e : j = i
    · rw [e, set_getD _ hi, if_pos rfl] at hl; cases hl
    · rw [set_getD _ hi, if_neg e] at hl
      rcases Nat.lt_or_ge j K with h | h
      · rw [hpre j x hj hx h] at hl; cases hl
      · rw [same j x hj hx h e]
        exact hw.none j x hj hx hl
end
end Go.Proofs.Ytinonmcnofjeeaa.VM
