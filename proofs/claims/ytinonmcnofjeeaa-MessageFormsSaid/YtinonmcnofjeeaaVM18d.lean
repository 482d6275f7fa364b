/- Mixed regions: what waits over a step. -/
import Derived.Test.YtinonmcnofjeeaaVM18c
namespace Go.Proofs.Ytinonmcnofjeeaa.VM
set_option linter.unusedSimpArgs false
set_option linter.unusedVariables false
set_option linter.defProp false
set_option maxHeartbeats 1000000
open Go.RowKit
section
variable {l : List VO} {base : Nat} {tr : Nat → St} {listed : Array Bool} {K : Nat} {w0 : World} {φ φ' : Env} {w w' : World}
/-- a block stands for the same, where its own is left alone -/
theorem BR.keep {b : Nat} {x : Option Blk} (h : BR φ w b x) (u : Upd φ w φ' w') (hb : φ' b = φ b) (hs : ∀ p, φ b = some p → w'.heap[p.1]? = w.heap[p.1]?) : BR φ' w' b x := by
  cases x with
  | none => exact hb.trans h
  | some x =>
    cases x with
    | dead => trivial
    | cells l e ver =>
      obtain ⟨B, o, e', n, h1, h2, h3, h4, h5⟩ := h
      have hs := hs _ h1
      exact ⟨B, o, e', n, u.ext _ _ h1, u.shape _ _ h2, h3.upd u hs, h4.keep hs, h5⟩
    | map es ver =>
      obtain ⟨B, o, vs, clock, h1, h2, h3, h4⟩ := h
      have hs := hs _ h1
      exact ⟨B, o, vs, clock, u.ext _ _ h1, hs.trans h2, h3.upd u, h4.upd u⟩
theorem fresh_acts {o : VO} (h : o.op.fresh = true) : o.acts = true := by
  unfold VO.acts
  cases ho : o.op <;> rw [ho] at h <;> simp only [VOp.fresh] at h <;> first | (cases h; done) | rfl
theorem Waits.step {K' : Nat} {listed' : Array Bool} (hw : Waits l base tr listed K w0 φ w) (hr : HR φ w (tr K).h) (u : UpdH φ w (tr K).h φ' w' (tr K').h) (hK : K ≤ K')
    (hl : ∀ (j : Nat) (o : VO), l[j]? = some o → o.op.fresh = true → K' ≤ j → listed'.getD j false = listed.getD j false)
    (hp : ∀ (j : Nat) (o : VO), l[j]? = some o → o.op.fresh = true → j < K' → listed'.getD j false = true) : Waits l base tr listed' K' w0 φ' w' := by
  have same : ∀ (j : Nat) (o : VO), l[j]? = some o → o.op.fresh = true → K' ≤ j → φ' (base + j) = φ (base + j) := fun j o hj hf hk => by
    have hd := hw.dead j o hj hf (by omega)
    exact (u.deadL (base + j) (by rw [hd]; simp) (by rw [hd]; rfl)).2.2
  refine ⟨fun j o hj hf hk => ?_, fun j o hj hf hk hlj => ?_, fun j o hj hf hk hlj p hpj => ?_, fun j o hj hf hlj => ?_⟩
  · have hd := hw.dead j o hj hf (by omega)
    obtain ⟨a1, a2, _⟩ := u.deadL (base + j) (by rw [hd]; simp) (by rw [hd]; rfl)
    rcases not_live (by rw [a2]; simp) with h | h
    · exact absurd h a1
    · exact h
  · rw [hl j o hj hf hk] at hlj
    refine (hw.wait j o hj hf (by omega) hlj).imp id fun hbr => hbr.keep u.toUpd (same j o hj hf hk) fun p hpj => ?_
    obtain ⟨_, h2, _⟩ := hw.own j o hj hf (by omega) hlj p hpj
    exact u.keepL _ (hr.lt _ _ hpj) fun b q hb hq => h2 b q hb hq
  · rw [hl j o hj hf hk] at hlj
    rw [same j o hj hf hk] at hpj
    obtain ⟨h1, h2, h3⟩ := hw.own j o hj hf (by omega) hlj p hpj
    refine ⟨h1, fun b q hb hq e => ?_, fun i x q hi hx hki hli hne hq => ?_⟩
    · rcases u.newL b q.1 q.2 hb hq with ⟨b0, o0, e0, e1⟩ | e0
      · exact h2 b0 _ e0 e1 e
      · have := hr.lt _ _ hpj
        omega
    · rw [hl i x hi hx hki] at hli
      rw [same i x hi hx hki] at hq
      exact h3 i x q hi hx (by omega) hli hne hq
  · rcases Nat.lt_or_ge j K' with h | h
    · rw [hp j o hj hf h] at hlj; cases hlj
    · rw [same j o hj hf h]
      rw [hl j o hj hf h] at hlj
      exact hw.none j o hj hf hlj
end
end Go.Proofs.Ytinonmcnofjeeaa.VM
