/- Mixed regions: what waited becomes memory. -/
import Derived.Test.YtinonmcnofjeeaaVM18d
namespace Go.Proofs.Ytinonmcnofjeeaa.VM
set_option linter.unusedSimpArgs false
set_option linter.unusedVariables false
set_option linter.defProp false
set_option maxHeartbeats 1000000
open Go.RowKit
section
variable {ops : Array Oper} {B : List (List Nat)} {l : List VO} {call : Nat → List AV → Heap → Option (AV × Heap)} {base : Nat} {tr : Nat → St} {listed : Array Bool} {K : Nat} {w0 : World} {φ : Env} {w : World}
/-- what a new block's place does to memory -/
theorem GoesM.fresh (g : GoesM call base l tr) {j : Nat} {o : VO} (hj : l[j]? = some o) (hf : o.op.fresh = true) : (tr (j + 1)).h = (tr j).h ∨ ∃ x, (tr (j + 1)).h = (tr j).h.mk' (base + j) x := by
  have h := g j o hj
  have hn : nameAt base j o (tr j).h = base + j := by unfold nameAt; rw [hf]; rfl
  rw [hn] at h
  unfold vdo at h
  cases hw : wanted (tr j) o.guard with
  | false =>
    rw [hw] at h
    have : (tr j).put o.dst .undef = tr (j + 1) := by simpa using h
    rw [← this, St.put_h]
    exact .inl rfl
  | true =>
    rw [hw, cond_true] at h
    cases hv : vop (tr j) (base + j) o.op with
    | fail => rw [hv] at h; cases h
    | enter f args =>
      rw [hv] at h
      exfalso
      cases ho : o.op <;> rw [ho] at hf hv <;> simp only [VOp.fresh] at hf <;> try (cases hf; done)
      all_goals
        simp only [vop] at hv
        first
          | (cases hv; done)
          | ((repeat' (split at hv)) <;> cases hv)
    | val v h1 =>
      rw [hv] at h
      obtain ⟨x, hx, _, _⟩ := vop_fresh (s := (tr j).s) (h := (tr j).h) hf hv
      have : St.put ⟨(tr j).s, h1⟩ o.dst v = tr (j + 1) := by simpa using h
      rw [← this, St.put_h]
      exact .inr ⟨x, hx⟩
theorem absorb_hr (hw : Waits l base tr listed K w0 φ w) (hr : HR φ w (tr K).h) (g : GoesM call base l tr) {j : Nat} {o : VO} (hj : l[j]? = some o) (hf : o.op.fresh = true) (hK : K ≤ j) (hl : listed.getD j false = true) (hh : (tr j).h = (tr K).h) : HR φ w (tr (j + 1)).h := by
  rcases g.fresh hj hf with h | ⟨x, h⟩
  · rw [h, hh]; exact hr
  · rw [hh] at h
    have hwt := hw.wait j o hj hf hK hl
    have hown := hw.own j o hj hf hK hl
    have hwt : BR φ w (base + j) (some x) := by
      rcases hwt with e | e
      · have e1 := congrArg (fun y : Heap => y.get (base + j)) e
        simp only [h, hh, Heap.get_mk, if_true, hw.dead j o hj hf hK] at e1
        rw [e1]; trivial
      · rw [h, Heap.get_mk, if_pos rfl] at e; exact e
    rw [h]
    refine ⟨fun b => ?_, hr.lt, fun b b' p p' h1 h2 hp hp' he => ?_, fun b hb => ?_⟩
    · rw [Heap.get_mk]
      by_cases e : b = base + j
      · rw [if_pos e, e]; exact hwt
      · rw [if_neg e]; exact hr.blk b
    · rw [Heap.get_mk] at h1 h2
      by_cases e : b = base + j
      · by_cases e' : b' = base + j
        · rw [e, e']
        · rw [if_neg e'] at h2
          rw [e] at hp
          exact absurd he.symm ((hown p hp).2.1 b' p' h2 hp')
      · rw [if_neg e] at h1
        by_cases e' : b' = base + j
        · rw [e'] at hp'
          exact absurd he ((hown p' hp').2.1 b p h1 hp)
        · rw [if_neg e'] at h2
          exact hr.inj b b' p p' h1 h2 hp hp' he
    · have hb' : max (tr K).h.next (base + j + 1) ≤ b := hb
      rw [Heap.get_mk, if_neg (by omega)]
      exact hr.next b (by omega)
theorem absorb_upd {φ0 : Env} {H0 : Heap} (hw : Waits l base tr listed K w0 φ w) (u : UpdH φ0 w0 H0 φ w (tr K).h) (g : GoesM call base l tr) {j : Nat} {o : VO} (hj : l[j]? = some o) (hf : o.op.fresh = true) (hK : K ≤ j) (hl : listed.getD j false = true) (hh : (tr j).h = (tr K).h)
    (h0 : H0.get (base + j) = none) : UpdH φ0 w0 H0 φ w (tr (j + 1)).h := by
  rcases g.fresh hj hf with h | ⟨x, h⟩
  · rw [h, hh]; exact u
  · rw [hh] at h
    have hown := hw.own j o hj hf hK hl
    rw [h]
    refine { toUpd := u.toUpd, keepL := u.keepL, deadL := fun b h1 h2 => ?_, newL := fun b B o' h1 h2 => ?_, stay := fun b h1 => ?_ }
    · have e : b ≠ base + j := fun e => h1 (by rw [e, h0])
      rw [Heap.get_mk, if_neg e]
      exact u.deadL b h1 h2
    · rw [Heap.get_mk] at h1
      by_cases e : b = base + j
      · rw [e] at h2
        exact .inr (hown _ h2).1
      · rw [if_neg e] at h1
        exact u.newL b B o' h1 h2
    · rw [Heap.get_mk]
      by_cases e : b = base + j
      · rw [if_pos e]; simp
      · rw [if_neg e]; exact u.stay b h1
/-- behind it the others wait -/
theorem absorb_waits (hw : Waits l base tr listed K w0 φ w) (g : GoesM call base l tr) {j : Nat} {o : VO} (hj : l[j]? = some o) (hf : o.op.fresh = true) (hK : K ≤ j) (hl : listed.getD j false = true) (hh : (tr j).h = (tr K).h) : Waits l base tr listed (j + 1) w0 φ w := by
  have hget : ∀ b, b ≠ base + j → (tr (j + 1)).h.get b = (tr K).h.get b := by
    intro b hb
    rcases g.fresh hj hf with h | ⟨x, h⟩
    · rw [h, hh]
    · rw [h, hh, Heap.get_mk, if_neg hb]
  refine ⟨fun i x hi hx hki => ?_, fun i x hi hx hki hli => hw.wait i x hi hx (by omega) hli, fun i x hi hx hki hli p hp => ?_, hw.none⟩
  · rw [hget _ (by omega)]; exact hw.dead i x hi hx (by omega)
  · obtain ⟨h1, h2, h3⟩ := hw.own i x hi hx (by omega) hli p hp
    refine ⟨h1, fun b q hb hq => ?_, fun i' x' q hi' hx' hki' hli' hne hq => h3 i' x' q hi' hx' (by omega) hli' hne hq⟩
    by_cases e : b = base + j
    · rw [e] at hq
      exact h3 j o q hj hf hK hl (by omega) hq
    · rw [hget b e] at hb
      exact h2 b q hb hq
end
end Go.Proofs.Ytinonmcnofjeeaa.VM
