/- Mixed regions: where one stands, its slots. -/
import Derived.Test.YtinonmcnofjeeaaVM18b
namespace Go.Proofs.Ytinonmcnofjeeaa.VM
set_option linter.unusedSimpArgs false
set_option linter.unusedVariables false
set_option linter.defProp false
set_option maxHeartbeats 1000000
open Go.RowKit
section
variable {P : Program} {nt : Nat} {ops : Array Oper} {l : List VO} {B : List (List Nat)} {call : Nat → List AV → Heap → Option (AV × Heap)} {base : Nat} {tr : Nat → St} {listed : Array Bool} {s : T AV} {K : Nat}

/-- what is listed, the slots -/
structure Slots (ops : Array Oper) (l : List VO) (B : List (List Nat)) (tr : Nat → St) (listed : Array Bool) (s : T AV) : Prop where
  size : listed.size = ops.size
  closed : ∀ i, listed.getD i false = true → ∀ j ∈ B.getD i [], listed.getD j false = true
  got : ∀ (i : Nat) (o : VO) (t : Nat), l[i]? = some o → listed.getD i false = true → o.dst = some t → St.get ⟨s, (tr 0).h⟩ t = (tr (i + 1)).get t
  old : ∀ t, (∀ (i : Nat) (o : VO), l[i]? = some o → listed.getD i false = true → o.dst ≠ some t) → St.get ⟨s, (tr 0).h⟩ t = (tr 0).get t

theorem Slots.looks (hv : Slots ops l B tr listed s) (g : GoesM call base l tr) (hD : Mixed ops l B) {i : Nat} {o : VO} (ho : l[i]? = some o) (hi : listed.getD i false = false) (hB : ∀ j ∈ B.getD i [], listed.getD j false = true)
    {t : Nat} (ht : t ∈ o.looks) : St.get ⟨s, (tr 0).h⟩ t = (tr i).get t := by
  have hil : i < l.length := (List.getElem?_eq_some_iff.1 ho).1
  by_cases hex : ∃ j y, l[j]? = some y ∧ y.dst = some t ∧ j ≠ i
  · obtain ⟨j, y, hy, hd, hne⟩ := hex
    rcases hD.looks j i y o t hy ho hne hd ht with ⟨h1, h2⟩ | ⟨h1, h2⟩
    · rw [hv.got j y t hy (hB j h2) hd, g.got hD hy hd h1 (by omega)]
    · have hnj : listed.getD j false ≠ true := fun e => by
        have := hv.closed j e i h2
        rw [hi] at this; cases this
      have e1 : St.get ⟨s, (tr 0).h⟩ t = (tr 0).get t := hv.old t fun k z hz hk hdz => by
        by_cases e : k = j
        · subst e; exact hnj hk
        · exact hD.one k j z y t hz hy e hdz hd
      have e2 : (tr i).get t = (tr 0).get t := g.old (by omega) fun k z hz hk hdz => by
        by_cases e : k = j
        · omega
        · exact hD.one k j z y t hz hy e hdz hd
      rw [e1, e2]
  · have hno : ∀ j y, l[j]? = some y → j ≠ i → y.dst ≠ some t := fun j y hy hne hd => hex ⟨j, y, hy, hd, hne⟩
    have e1 : St.get ⟨s, (tr 0).h⟩ t = (tr 0).get t := hv.old t fun k z hz hk => hno k z hz fun e => by
      subst e
      rw [hi] at hk; cases hk
    have e2 : (tr i).get t = (tr 0).get t := g.old (by omega) fun k z hz hk => hno k z hz (by omega)
    rw [e1, e2]

/-- what is listed next -/
theorem Slots.next (hv : Slots ops l B tr listed s) (hD : Mixed ops l B) {i : Nat} {o : VO} (ho : l[i]? = some o) (hn : i < ops.size) (hB : ∀ j ∈ B.getD i [], listed.getD j false = true)
    {v : AV} (hval : ∀ d, o.dst = some d → v = (tr (i + 1)).get d) (h' : Heap) :
    Slots ops l B tr (listed.setIfInBounds i true) (St.put ⟨s, h'⟩ o.dst v).s := by
  have hlt : i < listed.size := by rw [hv.size]; exact hn
  have hget : ∀ t, St.get ⟨(St.put ⟨s, h'⟩ o.dst v).s, (tr 0).h⟩ t = if o.dst = some t then v else St.get ⟨s, (tr 0).h⟩ t := by
    intro t
    have := St.get_put ⟨s, h'⟩ o.dst v t
    exact this
  refine ⟨by simp [hv.size], fun j hj k hk => ?_, fun j y t hy hj hd => ?_, fun t hno => ?_⟩
  · rw [set_getD _ hlt] at hj ⊢
    by_cases e : k = i
    · rw [if_pos e]
    · rw [if_neg e]
      by_cases e' : j = i
      · subst e'; exact hB k hk
      · rw [if_neg e'] at hj
        exact hv.closed j hj k hk
  · rw [hget]
    by_cases e : j = i
    · subst e
      rw [ho] at hy
      cases hy
      rw [if_pos hd, hval t hd]
    · rw [set_getD _ hlt, if_neg e] at hj
      rw [if_neg (hD.one j i y o t hy ho e hd), hv.got j y t hy hj hd]
  · rw [hget, if_neg (hno i o ho (by rw [set_getD _ hlt, if_pos rfl]))]
    refine hv.old t fun j y hy hj => hno j y hy ?_
    rw [set_getD _ hlt]
    by_cases e : j = i
    · rw [if_pos e]
    · rw [if_neg e]; exact hj

/-- Where a mixed region stands: the first places whose acts are all listed; of the new blocks behind them, those that are listed wait. -/
structure Stands (l : List VO) (listed : Array Bool) (K : Nat) : Prop where
  pre : ∀ (j : Nat) (o : VO), l[j]? = some o → o.acts = true → j < K → listed.getD j false = true
  post : ∀ (j : Nat) (o : VO), l[j]? = some o → o.acts = true → K ≤ j → listed.getD j false = true → o.op.fresh = true
  head : ∀ (j : Nat) (o : VO), l[j]? = some o → o.acts = true → K ≤ j → (∀ (i : Nat) (x : VO), l[i]? = some x → x.acts = true → K ≤ i → j ≤ i) → listed.getD j false = false
  bound : K = 0 ∨ ∃ o, l[K - 1]? = some o ∧ o.acts = true
  le : K ≤ l.length

/-- the memory of a mixed region: the new blocks that wait, those that are not yet -/
structure Waits (l : List VO) (base : Nat) (tr : Nat → St) (listed : Array Bool) (K : Nat) (w0 : World) (φ : Env) (w : World) : Prop where
  dead : ∀ (j : Nat) (o : VO), l[j]? = some o → o.op.fresh = true → K ≤ j → (tr K).h.get (base + j) = some .dead
  wait : ∀ (j : Nat) (o : VO), l[j]? = some o → o.op.fresh = true → K ≤ j → listed.getD j false = true → (tr (j + 1)).h = (tr j).h ∨ BR φ w (base + j) ((tr (j + 1)).h.get (base + j))
  own : ∀ (j : Nat) (o : VO), l[j]? = some o → o.op.fresh = true → K ≤ j → listed.getD j false = true → ∀ p, φ (base + j) = some p → w0.heap.size ≤ p.1 ∧
    (∀ b q, live ((tr K).h.get b) = true → φ b = some q → q.1 ≠ p.1) ∧
    (∀ (i : Nat) (x : VO) q, l[i]? = some x → x.op.fresh = true → K ≤ i → listed.getD i false = true → i ≠ j → φ (base + i) = some q → q.1 ≠ p.1)
  none : ∀ (j : Nat) (o : VO), l[j]? = some o → o.op.fresh = true → listed.getD j false = false → φ (base + j) = none
end
end Go.Proofs.Ytinonmcnofjeeaa.VM
