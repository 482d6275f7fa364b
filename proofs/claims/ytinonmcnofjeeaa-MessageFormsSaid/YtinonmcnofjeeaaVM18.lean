/- Regions whose order is drawn: every order leads to one end. -/
import Derived.Test.YtinonmcnofjeeaaVM17
namespace Go.Proofs.Ytinonmcnofjeeaa.VM
set_option linter.unusedSimpArgs false
set_option linter.unusedVariables false
set_option linter.defProp false
set_option maxHeartbeats 1000000
open Go.RowKit

section
variable {P : Program} {nt : Nat} {ops : Array Oper} {l : List VO} {B : List (List Nat)} {call : Nat → List AV → Heap → Option (AV × Heap)} {tr : Nat → St}

/-- a trace, by places -/
def Goes (call : Nat → List AV → Heap → Option (AV × Heap)) (l : List VO) (tr : Nat → St) : Prop := ∀ i o, l[i]? = some o → vdo call (tr i) (tr i).h.next o = some (tr (i + 1))

theorem Goes.keep (g : Goes call l tr) {i : Nat} {o : VO} (ho : l[i]? = some o) {t : Nat} (hd : o.dst ≠ some t) : (tr (i + 1)).get t = (tr i).get t := by
  obtain ⟨v, h1, _⟩ := vdo_congr (st' := tr i) (fun _ _ => rfl) rfl (g i o ho)
  rw [h1, St.get_put, if_neg hd]
  rfl

theorem Goes.heap (g : Goes call l tr) {i : Nat} : ∀ {k : Nat}, i ≤ k → k ≤ l.length → (∀ j o, l[j]? = some o → i ≤ j → j < k → o.acts = false) → (tr k).h = (tr i).h
  | 0, hik, _, _ => by rw [show i = 0 by omega]
  | k + 1, hik, hk, ha => by
    by_cases e : i = k + 1
    · rw [e]
    · obtain ⟨o, ho⟩ : ∃ o, l[k]? = some o := ⟨l[k]'(by omega), List.getElem?_eq_getElem (by omega)⟩
      have h1 := ha k o ho (by omega) (by omega)
      have h2 : o.op.kind ≠ 2 := by
        intro e
        simp [VO.acts, e] at h1
      rw [vdo_still h2 (g k o ho)]
      exact Goes.heap g (by omega) (by omega) fun j o hj h3 h4 => ha j o hj h3 (by omega)

theorem Goes.old (g : Goes call l tr) {t : Nat} : ∀ {i : Nat}, i ≤ l.length → (∀ j o, l[j]? = some o → j < i → o.dst ≠ some t) → (tr i).get t = (tr 0).get t
  | 0, _, _ => rfl
  | i + 1, hi, h => by
    obtain ⟨o, ho⟩ : ∃ o, l[i]? = some o := ⟨l[i]'(by omega), List.getElem?_eq_getElem (by omega)⟩
    rw [g.keep ho (h i o ho (by omega))]
    exact Goes.old g (by omega) fun j o hj h1 => h j o hj (by omega)

theorem Goes.got (g : Goes call l tr) (hD : Drawn ops l B) {j : Nat} {y : VO} {t : Nat} (hy : l[j]? = some y) (hd : y.dst = some t) : ∀ {i : Nat}, j < i → i ≤ l.length → (tr i).get t = (tr (j + 1)).get t
  | 0, h, _ => by omega
  | i + 1, h, hi => by
    by_cases e : j = i
    · rw [e]
    · obtain ⟨o, ho⟩ : ∃ o, l[i]? = some o := ⟨l[i]'(by omega), List.getElem?_eq_getElem (by omega)⟩
      rw [g.keep ho (hD.one j i y o t hy ho e hd)]
      exact Goes.got g hD hy hd (by omega) (by omega)

/-- Where a drawn region stands: what is listed, the slots, the last act that is listed. -/
structure Inv (ops : Array Oper) (l : List VO) (B : List (List Nat)) (tr : Nat → St) (listed : Array Bool) (s : T AV) (K : Nat) : Prop where
  size : listed.size = ops.size
  closed : ∀ i, listed.getD i false = true → ∀ j ∈ B.getD i [], listed.getD j false = true
  got : ∀ (i : Nat) (o : VO) (t : Nat), l[i]? = some o → listed.getD i false = true → o.dst = some t → St.get ⟨s, (tr 0).h⟩ t = (tr (i + 1)).get t
  old : ∀ t, (∀ (i : Nat) (o : VO), l[i]? = some o → listed.getD i false = true → o.dst ≠ some t) → St.get ⟨s, (tr 0).h⟩ t = (tr 0).get t
  acts : ∀ (j : Nat) (o : VO), l[j]? = some o → o.acts = true → (listed.getD j false = true ↔ j < K)
  bound : K = 0 ∨ ∃ o, l[K - 1]? = some o ∧ o.acts = true
  le : K ≤ l.length

theorem set_getD (a : Array Bool) {i : Nat} (h : i < a.size) (j : Nat) : (a.setIfInBounds i true).getD j false = if j = i then true else a.getD j false := by
  rw [Array.getD_eq_getD_getElem?, Array.getD_eq_getD_getElem?, Array.getElem?_setIfInBounds]
  by_cases e : j = i
  · subst e; simp [h]
  · rw [if_neg (fun h => e h.symm), if_neg e]

section
variable {listed : Array Bool} {s : T AV} {K : Nat}

theorem Inv.looks (hv : Inv ops l B tr listed s K) (g : Goes call l tr) (hD : Drawn ops l B) {i : Nat} {o : VO} (ho : l[i]? = some o) (hi : listed.getD i false = false) (hB : ∀ j ∈ B.getD i [], listed.getD j false = true)
    {t : Nat} (ht : t ∈ o.looks) : St.get ⟨s, (tr 0).h⟩ t = (tr i).get t := by
  have hil : i < l.length := (List.getElem?_eq_some_iff.1 ho).1
  by_cases hex : ∃ j y, l[j]? = some y ∧ y.dst = some t ∧ j ≠ i
  · obtain ⟨j, y, hy, hd, hne⟩ := hex
    rcases hD.looks j i y o t hy ho hne hd ht with ⟨h1, h2⟩ | ⟨h1, h2⟩
    · rw [hv.got j y t hy (hB j h2) hd, g.got hD hy hd h1 (by omega)]
    · have hnj : listed.getD j false ≠ true := fun e => by
        have := hv.closed j e i h2
        rw [hi] at this; cases this
      have e1 : St.get ⟨s, (tr 0).h⟩ t = (tr 0).get t := hv.old t fun k z hz hk hdz => by
        by_cases e : k = j
        · subst e; exact hnj hk
        · exact hD.one k j z y t hz hy e hdz hd
      have e2 : (tr i).get t = (tr 0).get t := g.old (by omega) fun k z hz hk hdz => by
        by_cases e : k = j
        · omega
        · exact hD.one k j z y t hz hy e hdz hd
      rw [e1, e2]
  · have hno : ∀ j y, l[j]? = some y → j ≠ i → y.dst ≠ some t := fun j y hy hne hd => hex ⟨j, y, hy, hd, hne⟩
    have e1 : St.get ⟨s, (tr 0).h⟩ t = (tr 0).get t := hv.old t fun k z hz hk => hno k z hz fun e => by
      subst e
      rw [hi] at hk; cases hk
    have e2 : (tr i).get t = (tr 0).get t := g.old (by omega) fun k z hz hk => hno k z hz (by omega)
    rw [e1, e2]

/-- what is listed next -/
theorem Inv.next (hv : Inv ops l B tr listed s K) (hD : Drawn ops l B) {i : Nat} {o : VO} (ho : l[i]? = some o) (hn : i < ops.size) (hi : listed.getD i false = false) (hB : ∀ j ∈ B.getD i [], listed.getD j false = true)
    {v : AV} (hval : ∀ d, o.dst = some d → v = (tr (i + 1)).get d) {K' : Nat} (hK : (o.acts = true ∧ K' = i + 1) ∨ (o.acts = false ∧ K' = K)) (h' : Heap) :
    Inv ops l B tr (listed.setIfInBounds i true) (St.put ⟨s, h'⟩ o.dst v).s K' := by
  have hlt : i < listed.size := by rw [hv.size]; exact hn
  have hil : i < l.length := (List.getElem?_eq_some_iff.1 ho).1
  have hget : ∀ t, St.get ⟨(St.put ⟨s, h'⟩ o.dst v).s, (tr 0).h⟩ t = if o.dst = some t then v else St.get ⟨s, (tr 0).h⟩ t := by
    intro t
    have := St.get_put ⟨s, h'⟩ o.dst v t
    exact this
  refine ⟨by simp [hv.size], fun j hj k hk => ?_, fun j y t hy hj hd => ?_, fun t hno => ?_, fun j y hy ha => ?_, ?_, ?_⟩
  · rw [set_getD _ hlt] at hj ⊢
    by_cases e : k = i
    · rw [if_pos e]
    · rw [if_neg e]
      by_cases e' : j = i
      · subst e'; exact hB k hk
      · rw [if_neg e'] at hj
        exact hv.closed j hj k hk
  · rw [hget]
    by_cases e : j = i
    · subst e
      rw [ho] at hy
      cases hy
      rw [if_pos hd, hval t hd]
    · rw [set_getD _ hlt, if_neg e] at hj
      rw [if_neg (hD.one j i y o t hy ho e hd), hv.got j y t hy hj hd]
  · rw [hget, if_neg (hno i o ho (by rw [set_getD _ hlt, if_pos rfl]))]
    refine hv.old t fun j y hy hj => hno j y hy ?_
    rw [set_getD _ hlt]
    by_cases e : j = i
    · rw [if_pos e]
    · rw [if_neg e]; exact hj
  · rw [set_getD _ hlt]
    rcases hK with ⟨h1, rfl⟩ | ⟨h1, rfl⟩
    · by_cases e : j = i
      · rw [if_pos e]; simp; omega
      · rw [if_neg e]
        by_cases hlt' : j < i
        · have := hB j (hD.acts j i y o hy ho ha h1 hlt')
          rw [this]; simp; omega
        · have hji : i < j := by omega
          constructor
          · intro hj
            have := hv.closed j hj i (hD.acts i j o y ho hy h1 ha hji)
            rw [hi] at this; cases this
          · intro h; omega
    · have e : j ≠ i := by
        rintro rfl
        rw [ho] at hy
        cases hy
        rw [h1] at ha; cases ha
      rw [if_neg e]
      exact hv.acts j y hy ha
  · rcases hK with ⟨h1, rfl⟩ | ⟨h1, rfl⟩
    · exact .inr ⟨o, by simpa using ho, h1⟩
    · exact hv.bound
  · rcases hK with ⟨h1, rfl⟩ | ⟨h1, rfl⟩
    · exact hil
    · exact hv.le

end
end
end Go.Proofs.Ytinonmcnofjeeaa.VM
