/- Mixed regions: what an operation does where one stands. -/
import Derived.Test.YtinonmcnofjeeaaVM18f
import Derived.Test.YtinonmcnofjeeaaVM19
namespace Go.Proofs.Ytinonmcnofjeeaa.VM
set_option linter.unusedSimpArgs false
set_option linter.unusedVariables false
set_option linter.defProp false
set_option maxHeartbeats 1000000
open Go.RowKit
section
variable {ops : Array Oper} {l : List VO} {B : List (List Nat)} {call : Nat → List AV → Heap → Option (AV × Heap)} {base : Nat} {tr : Nat → St} {listed : Array Bool} {s : T AV} {K : Nat}
theorem name_calm {i : Nat} {o : VO} {h : Heap} (hf : o.op.fresh = false) : nameAt base i o h = h.next := by unfold nameAt; rw [hf]; rfl
/-- the first act behind K that is there at all -/
theorem first_act {P : Nat → Prop} : ∀ j, P j → ∃ i, P i ∧ i ≤ j ∧ ∀ k, P k → i ≤ k := by
  intro j
  induction j using Nat.strongRecOn with
  | _ j ih =>
    intro hj
    by_cases h : ∃ i, P i ∧ i < j
    · obtain ⟨i, h1, h2⟩ := h
      obtain ⟨k, a, b, c⟩ := ih i h2 h1
      exact ⟨k, a, by omega, c⟩
    · exact ⟨j, hj, Nat.le_refl _, fun k hk => by
        rcases Nat.lt_or_ge k j with h' | h'
        · exact absurd ⟨k, hk, h'⟩ h
        · exact h'⟩
theorem Stands.none_between (hs : Stands l listed K) {i : Nat} (h : ∀ (x : Nat) (y : VO), l[x]? = some y → y.acts = true → x < i → listed.getD x false = true) : ∀ (x : Nat) (y : VO), l[x]? = some y → K ≤ x → x < i → y.acts = false := by
  intro x y hx h1 h2
  cases ha : y.acts with
  | false => rfl
  | true =>
    exfalso
    obtain ⟨f, ⟨hKf, z, hz, hza⟩, hfx, hmin⟩ := first_act (P := fun f => K ≤ f ∧ ∃ z, l[f]? = some z ∧ z.acts = true) x ⟨h1, y, hx, ha⟩
    have h3 := hs.head f z hz hza hKf fun i' x' h4 h5 h6 => hmin i' ⟨h6, x', h4, h5⟩
    rw [h f z hz hza (by omega)] at h3
    cases h3
theorem Stands.step (hs : Stands l listed K) (hv : Slots ops l B tr listed s) (g : GoesM call base l tr) (hL : Loose call l B tr) (hD : Mixed ops l B) {i : Nat} {o : VO} (ho : l[i]? = some o) (hf : o.op.fresh = false) (hi : listed.getD i false = false) (hB : ∀ j ∈ B.getD i [], listed.getD j false = true) :
    ∃ v K', vdo call ⟨s, (tr K).h⟩ (tr K).h.next o = some (St.put ⟨s, (tr K').h⟩ o.dst v) ∧ (∀ d, o.dst = some d → v = (tr (i + 1)).get d) ∧ ((o.acts = true ∧ K' = i + 1 ∧ K ≤ i ∧ ∀ (x : Nat) (y : VO), l[x]? = some y → y.acts = true → x < i → listed.getD x false = true) ∨ (o.acts = false ∧ K' = K)) := by
  have hil : i < l.length := (List.getElem?_eq_some_iff.1 ho).1
  have hlook : ∀ h, ∀ t ∈ o.looks, (tr i).get t = St.get ⟨s, h⟩ t := fun h t ht => (hv.looks g hD ho hi hB ht).symm
  have hgo := g i o ho
  rw [name_calm hf] at hgo
  have hdone : ∀ {v : AV} {x : St}, tr (i + 1) = St.put x o.dst v → ∀ d, o.dst = some d → v = (tr (i + 1)).get d := by
    intro v x hx d hd
    rw [hx, St.get_put, if_pos hd]
  -- where memory is the same
  have same : (tr K).h = (tr i).h → ∃ v, vdo call ⟨s, (tr K).h⟩ (tr K).h.next o = some (St.put ⟨s, (tr (i + 1)).h⟩ o.dst v) ∧ ∀ d, o.dst = some d → v = (tr (i + 1)).get d := by
    intro hh
    obtain ⟨v, h1, h2⟩ := vdo_congr (st' := ⟨s, (tr K).h⟩) (hlook _) hh.symm hgo
    exact ⟨v, by rw [hh] at h2 ⊢; exact h2, hdone h1⟩
  cases hact : o.acts with
  | true =>
    have hall : ∀ (x : Nat) (y : VO), l[x]? = some y → y.acts = true → x < i → listed.getD x false = true := fun x y hx hy hlt => by
      rcases hD.acts x i y o hx ho hy hact hlt with h | h
      · exact hB x h
      · rw [hf] at h; cases h
    have hKi : K ≤ i := by
      rcases Nat.lt_or_ge i K with h | h
      · have := hs.pre i o ho hact h
        rw [hi] at this; cases this
      · exact h
    have hh : (tr K).h = (tr i).h := (g.heap hKi (by omega) fun j y hy h1 h2 => hs.none_between hall j y hy h1 h2).symm
    obtain ⟨v, h1, h2⟩ := same hh
    exact ⟨v, i + 1, h1, h2, .inl ⟨rfl, rfl, hKi, hall⟩⟩
  | false =>
    have hk2 : o.op.kind ≠ 2 := by
      intro e
      simp [VO.acts, e] at hact
    have hst : (tr (i + 1)).h = (tr i).h := vdo_still hk2 hgo
    by_cases hh : (tr K).h = (tr i).h
    · obtain ⟨v, h1, h2⟩ := same hh
      exact ⟨v, K, by rw [h1, hst, hh], h2, .inr ⟨rfl, rfl⟩⟩
    · by_cases hk0 : o.op.kind = 0
      · obtain ⟨v, h1, h2⟩ := vdo_congr (st' := ⟨s, (tr i).h⟩) (hlook _) rfl hgo
        obtain ⟨v2, h3, h4⟩ := vdo_quiet hk0 h2 (tr K).h (tr K).h.next
        refine ⟨v2, K, h4, fun d hd => ?_, .inr ⟨rfl, rfl⟩⟩
        rw [← hdone h1 d hd]
        have e1 := congrArg (fun x : St => x.get d) h3
        simp only [St.get_put, if_pos hd] at e1
        exact e1.symm
      · have hk1 : o.op.kind = 1 := by
          have : o.op.kind = 0 ∨ o.op.kind = 1 ∨ o.op.kind = 2 := by
            cases o.op <;> simp [VOp.kind]
            · rename_i c x; cases c <;> simp
            · rename_i b x; cases b <;> simp
          omega
        have hmem : K ∈ looseKs l B i := by
          unfold looseKs
          rw [List.mem_filter]
          refine ⟨List.mem_range.2 (by have := hs.le; omega), ?_⟩
          rw [Bool.and_eq_true, Bool.and_eq_true, List.all_eq_true, List.any_eq_true]
          have actAt_true : ∀ {j : Nat}, actAt l j = true → ∃ y, l[j]? = some y ∧ y.acts = true := by
            intro j h
            unfold actAt at h
            split at h
            · rename_i y hy; exact ⟨y, hy, h⟩
            · cases h
          refine ⟨⟨?_, fun j hj => ?_⟩, ?_⟩
          · rcases hs.bound with h0 | ⟨y, hy, hay⟩
            · simp [h0]
            · simp [actAt, hy, hay]
          · cases ha : actAt l j with
            | false => rfl
            | true =>
              obtain ⟨y, hy, hay⟩ := actAt_true ha
              simp only [Bool.not_true, Bool.false_or, Bool.and_eq_true, Bool.or_eq_true, Bool.not_eq_true', Nat.blt_eq, Nat.ble_eq]
              constructor
              · by_cases hm : j ∈ B.getD i []
                · right
                  rcases Nat.lt_or_ge j K with h | h
                  · exact h
                  · exfalso
                    obtain ⟨f, ⟨hKf, z, hz, hza⟩, hfx, hmin⟩ := first_act (P := fun f => K ≤ f ∧ ∃ z, l[f]? = some z ∧ z.acts = true) j ⟨h, y, hy, hay⟩
                    have h3 := hs.head f z hz hza hKf fun i' x' h4 h5 h6 => hmin i' ⟨h6, x', h4, h5⟩
                    have h4 : f ∈ B.getD i [] := by
                      by_cases e : f = j
                      · rw [e]; exact hm
                      · exact hD.behind i j f o y z ho hk1 hy hay hm hz hza (by omega)
                    rw [hB f h4] at h3
                    cases h3
                · left
                  simpa using hm
              · by_cases hm : i ∈ B.getD j []
                · right
                  rcases Nat.lt_or_ge j K with h | h
                  · have := hv.closed j (hs.pre j y hy hay h) i hm
                    rw [hi] at this; cases this
                  · exact h
                · left
                  simpa using hm
          · apply Classical.byContradiction
            intro hno
            apply hh
            have hnone : ∀ j y, l[j]? = some y → ((K ≤ j ∧ j < i) ∨ (i ≤ j ∧ j < K)) → y.acts = false := by
              intro j y hy hb
              cases hay : y.acts with
              | false => rfl
              | true =>
                exfalso
                apply hno
                refine ⟨j, List.mem_range.2 (List.getElem?_eq_some_iff.1 hy).1, ?_⟩
                simp only [actAt, hy, hay, Bool.true_and, Bool.or_eq_true, Bool.and_eq_true, Nat.ble_eq, Nat.blt_eq]
                exact hb
            rcases Nat.le_total K i with hle | hle
            · exact (g.heap hle (by omega) fun j y hy h1 h2 => hnone j y hy (.inl ⟨h1, h2⟩)).symm
            · exact g.heap hle hs.le fun j y hy h1 h2 => hnone j y hy (.inr ⟨h1, h2⟩)
        obtain ⟨s1, h1, h2⟩ := hL i o ho hk1 K hmem
        obtain ⟨v, h3, h4⟩ := vdo_congr (st := ⟨(tr i).s, (tr K).h⟩) (st' := ⟨s, (tr K).h⟩) (fun t ht => hlook (tr K).h t ht) rfl h1
        have hs1 : s1.h = (tr K).h := vdo_still (st := ⟨(tr i).s, (tr K).h⟩) hk2 h1
        refine ⟨v, K, by rw [h4, hs1], fun d hd => ?_, .inr ⟨rfl, rfl⟩⟩
        rw [← h2 d hd, h3, St.get_put, if_pos hd]

end
end Go.Proofs.Ytinonmcnofjeeaa.VM
