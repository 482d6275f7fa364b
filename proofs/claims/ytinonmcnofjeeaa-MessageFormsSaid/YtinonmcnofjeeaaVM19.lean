/- Regions whose order is drawn: the join. -/
import Derived.Test.YtinonmcnofjeeaaVM18
namespace Go.Proofs.Ytinonmcnofjeeaa.VM
set_option linter.unusedSimpArgs false
set_option linter.unusedVariables false
set_option linter.defProp false
set_option maxHeartbeats 1000000
open Go.RowKit

section
variable {P : Program} {nt : Nat} {ops : Array Oper} {l : List VO} {B : List (List Nat)} {call : Nat → List AV → Heap → Option (AV × Heap)} {tr : Nat → St} {listed : Array Bool} {s : T AV} {K : Nat}

/-- the check of a look that has no place in the order -/
def Loose (call : Nat → List AV → Heap → Option (AV × Heap)) (l : List VO) (B : List (List Nat)) (tr : Nat → St) : Prop :=
  ∀ (i : Nat) (o : VO), l[i]? = some o → o.op.kind = 1 → ∀ k ∈ looseKs l B i, ∃ s1, vdo call ⟨(tr i).s, (tr k).h⟩ (tr k).h.next o = some s1 ∧ ∀ d, o.dst = some d → s1.get d = (tr (i + 1)).get d

theorem Inv.step (hv : Inv ops l B tr listed s K) (g : Goes call l tr) (hL : Loose call l B tr) (hD : Drawn ops l B) {i : Nat} {o : VO} (ho : l[i]? = some o) (hi : listed.getD i false = false) (hB : ∀ j ∈ B.getD i [], listed.getD j false = true) :
    ∃ v K', vdo call ⟨s, (tr K).h⟩ (tr K).h.next o = some (St.put ⟨s, (tr K').h⟩ o.dst v) ∧ (∀ d, o.dst = some d → v = (tr (i + 1)).get d) ∧ ((o.acts = true ∧ K' = i + 1) ∨ (o.acts = false ∧ K' = K)) := by
  have hil : i < l.length := (List.getElem?_eq_some_iff.1 ho).1
  have hlook : ∀ h, ∀ t ∈ o.looks, (tr i).get t = St.get ⟨s, h⟩ t := fun h t ht => (hv.looks g hD ho hi hB ht).symm
  have hgo := g i o ho
  have hdone : ∀ {v : AV} {x : St}, tr (i + 1) = St.put x o.dst v → ∀ d, o.dst = some d → v = (tr (i + 1)).get d := by
    intro v x hx d hd
    rw [hx, St.get_put, if_pos hd]
  -- where memory is the same
  have same : (tr K).h = (tr i).h → ∃ v, vdo call ⟨s, (tr K).h⟩ (tr K).h.next o = some (St.put ⟨s, (tr (i + 1)).h⟩ o.dst v) ∧ ∀ d, o.dst = some d → v = (tr (i + 1)).get d := by
    intro hh
    obtain ⟨v, h1, h2⟩ := vdo_congr (st' := ⟨s, (tr K).h⟩) (hlook _) hh.symm hgo
    exact ⟨v, by rw [hh] at h2 ⊢; exact h2, hdone h1⟩
  have act_listed : ∀ {j : Nat} {y : VO}, l[j]? = some y → y.acts = true → j < K → listed.getD j false = true := fun hy ha h => (hv.acts _ _ hy ha).2 h
  cases hact : o.acts with
  | true =>
    have hh : (tr K).h = (tr i).h := by
      by_cases hKi : K ≤ i
      · refine (g.heap hKi (by omega) fun j y hy h1 h2 => ?_).symm
        cases hay : y.acts with
        | false => rfl
        | true =>
          have := hB j (hD.acts j i y o hy ho hay hact h2)
          have := (hv.acts j y hy hay).1 this
          omega
      · rcases hv.bound with h0 | ⟨y, hy, hay⟩
        · omega
        · have h1 := act_listed hy hay (by omega)
          by_cases e : K - 1 = i
          · rw [e, hi] at h1; cases h1
          · have := hv.closed _ h1 i (hD.acts i (K - 1) o y ho hy hact hay (by omega))
            rw [hi] at this; cases this
    obtain ⟨v, h1, h2⟩ := same hh
    exact ⟨v, i + 1, h1, h2, .inl ⟨rfl, rfl⟩⟩
  | false =>
    have hk2 : o.op.kind ≠ 2 := by
      intro e
      simp [VO.acts, e] at hact
    have hst : (tr (i + 1)).h = (tr i).h := vdo_still hk2 hgo
    by_cases hh : (tr K).h = (tr i).h
    · obtain ⟨v, h1, h2⟩ := same hh
      exact ⟨v, K, by rw [h1, hst, hh], h2, .inr ⟨rfl, rfl⟩⟩
    · by_cases hk0 : o.op.kind = 0
      · obtain ⟨v, h1, h2⟩ := vdo_congr (st' := ⟨s, (tr i).h⟩) (hlook _) rfl hgo
        obtain ⟨v2, h3, h4⟩ := vdo_quiet hk0 h2 (tr K).h (tr K).h.next
        refine ⟨v2, K, h4, fun d hd => ?_, .inr ⟨rfl, rfl⟩⟩
        rw [← hdone h1 d hd]
        have e1 := congrArg (fun x : St => x.get d) h3
        simp only [St.get_put, if_pos hd] at e1
        exact e1.symm
      · have hk1 : o.op.kind = 1 := by
          have : o.op.kind = 0 ∨ o.op.kind = 1 ∨ o.op.kind = 2 := by
            cases o.op <;> simp [VOp.kind]
            · rename_i c x; cases c <;> simp
            · rename_i b x; cases b <;> simp
          omega
        have hmem : K ∈ looseKs l B i := by
          unfold looseKs
          rw [List.mem_filter]
          refine ⟨List.mem_range.2 (by have := hv.le; omega), ?_⟩
          rw [Bool.and_eq_true, Bool.and_eq_true, List.all_eq_true, List.any_eq_true]
          have actAt_true : ∀ {j : Nat}, actAt l j = true → ∃ y, l[j]? = some y ∧ y.acts = true := by
            intro j h
            unfold actAt at h
            split at h
            · rename_i y hy; exact ⟨y, hy, h⟩
            · cases h
          refine ⟨⟨?_, fun j hj => ?_⟩, ?_⟩
          · rcases hv.bound with h0 | ⟨y, hy, hay⟩
            · simp [h0]
            · simp [actAt, hy, hay]
          · cases ha : actAt l j with
            | false => rfl
            | true =>
              obtain ⟨y, hy, hay⟩ := actAt_true ha
              have hiff := hv.acts j y hy hay
              simp only [Bool.not_true, Bool.false_or, Bool.and_eq_true, Bool.or_eq_true, Bool.not_eq_true', Nat.blt_eq, Nat.ble_eq]
              constructor
              · by_cases hm : j ∈ B.getD i []
                · exact .inr (hiff.1 (hB j hm))
                · left
                  simpa using hm
              · by_cases hm : i ∈ B.getD j []
                · right
                  rcases Nat.lt_or_ge j K with h | h
                  · have := hv.closed j (hiff.2 h) i hm
                    rw [hi] at this; cases this
                  · exact h
                · left
                  simpa using hm
          · apply Classical.byContradiction
            intro hno
            apply hh
            have hnone : ∀ j y, l[j]? = some y → ((K ≤ j ∧ j < i) ∨ (i ≤ j ∧ j < K)) → y.acts = false := by
              intro j y hy hb
              cases hay : y.acts with
              | false => rfl
              | true =>
                exfalso
                apply hno
                refine ⟨j, List.mem_range.2 (List.getElem?_eq_some_iff.1 hy).1, ?_⟩
                simp only [actAt, hy, hay, Bool.true_and, Bool.or_eq_true, Bool.and_eq_true, Nat.ble_eq, Nat.blt_eq]
                exact hb
            rcases Nat.le_total K i with hle | hle
            · exact (g.heap hle (by omega) fun j y hy h1 h2 => hnone j y hy (.inl ⟨h1, h2⟩)).symm
            · exact g.heap hle hv.le fun j y hy h1 h2 => hnone j y hy (.inr ⟨h1, h2⟩)
        obtain ⟨s1, h1, h2⟩ := hL i o ho hk1 K hmem
        obtain ⟨v, h3, h4⟩ := vdo_congr (st := ⟨(tr i).s, (tr K).h⟩) (st' := ⟨s, (tr K).h⟩) (fun t ht => hlook (tr K).h t ht) rfl h1
        have hs1 : s1.h = (tr K).h := vdo_still (st := ⟨(tr i).s, (tr K).h⟩) hk2 h1
        refine ⟨v, K, by rw [h4, hs1], fun d hd => ?_, .inr ⟨rfl, rfl⟩⟩
        rw [← h2 d hd, h3, St.get_put, if_pos hd]

theorem ready_spec {md : Region.Mode} {i : Nat} (hs : listed.size = ops.size) : i ∈ Region.ready md ops listed ↔ i < ops.size ∧ listed.getD i false = false ∧ ∃ o, ops[i]? = some o ∧ ∀ e ∈ o.after.toList, Region.binds md e = true → listed.getD e.on false = true := by
  unfold Region.ready
  rw [List.mem_filter, List.mem_range]
  constructor
  · rintro ⟨h1, h2⟩
    rw [Bool.and_eq_true] at h2
    refine ⟨h1, ?_, ?_⟩
    · have := h2.1
      rw [Array.getD_eq_getD_getElem?, Array.getElem?_eq_getElem (by omega)] at this ⊢
      simpa using this
    · have h3 := h2.2
      rw [Array.getElem?_eq_getElem h1] at h3 ⊢
      refine ⟨_, rfl, fun e he hb => ?_⟩
      simp only [Option.map_some, Option.getD_some, Array.all_eq_true'] at h3
      have := h3 e (by simpa using he)
      simpa [hb] using this
  · rintro ⟨h1, h2, o, h3, h4⟩
    refine ⟨h1, ?_⟩
    rw [Bool.and_eq_true]
    constructor
    · rw [Array.getD_eq_getD_getElem?, Array.getElem?_eq_getElem (by omega)] at h2 ⊢
      simpa using h2
    · rw [h3]
      simp only [Option.map_some, Option.getD_some, Array.all_eq_true']
      intro e he
      cases hb : Region.binds md e with
      | false => rfl
      | true => simpa [hb] using h4 e (by simpa using he) hb

theorem mem_edges {o : Oper} {x : Nat} : x ∈ edges o ↔ ∃ e ∈ o.after.toList, Region.binds .any e = true ∧ e.on = x := by
  simp only [edges, List.mem_map, List.mem_filter]
  constructor
  · rintro ⟨e, ⟨h1, h2⟩, h3⟩; exact ⟨e, h1, h2, h3⟩
  · rintro ⟨e, h1, h2, h3⟩; exact ⟨e, ⟨h1, h2⟩, h3⟩

theorem all_listed (hs : listed.size = ops.size) (hD : Drawn ops l B) (hr : Region.ready .any ops listed = []) : ∀ i, i < ops.size → listed.getD i false = true := by
  intro i
  induction i using Nat.strongRecOn with
  | _ i ih =>
    intro hi
    apply Classical.byContradiction
    intro hn
    have : i ∈ Region.ready .any ops listed := by
      rw [ready_spec hs]
      refine ⟨hi, by simpa using hn, ops[i], Array.getElem?_eq_getElem hi, fun e he hb => ?_⟩
      have hlt := hD.first i ops[i] (Array.getElem?_eq_getElem hi) e.on (mem_edges.2 ⟨e, he, hb, rfl⟩)
      exact ih e.on hlt (by omega)
    rw [hr] at this
    cases this

def cnt (listed : Array Bool) (n : Nat) : Nat := (List.range n).countP fun i => !listed.getD i false
theorem cnt_lt : ∀ (k : List Nat) (p q : Nat → Bool) (i : Nat), (∀ x, q x = true → p x = true) → i ∈ k → p i = true → q i = false → k.countP q < k.countP p
  | [], _, _, i, _, h, _, _ => by cases h
  | x :: k, p, q, i, hm, hi, hp, hq => by
    rw [List.countP_cons, List.countP_cons]
    have hle : k.countP q ≤ k.countP p := List.countP_mono_left fun x _ h => hm x h
    rcases List.mem_cons.1 hi with rfl | hi'
    · rw [hp, hq]; simp; omega
    · have := cnt_lt k p q i hm hi' hp hq
      by_cases hqx : q x = true
      · rw [if_pos hqx, if_pos (hm x hqx)]; omega
      · rw [if_neg hqx]; omega

theorem any_ok (hcall : CallOk P call) (hl : cOpers P nt ops = some l) (g : Goes call l tr) (hL : Loose call l B tr) (hD : Drawn ops l B) {Q : Exit → Act → World → Prop} {φ0 : Env} {w0 : World} {H0 : Heap} {a0 : Act}
    (hQ : ∀ φ' a' w', SR φ' w' nt (tr ops.size) a' → HR φ' w' (tr ops.size).h → UpdH φ0 w0 H0 φ' w' (tr ops.size).h → a'.defers = a0.defers → Q .normal a' w') :
    ∀ (fuel : Nat) {listed : Array Bool} {s : T AV} {K : Nat} {φ : Env} {w : World} {a : Act}, Inv ops l B tr listed s K → SR φ w nt ⟨s, (tr K).h⟩ a → HR φ w (tr K).h → UpdH φ0 w0 H0 φ w (tr K).h → a.defers = a0.defers → cnt listed ops.size ≤ fuel → wpAny P .any ops Q fuel listed a w := by
  have hrel := rel_all hl
  have hlen : l.length = ops.size := by
    have : ∀ {is : List Nat} {vs : List VO}, Rel P nt ops is vs → is.length = vs.length := by
      intro is vs h
      induction h with
      | nil => rfl
      | cons _ _ _ ih => simp [ih]
    rw [← this hrel, List.length_range]
  have hat : ∀ i, i < ops.size → ∃ o vo, ops[i]? = some o ∧ l[i]? = some vo ∧ cOper P nt ops o = some vo := by
    have : ∀ {is : List Nat} {vs : List VO}, Rel P nt ops is vs → ∀ (j i : Nat), is[j]? = some i → ∃ o vo, ops[i]? = some o ∧ vs[j]? = some vo ∧ cOper P nt ops o = some vo := by
      intro is vs h
      induction h with
      | nil => intro j i h; simp at h
      | cons h1 h2 _ ih =>
        intro j i h
        cases j with
        | zero => simp at h; subst h; exact ⟨_, _, h1, rfl, h2⟩
        | succ j => simpa using ih j i (by simpa using h)
    intro i hi
    exact this hrel i i (by simp [hi])
  have done : ∀ {listed : Array Bool} {s : T AV} {K : Nat} {φ : Env} {w : World} {a : Act}, Inv ops l B tr listed s K → SR φ w nt ⟨s, (tr K).h⟩ a → HR φ w (tr K).h → UpdH φ0 w0 H0 φ w (tr K).h → a.defers = a0.defers → Region.ready .any ops listed = [] → Q .normal a w := by
    intro listed s K φ w a hv hs hr hu hd hready
    have hall := all_listed hv.size hD hready
    have hh : (tr ops.size).h = (tr K).h := by
      have hKle := hv.le
      refine g.heap (by omega) (by omega) fun j y hy h1 h2 => ?_
      cases hay : y.acts with
      | false => rfl
      | true =>
        have := (hv.acts j y hy hay).1 (hall j h2)
        omega
    have hg : ∀ t, (tr ops.size).get t = St.get ⟨s, (tr K).h⟩ t := by
      intro t
      show _ = St.get ⟨s, (tr 0).h⟩ t
      by_cases hex : ∃ (j : Nat) (y : VO), l[j]? = some y ∧ y.dst = some t
      · obtain ⟨j, y, hy, hdy⟩ := hex
        have hj : j < l.length := (List.getElem?_eq_some_iff.1 hy).1
        rw [g.got hD hy hdy (by omega) (by omega), hv.got j y t hy (hall j (by omega)) hdy]
      · rw [g.old (by omega) fun j y hy _ hdy => hex ⟨j, y, hy, hdy⟩, hv.old t fun j y hy _ hdy => hex ⟨j, y, hy, hdy⟩]
    exact hQ φ a w ⟨hs.size, fun t => by rw [hg]; exact hs.get t⟩ (by rw [hh]; exact hr) (by rw [hh]; exact hu) hd
  intro fuel
  induction fuel with
  | zero =>
    intro listed s K φ w a hv hs hr hu hd hc
    have hready : Region.ready .any ops listed = [] := by
      cases hrd : Region.ready .any ops listed with
      | nil => rfl
      | cons i is =>
        exfalso
        have hi : i ∈ Region.ready .any ops listed := by rw [hrd]; exact .head _
        obtain ⟨h1, h2, _⟩ := (ready_spec hv.size).1 hi
        have : 0 < cnt listed ops.size := List.countP_pos_iff.2 ⟨i, List.mem_range.2 h1, by rw [h2]; rfl⟩
        omega
    exact ⟨hready, done hv hs hr hu hd hready⟩
  | succ fuel ih =>
    intro listed s K φ w a hv hs hr hu hd hc
    refine ⟨fun hready => done hv hs hr hu hd hready, fun i hi => ?_⟩
    obtain ⟨h1, h2, o', ho', hedge⟩ := (ready_spec hv.size).1 hi
    obtain ⟨o, vo, ho, hvo, hco⟩ := hat i h1
    rw [ho] at ho'
    have eo : o = o' := Option.some.inj ho'
    subst eo
    have hB : ∀ j ∈ B.getD i [], listed.getD j false = true := by
      intro j hj
      obtain ⟨e, he, h⟩ := hD.close i o ho j hj
      obtain ⟨e', he1, he2, rfl⟩ := mem_edges.1 he
      have hle := hedge e' he1 he2
      rcases h with rfl | h
      · exact hle
      · exact hv.closed _ hle j h
    obtain ⟨v, K', e1, e2, e3⟩ := hv.step g hL hD hvo h2 hB
    have hv' := hv.next hD hvo h1 h2 hB e2 e3 (tr K').h
    unfold wpOp
    rw [ho]
    simp only
    refine vdo_ok hcall hco hs hr (hr.next _ (Nat.le_refl _)) e1 fun φ' a' w' hs' hr' hu' hd' => ?_
    rw [St.put_h] at hr' hu'
    refine ih hv' ?_ hr' (hu.trans hu') (hd'.trans hd) ?_
    · exact ⟨hs'.size, hs'.get⟩
    · have : cnt (listed.setIfInBounds i true) ops.size < cnt listed ops.size := by
        refine cnt_lt _ _ _ i (fun x hx => ?_) (List.mem_range.2 h1) (by rw [h2]; rfl) ?_
        · rw [set_getD _ (by rw [hv.size]; exact h1)] at hx
          by_cases e : x = i
          · rw [if_pos e] at hx; cases hx
          · rw [if_neg e] at hx; exact hx
        · rw [set_getD _ (by rw [hv.size]; exact h1), if_pos rfl]; rfl
      omega

end
end Go.Proofs.Ytinonmcnofjeeaa.VM
