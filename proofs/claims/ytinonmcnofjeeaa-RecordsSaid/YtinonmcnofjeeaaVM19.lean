/- Regions whose order is drawn: the join. -/
import Derived.Test.YtinonmcnofjeeaaVM16
import Derived.Test.YtinonmcnofjeeaaVM18a
import Derived.Below
namespace Go.Proofs.Ytinonmcnofjeeaa.VM
set_option linter.unusedSimpArgs false
set_option linter.unusedVariables false
set_option linter.defProp false
set_option maxHeartbeats 1000000
open Go.RowKit

section
variable {P : Program} {nt : Nat} {ops : Array Oper} {l : List VO} {B : List (List Nat)} {call : Nat → List AV → Heap → Option (AV × Heap)} {tr : Nat → St} {listed : Array Bool} {s : T AV} {K : Nat}

/-- the check of a look that has no place in the order -/
def Loose (call : Nat → List AV → Heap → Option (AV × Heap)) (l : List VO) (B : List (List Nat)) (tr : Nat → St) : Prop :=
  ∀ (i : Nat) (o : VO), l[i]? = some o → o.op.kind = 1 → ∀ k ∈ looseKs l B i, ∃ s1, vdo call ⟨(tr i).s, (tr k).h⟩ (tr k).h.next o = some s1 ∧ ∀ d, o.dst = some d → s1.get d = (tr (i + 1)).get d

theorem Inv.step (hv : Inv ops l B tr listed s K) (g : Goes call l tr) (hL : Loose call l B tr) (hD : Drawn ops l B) {i : Nat} {o : VO} (ho : l[i]? = some o) (hi : listed.getD i false = false) (hB : ∀ j ∈ B.getD i [], listed.getD j false = true) :
    ∃ v K', vdo call ⟨s, (tr K).h⟩ (tr K).h.next o = some (St.put ⟨s, (tr K').h⟩ o.dst v) ∧ (∀ d, o.dst = some d → v = (tr (i + 1)).get d) ∧ ((o.acts = true ∧ K' = i + 1) ∨ (o.acts = false ∧ K' = K)) := by
  have hil : i < l.length := (List.getElem?_eq_some_iff.1 ho).1
  have hlook : ∀ h, ∀ t ∈ o.looks, (tr i).get t = St.get ⟨s, h⟩ t := fun h t ht => (hv.looks g hD ho hi hB ht).symm
  have hgo := g i o ho
  have hdone : ∀ {v : AV} {x : St}, tr (i + 1) = St.put x o.dst v → ∀ d, o.dst = some d → v = (tr (i + 1)).get d := by
    intro v x hx d hd
    rw [hx, St.get_put, if_pos hd]
  -- where memory is the same
  have same : (tr K).h = (tr i).h → ∃ v, vdo call ⟨s, (tr K).h⟩ (tr K).h.next o = some (St.put ⟨s, (tr (i + 1)).h⟩ o.dst v) ∧ ∀ d, o.dst = some d → v = (tr (i + 1)).get d := by
    intro hh
    obtain ⟨v, h1, h2⟩ := vdo_congr (st' := ⟨s, (tr K).h⟩) (hlook _) hh.symm hgo
    exact ⟨v, by rw [hh] at h2 ⊢; exact h2, hdone h1⟩
  have act_listed : ∀ {j : Nat} {y : VO}, l[j]? = some y → y.acts = true → j < K → listed.getD j false = true := fun hy ha h => (hv.acts _ _ hy ha).2 h
  cases hact : o.acts with
  | true =>
    have hh : (tr K).h = (tr i).h := by
      by_cases hKi : K ≤ i
      · refine (g.heap hKi (by omega) fun j y hy h1 h2 => ?_).symm
        cases hay : y.acts with
        | false => rfl
        | true =>
          have := hB j (hD.acts j i y o hy ho hay hact h2)
          have := (hv.acts j y hy hay).1 this
          omega
      · rcases hv.bound with h0 | ⟨y, hy, hay⟩
        · omega
        · have h1 := act_listed hy hay (by omega)
          by_cases e : K - 1 = i
          · rw [e, hi] at h1; cases h1
          · have := hv.closed _ h1 i (hD.acts i (K - 1) o y ho hy hact hay (by omega))
            rw [hi] at this; cases this
    obtain ⟨v, h1, h2⟩ := same hh
    exact ⟨v, i + 1, h1, h2, .inl ⟨rfl, rfl⟩⟩
  | false =>
    have hk2 : o.op.kind ≠ 2 := by
      intro e
      simp [VO.acts, e] at hact
    have hst : (tr (i + 1)).h = (tr i).h := vdo_still hk2 hgo
    by_cases hh : (tr K).h = (tr i).h
    · obtain ⟨v, h1, h2⟩ := same hh
      exact ⟨v, K, by rw [h1, hst, hh], h2, .inr ⟨rfl, rfl⟩⟩
    · by_cases hk0 : o.op.kind = 0
      · obtain ⟨v, h1, h2⟩ := vdo_congr (st' := ⟨s, (tr i).h⟩) (hlook _) rfl hgo
        obtain ⟨v2, h3, h4⟩ := vdo_quiet hk0 h2 (tr K).h (tr K).h.next
        refine ⟨v2, K, h4, fun d hd => ?_, .inr ⟨rfl, rfl⟩⟩
        rw [← hdone h1 d hd]
        have e1 := congrArg (fun x : St => x.get d) h3
        simp only [St.get_put, if_pos hd] at e1
        exact e1.symm
      · have hk1 : o.op.kind = 1 := by
          have : o.op.kind = 0 ∨ o.op.kind = 1 ∨ o.op.kind = 2 := by
            cases o.op <;> simp [VOp.kind]
            · rename_i c x; cases c <;> simp
            · rename_i b x; cases b <;> simp
          omega
        have hmem : K ∈ looseKs l B i := by
          unfold looseKs
          rw [List.mem_filter]
          refine ⟨List.mem_range.2 (by have := hv.le; omega), ?_⟩
          rw [Bool.and_eq_true, Bool.and_eq_true, List.all_eq_true, List.any_eq_true]
          have actAt_true : ∀ {j : Nat}, actAt l j = true → ∃ y, l[j]? = some y ∧ y.acts = true := by
            intro j h
            unfold actAt at h
            split at h
            · rename_i y hy; exact ⟨y, hy, h⟩
            · cases h
          refine ⟨⟨?_, fun j hj => ?_⟩, ?_⟩
          · rcases hv.bound with h0 | ⟨y, hy, hay⟩
            · simp [h0]
            · simp [actAt, hy, hay]
          · cases ha : actAt l j with
            | false => rfl
            | true =>
              obtain ⟨y, hy, hay⟩ := actAt_true ha
              have hiff := hv.acts j y hy hay
              simp only [Bool.not_true, Bool.false_or, Bool.and_eq_true, Bool.or_eq_true, Bool.not_eq_true', Nat.blt_eq, Nat.ble_eq]
              constructor
              · by_cases hm : j ∈ B.getD i []
                · exact .inr (hiff.1 (hB j hm))
                · left
                  simpa using hm
              · by_cases hm : i ∈ B.getD j []
                · right
                  rcases Nat.lt_or_ge j K with h | h
                  · have := hv.closed j (hiff.2 h) i hm
                    rw [hi] at this; cases this
                  · exact h
                · left
                  simpa using hm
          · apply Classical.byContradiction
            intro hno
            apply hh
            have hnone : ∀ j y, l[j]? = some y → ((K ≤ j ∧ j < i) ∨ (i ≤ j ∧ j < K)) → y.acts = false := by
              intro j y hy hb
              cases hay : y.acts with
              | false => rfl
              | true =>
                exfalso
                apply hno
                refine ⟨j, List.mem_range.2 (List.getElem?_eq_some_iff.1 hy).1, ?_⟩
                simp only [actAt, hy, hay, Bool.true_and, Bool.or_eq_true, Bool.and_eq_true, Nat.ble_eq, Nat.blt_eq]
                exact hb
            rcases Nat.le_total K i with hle | hle
            · exact (g.heap hle (by omega) fun j y hy h1 h2 => hnone j y hy (.inl ⟨h1, h2⟩)).symm
            · exact g.heap hle hv.le fun j y hy h1 h2 => hnone j y hy (.inr ⟨h1, h2⟩)
        obtain ⟨s1, h1, h2⟩ := hL i o ho hk1 K hmem
        obtain ⟨v, h3, h4⟩ := vdo_congr (st := ⟨(tr i).s, (tr K).h⟩) (st' := ⟨s, (tr K).h⟩) (fun t ht => hlook (tr K).h t ht) rfl h1
        have hs1 : s1.h = (tr K).h := vdo_still (st := ⟨(tr i).s, (tr K).h⟩) hk2 h1
        refine ⟨v, K, by rw [h4, hs1], fun d hd => ?_, .inr ⟨rfl, rfl⟩⟩
        rw [← h2 d hd, h3, St.get_put, if_pos hd]

theorem ready_spec {md : Region.Mode} {i : Nat} (hs : listed.size = ops.size) : i ∈ Region.ready md ops listed ↔ i < ops.size ∧ listed.getD i false = false ∧ ∃ o, ops[i]? = some o ∧ ∀ e ∈ o.after.toList, Region.binds md e = true → listed.getD e.on false = true := by
  unfold Region.ready
  rw [List.mem_filter, List.mem_range]
  constructor
  · rintro ⟨h1, h2⟩
    rw [Bool.and_eq_true] at h2
    refine ⟨h1, ?_, ?_⟩
    · have := h2.1
      rw [Array.getD_eq_getD_getElem?, Array.getElem?_eq_getElem (by omega)] at this ⊢
      simpa using this
    · have h3 := h2.2
      rw [Array.getElem?_eq_getElem h1] at h3 ⊢
      refine ⟨_, rfl, fun e he hb => ?_⟩
      simp only [Option.map_some, Option.getD_some, Array.all_eq_true'] at h3
      have := h3 e (by simpa using he)
      simpa [hb] using this
  · rintro ⟨h1, h2, o, h3, h4⟩
    refine ⟨h1, ?_⟩
    rw [Bool.and_eq_true]
    constructor
    · rw [Array.getD_eq_getD_getElem?, Array.getElem?_eq_getElem (by omega)] at h2 ⊢
      simpa using h2
    · rw [h3]
      simp only [Option.map_some, Option.getD_some, Array.all_eq_true']
      intro e he
      cases hb : Region.binds md e with
      | false => rfl
      | true => simpa [hb] using h4 e (by simpa using he) hb

theorem mem_edges {o : Oper} {x : Nat} : x ∈ edges o ↔ ∃ e ∈ o.after.toList, Region.binds .any e = true ∧ e.on = x := by
  simp only [edges, List.mem_map, List.mem_filter]
  constructor
  · rintro ⟨e, ⟨h1, h2⟩, h3⟩; exact ⟨e, h1, h2, h3⟩
  · rintro ⟨e, h1, h2, h3⟩; exact ⟨e, ⟨h1, h2⟩, h3⟩

theorem all_listed (hs : listed.size = ops.size) (hD : Drawn ops l B) (hr : Region.ready .any ops listed = []) : ∀ i, i < ops.size → listed.getD i false = true := by
  intro i
  induction i using Nat.strongRecOn with
  | _ i ih =>
    intro hi
    apply Classical.byContradiction
    intro hn
    have : i ∈ Region.ready .any ops listed := by
      rw [ready_spec hs]
      refine ⟨hi, by simpa using hn, ops[i], Array.getElem?_eq_getElem hi, fun e he hb => ?_⟩
      have hlt := hD.first i ops[i] (Array.getElem?_eq_getElem hi) e.on (mem_edges.2 ⟨e, he, hb, rfl⟩)
      exact ih e.on hlt (by omega)
    rw [hr] at this
    cases this

def cnt (listed : Array Bool) (n : Nat) : Nat := (List.range n).countP fun i => !listed.getD i false
theorem cnt_lt : ∀ (k : List Nat) (p q : Nat → Bool) (i : Nat), (∀ x, q x = true → p x = true) → i ∈ k → p i = true → q i = false → k.countP q < k.countP p
  | [], _, _, i, _, h, _, _ => by cases h
  | x :: k, p, q, i, hm, hi, hp, hq => by
    rw [List.countP_cons, List.countP_cons]
    have hle : k.countP q ≤ k.countP p := List.countP_mono_left fun x _ h => hm x h
    rcases List.mem_cons.1 hi with rfl | hi'
    · rw [hp, hq]; simp; omega
    · have := cnt_lt k p q i hm hi' hp hq
      by_cases hqx : q x = true
      · rw [if_pos hqx, if_pos (hm x hqx)]; omega
      · rw [if_neg hqx]; omega

theorem any_ok (hcall : CallOk P call) (hl : cOpers P nt ops = some l) (g : Goes call l tr) (hL : Loose call l B tr) (hD : Drawn ops l B) {Q : Exit → Act → World → Prop} {φ0 : Env} {w0 : World} {H0 : Heap} {a0 : Act}
    (hQ : ∀ φ' a' w', SR φ' w' nt (tr ops.size) a' → HR φ' w' (tr ops.size).h → UpdH φ0 w0 H0 φ' w' (tr ops.size).h → a'.defers = a0.defers → Q .normal a' w') :
    ∀ (fuel : Nat) {listed : Array Bool} {s : T AV} {K : Nat} {φ : Env} {w : World} {a : Act}, Inv ops l B tr listed s K → SR φ w nt ⟨s, (tr K).h⟩ a → HR φ w (tr K).h → UpdH φ0 w0 H0 φ w (tr K).h → a.defers = a0.defers → cnt listed ops.size ≤ fuel → wpAny P .any ops Q fuel listed a w := by
  have hrel := rel_all hl
  have hlen : l.length = ops.size := by
    have : ∀ {is : List Nat} {vs : List VO}, Rel P nt ops is vs → is.length = vs.length := by
      intro is vs h
      induction h with
      | nil => rfl
      | cons _ _ _ ih => simp [ih]
    rw [← this hrel, List.length_range]
  have hat : ∀ i, i < ops.size → ∃ o vo, ops[i]? = some o ∧ l[i]? = some vo ∧ cOper P nt ops o = some vo := by
    have : ∀ {is : List Nat} {vs : List VO}, Rel P nt ops is vs → ∀ (j i : Nat), is[j]? = some i → ∃ o vo, ops[i]? = some o ∧ vs[j]? = some vo ∧ cOper P nt ops o = some vo := by
      intro is vs h
      induction h with
      | nil => intro j i h; simp at h
      | cons h1 h2 _ ih =>
        intro j i h
        cases j with
        | zero => simp at h; subst h; exact ⟨_, _, h1, rfl, h2⟩
        | succ j => simpa using ih j i (by simpa using h)
    intro i hi
    exact this hrel i i (by simp [hi])
  have done : ∀ {listed : Array Bool} {s : T AV} {K : Nat} {φ : Env} {w : World} {a : Act}, Inv ops l B tr listed s K → SR φ w nt ⟨s, (tr K).h⟩ a → HR φ w (tr K).h → UpdH φ0 w0 H0 φ w (tr K).h → a.defers = a0.defers → Region.ready .any ops listed = [] → Q .normal a w := by
    intro listed s K φ w a hv hs hr hu hd hready
    have hall := all_listed hv.size hD hready
    have hh : (tr ops.size).h = (tr K).h := by
      have hKle := hv.le
      refine g.heap (by omega) (by omega) fun j y hy h1 h2 => ?_
      cases hay : y.acts with
      | false => rfl
      | true =>
        have := (hv.acts j y hy hay).1 (hall j h2)
        omega
    have hg : ∀ t, (tr ops.size).get t = St.get ⟨s, (tr K).h⟩ t := by
      intro t
      show _ = St.get ⟨s, (tr 0).h⟩ t
      by_cases hex : ∃ (j : Nat) (y : VO), l[j]? = some y ∧ y.dst = some t
      · obtain ⟨j, y, hy, hdy⟩ := hex
        have hj : j < l.length := (List.getElem?_eq_some_iff.1 hy).1
        rw [g.got hD hy hdy (by omega) (by omega), hv.got j y t hy (hall j (by omega)) hdy]
      · rw [g.old (by omega) fun j y hy _ hdy => hex ⟨j, y, hy, hdy⟩, hv.old t fun j y hy _ hdy => hex ⟨j, y, hy, hdy⟩]
    exact hQ φ a w ⟨hs.size, fun t => by rw [hg]; exact hs.get t⟩ (by rw [hh]; exact hr) (by rw [hh]; exact hu) hd
  intro fuel
  induction fuel with
  | zero =>
    intro listed s K φ w a hv hs hr hu hd hc
    have hready : Region.ready .any ops listed = [] := by
      cases hrd : Region.ready .any ops listed with
      | nil => rfl
      | cons i is =>
        exfalso
        have hi : i ∈ Region.ready .any ops listed := by rw [hrd]; exact .head _
        obtain ⟨h1, h2, _⟩ := (ready_spec hv.size).1 hi
        have : 0 < cnt listed ops.size := List.countP_pos_iff.2 ⟨i, List.mem_range.2 h1, by rw [h2]; rfl⟩
        omega
    exact ⟨hready, done hv hs hr hu hd hready⟩
  | succ fuel ih =>
    intro listed s K φ w a hv hs hr hu hd hc
    refine ⟨fun hready => done hv hs hr hu hd hready, fun i hi => ?_⟩
    obtain ⟨h1, h2, o', ho', hedge⟩ := (ready_spec hv.size).1 hi
    obtain ⟨o, vo, ho, hvo, hco⟩ := hat i h1
    rw [ho] at ho'
    have eo : o = o' := Option.some.inj ho'
    subst eo
    have hB : ∀ j ∈ B.getD i [], listed.getD j false = true := by
      intro j hj
      obtain ⟨e, he, h⟩ := hD.close i o ho j hj
      obtain ⟨e', he1, he2, rfl⟩ := mem_edges.1 he
      have hle := hedge e' he1 he2
      rcases h with rfl | h
      · exact hle
      · exact hv.closed _ hle j h
    obtain ⟨v, K', e1, e2, e3⟩ := hv.step g hL hD hvo h2 hB
    have hv' := hv.next hD hvo h1 h2 hB e2 e3 (tr K').h
    unfold wpOp
    rw [ho]
    simp only
    refine vdo_ok hcall hco hs hr (hr.next _ (Nat.le_refl _)) e1 fun φ' a' w' hs' hr' hu' hd' => ?_
    rw [St.put_h] at hr' hu'
    refine ih hv' ?_ hr' (hu.trans hu') (hd'.trans hd) ?_
    · exact ⟨hs'.size, hs'.get⟩
    · have : cnt (listed.setIfInBounds i true) ops.size < cnt listed ops.size := by
        refine cnt_lt _ _ _ i (fun x hx => ?_) (List.mem_range.2 h1) (by rw [h2]; rfl) ?_
        · rw [set_getD _ (by rw [hv.size]; exact h1)] at hx
          by_cases e : x = i
          · rw [if_pos e] at hx; cases hx
          · rw [if_neg e] at hx; exact hx
        · rw [set_getD _ (by rw [hv.size]; exact h1), if_pos rfl]; rfl
      omega

end
open Go.RowKit
section
variable {ops : Array Oper} {l : List VO} {B : List (List Nat)} {call : Nat → List AV → Heap → Option (AV × Heap)} {base : Nat} {tr : Nat → St} {listed : Array Bool} {s : T AV} {K : Nat}
theorem name_calm {i : Nat} {o : VO} {h : Heap} (hf : o.op.fresh = false) : nameAt base i o h = h.next := by unfold nameAt; rw [hf]; rfl
/-- the first act behind K that is there at all -/
theorem first_act {P : Nat → Prop} : ∀ j, P j → ∃ i, P i ∧ i ≤ j ∧ ∀ k, P k → i ≤ k := by
  intro j
  induction j using Nat.strongRecOn with
  | _ j ih =>
    intro hj
    by_cases h : ∃ i, P i ∧ i < j
    · obtain ⟨i, h1, h2⟩ := h
      obtain ⟨k, a, b, c⟩ := ih i h2 h1
      exact ⟨k, a, by omega, c⟩
    · exact ⟨j, hj, Nat.le_refl _, fun k hk => by
        rcases Nat.lt_or_ge k j with h' | h'
        · exact absurd ⟨k, hk, h'⟩ h
        · exact h'⟩
theorem Stands.none_between (hs : Stands l listed K) {i : Nat} (h : ∀ (x : Nat) (y : VO), l[x]? = some y → y.acts = true → x < i → listed.getD x false = true) : ∀ (x : Nat) (y : VO), l[x]? = some y → K ≤ x → x < i → y.acts = false := by
  intro x y hx h1 h2
  cases ha : y.acts with
  | false => rfl
  | true =>
    exfalso
    obtain ⟨f, ⟨hKf, z, hz, hza⟩, hfx, hmin⟩ := first_act (P := fun f => K ≤ f ∧ ∃ z, l[f]? = some z ∧ z.acts = true) x ⟨h1, y, hx, ha⟩
    have h3 := hs.head f z hz hza hKf fun i' x' h4 h5 h6 => hmin i' ⟨h6, x', h4, h5⟩
    rw [h f z hz hza (by omega)] at h3
    cases h3
theorem Stands.step (hs : Stands l listed K) (hv : Slots ops l B tr listed s) (g : GoesM call base l tr) (hL : Loose call l B tr) (hD : Mixed ops l B) {i : Nat} {o : VO} (ho : l[i]? = some o) (hf : o.op.fresh = false) (hi : listed.getD i false = false) (hB : ∀ j ∈ B.getD i [], listed.getD j false = true) :
    ∃ v K', vdo call ⟨s, (tr K).h⟩ (tr K).h.next o = some (St.put ⟨s, (tr K').h⟩ o.dst v) ∧ (∀ d, o.dst = some d → v = (tr (i + 1)).get d) ∧ ((o.acts = true ∧ K' = i + 1 ∧ K ≤ i ∧ ∀ (x : Nat) (y : VO), l[x]? = some y → y.acts = true → x < i → listed.getD x false = true) ∨ (o.acts = false ∧ K' = K)) := by
  have hil : i < l.length := (List.getElem?_eq_some_iff.1 ho).1
  have hlook : ∀ h, ∀ t ∈ o.looks, (tr i).get t = St.get ⟨s, h⟩ t := fun h t ht => (hv.looks g hD ho hi hB ht).symm
  have hgo := g i o ho
  rw [name_calm hf] at hgo
  have hdone : ∀ {v : AV} {x : St}, tr (i + 1) = St.put x o.dst v → ∀ d, o.dst = some d → v = (tr (i + 1)).get d := by
    intro v x hx d hd
    rw [hx, St.get_put, if_pos hd]
  -- where memory is the same
  have same : (tr K).h = (tr i).h → ∃ v, vdo call ⟨s, (tr K).h⟩ (tr K).h.next o = some (St.put ⟨s, (tr (i + 1)).h⟩ o.dst v) ∧ ∀ d, o.dst = some d → v = (tr (i + 1)).get d := by
    intro hh
    obtain ⟨v, h1, h2⟩ := vdo_congr (st' := ⟨s, (tr K).h⟩) (hlook _) hh.symm hgo
    exact ⟨v, by rw [hh] at h2 ⊢; exact h2, hdone h1⟩
  cases hact : o.acts with
  | true =>
    have hall : ∀ (x : Nat) (y : VO), l[x]? = some y → y.acts = true → x < i → listed.getD x false = true := fun x y hx hy hlt => by
      rcases hD.acts x i y o hx ho hy hact hlt with h | h
      · exact hB x h
      · rw [hf] at h; cases h
    have hKi : K ≤ i := by
      rcases Nat.lt_or_ge i K with h | h
      · have := hs.pre i o ho hact h
        rw [hi] at this; cases this
      · exact h
    have hh : (tr K).h = (tr i).h := (g.heap hKi (by omega) fun j y hy h1 h2 => hs.none_between hall j y hy h1 h2).symm
    obtain ⟨v, h1, h2⟩ := same hh
    exact ⟨v, i + 1, h1, h2, .inl ⟨rfl, rfl, hKi, hall⟩⟩
  | false =>
    have hk2 : o.op.kind ≠ 2 := by
      intro e
      simp [VO.acts, e] at hact
    have hst : (tr (i + 1)).h = (tr i).h := vdo_still hk2 hgo
    by_cases hh : (tr K).h = (tr i).h
    · obtain ⟨v, h1, h2⟩ := same hh
      exact ⟨v, K, by rw [h1, hst, hh], h2, .inr ⟨rfl, rfl⟩⟩
    · by_cases hk0 : o.op.kind = 0
      · obtain ⟨v, h1, h2⟩ := vdo_congr (st' := ⟨s, (tr i).h⟩) (hlook _) rfl hgo
        obtain ⟨v2, h3, h4⟩ := vdo_quiet hk0 h2 (tr K).h (tr K).h.next
        refine ⟨v2, K, h4, fun d hd => ?_, .inr ⟨rfl, rfl⟩⟩
        rw [← hdone h1 d hd]
        have e1 := congrArg (fun x : St => x.get d) h3
        simp only [St.get_put, if_pos hd] at e1
        exact e1.symm
      · have hk1 : o.op.kind = 1 := by
          have : o.op.kind = 0 ∨ o.op.kind = 1 ∨ o.op.kind = 2 := by
            cases o.op <;> simp [VOp.kind]
            · rename_i c x; cases c <;> simp
            · rename_i b x; cases b <;> simp
          omega
        have hmem : K ∈ looseKs l B i := by
          unfold looseKs
          rw [List.mem_filter]
          refine ⟨List.mem_range.2 (by have := hs.le; omega), ?_⟩
          rw [Bool.and_eq_true, Bool.and_eq_true, List.all_eq_true, List.any_eq_true]
          have actAt_true : ∀ {j : Nat}, actAt l j = true → ∃ y, l[j]? = some y ∧ y.acts = true := by
            intro j h
            unfold actAt at h
            split at h
            · rename_i y hy; exact ⟨y, hy, h⟩
            · cases h
          refine ⟨⟨?_, fun j hj => ?_⟩, ?_⟩
          · rcases hs.bound with h0 | ⟨y, hy, hay⟩
            · simp [h0]
            · simp [actAt, hy, hay]
          · cases ha : actAt l j with
            | false => rfl
            | true =>
              obtain ⟨y, hy, hay⟩ := actAt_true ha
              simp only [Bool.not_true, Bool.false_or, Bool.and_eq_true, Bool.or_eq_true, Bool.not_eq_true', Nat.blt_eq, Nat.ble_eq]
              constructor
              · by_cases hm : j ∈ B.getD i []
                · right
                  rcases Nat.lt_or_ge j K with h | h
                  · exact h
                  · exfalso
                    obtain ⟨f, ⟨hKf, z, hz, hza⟩, hfx, hmin⟩ := first_act (P := fun f => K ≤ f ∧ ∃ z, l[f]? = some z ∧ z.acts = true) j ⟨h, y, hy, hay⟩
                    have h3 := hs.head f z hz hza hKf fun i' x' h4 h5 h6 => hmin i' ⟨h6, x', h4, h5⟩
                    have h4 : f ∈ B.getD i [] := by
                      by_cases e : f = j
                      · rw [e]; exact hm
                      · exact hD.behind i j f o y z ho hk1 hy hay hm hz hza (by omega)
                    rw [hB f h4] at h3
                    cases h3
                · left
                  simpa using hm
              · by_cases hm : i ∈ B.getD j []
                · right
                  rcases Nat.lt_or_ge j K with h | h
                  · have := hv.closed j (hs.pre j y hy hay h) i hm
                    rw [hi] at this; cases this
                  · exact h
                · left
                  simpa using hm
          · apply Classical.byContradiction
            intro hno
            apply hh
            have hnone : ∀ j y, l[j]? = some y → ((K ≤ j ∧ j < i) ∨ (i ≤ j ∧ j < K)) → y.acts = false := by
              intro j y hy hb
              cases hay : y.acts with
              | false => rfl
              | true =>
                exfalso
                apply hno
                refine ⟨j, List.mem_range.2 (List.getElem?_eq_some_iff.1 hy).1, ?_⟩
                simp only [actAt, hy, hay, Bool.true_and, Bool.or_eq_true, Bool.and_eq_true, Nat.ble_eq, Nat.blt_eq]
                exact hb
            rcases Nat.le_total K i with hle | hle
            · exact (g.heap hle (by omega) fun j y hy h1 h2 => hnone j y hy (.inl ⟨h1, h2⟩)).symm
            · exact g.heap hle hs.le fun j y hy h1 h2 => hnone j y hy (.inr ⟨h1, h2⟩)
        obtain ⟨s1, h1, h2⟩ := hL i o ho hk1 K hmem
        obtain ⟨v, h3, h4⟩ := vdo_congr (st := ⟨(tr i).s, (tr K).h⟩) (st' := ⟨s, (tr K).h⟩) (fun t ht => hlook (tr K).h t ht) rfl h1
        have hs1 : s1.h = (tr K).h := vdo_still (st := ⟨(tr i).s, (tr K).h⟩) hk2 h1
        refine ⟨v, K, by rw [h4, hs1], fun d hd => ?_, .inr ⟨rfl, rfl⟩⟩
        rw [← h2 d hd, h3, St.get_put, if_pos hd]

end
open Go.RowKit
section
variable {call : Nat → List AV → Heap → Option (AV × Heap)}
theorem fresh_enter {op : VOp} (hf : op.fresh = true) {st : St} {nm f : Nat} {args : List AV} : vop st nm op ≠ .enter f args := by
  intro hv
  cases op <;> simp only [VOp.fresh] at hf <;> try (cases hf; done)
  all_goals
    simp only [vop] at hv
    first
      | (cases hv; done)
      | ((repeat' (split at hv)) <;> cases hv)
theorem vdo_fresh {s : T AV} {H : Heap} {nm : Nat} {o : VO} {st' : St} (hf : o.op.fresh = true) (h : vdo call ⟨s, H⟩ nm o = some st') :
    (st' = St.put ⟨s, H⟩ o.dst .undef ∧ ∀ H', vdo call ⟨s, H'⟩ nm o = some (St.put ⟨s, H'⟩ o.dst .undef)) ∨
    (∃ v x, live (some x) = true ∧ st' = St.put ⟨s, H.mk' nm x⟩ o.dst v ∧ ∀ H', vdo call ⟨s, H'⟩ nm o = some (St.put ⟨s, H'.mk' nm x⟩ o.dst v)) := by
  have hw' : ∀ H', wanted ⟨s, H'⟩ o.guard = wanted ⟨s, H⟩ o.guard := fun H' => wanted_congr fun t _ => rfl
  unfold vdo at h ⊢
  cases hw : wanted ⟨s, H⟩ o.guard with
  | false =>
    rw [hw] at h
    left
    refine ⟨?_, fun H' => by rw [hw', hw]; rfl⟩
    have : St.put ⟨s, H⟩ o.dst .undef = st' := by simpa using h
    exact this.symm
  | true =>
    rw [hw, cond_true] at h
    right
    cases hv : vop ⟨s, H⟩ nm o.op with
    | fail => rw [hv] at h; cases h
    | enter f args => exact absurd hv (fresh_enter hf)
    | val v h1 =>
      rw [hv] at h
      obtain ⟨x, rfl, hx, hall⟩ := vop_fresh hf hv
      have : St.put ⟨s, H.mk' nm x⟩ o.dst v = st' := by simpa using h
      exact ⟨v, x, hx, this.symm, fun H' => by rw [hw', hw, cond_true, hall H']⟩
end
open Go.RowKit
section
variable {φ φ' : Env} {w w' : World} {H : Heap} {nm : Nat}
/-- back to the name kept ahead -/
theorem wait_hr {x : Blk} (hd : H.get nm = some .dead) (hn : ∀ b, H.next ≤ b → H.get b = none) (hr : HR φ' w' ((H.del nm).mk' nm x)) : HR φ' w' H := by
  have hk := kill_ok (b := nm) hr ⟨x, by rw [Heap.get_mk, if_pos rfl]⟩
  refine hk.ext (fun b => ?_) hn
  rw [Heap.get_put]
  by_cases e : b = nm
  · rw [if_pos e, e]; exact hd
  · rw [if_neg e, Heap.get_mk, if_neg e, Heap.get_del, if_neg e]
theorem wait_hr0 (hd : H.get nm = some .dead) (hn : ∀ b, H.next ≤ b → H.get b = none) (hr : HR φ' w' (H.del nm)) : HR φ' w' H := by
  refine ⟨fun b => ?_, hr.lt, fun b b' p p' h1 h2 => ?_, hn⟩
  · by_cases e : b = nm
    · rw [e, hd]; trivial
    · have := hr.blk b
      rw [Heap.get_del, if_neg e] at this
      exact this
  · have L : ∀ {d : Nat}, live (H.get d) = true → live ((H.del nm).get d) = true := by
      intro d h
      rw [Heap.get_del]
      by_cases e : d = nm
      · rw [e, hd] at h; cases h
      · rw [if_neg e]; exact h
    exact hr.inj b b' p p' (L h1) (L h2)
/-- its own block is new -/
theorem wait_new {x : Blk} (hx : live (some x) = true) (hr : HR φ' w' ((H.del nm).mk' nm x)) (u : UpdH φ w (H.del nm) φ' w' ((H.del nm).mk' nm x)) {p : Nat × Nat} (hp : φ' nm = some p) : w.heap.size ≤ p.1 := by
  rcases u.newL nm p.1 p.2 (by rw [Heap.get_mk, if_pos rfl]; exact hx) hp with ⟨b0, o0, h1, h2⟩ | h
  · exfalso
    have hne : b0 ≠ nm := fun e => by rw [e, Heap.get_del, if_pos rfl] at h1; cases h1
    have := hr.inj b0 nm (p.1, o0) p (by rw [Heap.get_mk, if_neg hne]; exact h1) (by rw [Heap.get_mk, if_pos rfl]; exact hx) (u.ext _ _ h2) hp rfl
    exact hne this
  · exact h
end
open Go.RowKit
section
variable {ops : Array Oper} {l : List VO} {base : Nat} {tr : Nat → St} {listed : Array Bool} {K : Nat} {w0 : World} {φ φ' : Env} {w w' : World}
theorem Waits.fresh (hw : Waits l base tr listed K w0 φ w) (hr : HR φ w (tr K).h) {i : Nat} {o : VO} (ho : l[i]? = some o) (hf : o.op.fresh = true) (hi : i < listed.size) (hK : K ≤ i) (hpre : ∀ (j : Nat) (x : VO), l[j]? = some x → x.op.fresh = true → j < K → listed.getD j false = true) {H1 : Heap} (u : UpdH φ w ((tr K).h.del (base + i)) φ' w' H1)
    (h0 : w0.heap.size ≤ w.heap.size) (hb : (tr (i + 1)).h = (tr i).h ∨ BR φ' w' (base + i) ((tr (i + 1)).h.get (base + i))) (hn : ∀ p, φ' (base + i) = some p → w.heap.size ≤ p.1) : Waits l base tr (listed.setIfInBounds i true) K w0 φ' w' := by
  have same : ∀ (j : Nat) (x : VO), l[j]? = some x → x.op.fresh = true → K ≤ j → j ≠ i → φ' (base + j) = φ (base + j) := fun j x hj hx hk hne => by
    have hd := hw.dead j x hj hx hk
    refine (u.deadL (base + j) ?_ ?_).2.2
    · rw [Heap.get_del, if_neg (by omega), hd]; simp
    · rw [Heap.get_del, if_neg (by omega), hd]; rfl
  have liveL : ∀ {b : Nat}, live (((tr K).h.del (base + i)).get b) = true → live ((tr K).h.get b) = true := by
    intro b h
    rw [Heap.get_del] at h
    by_cases e : b = base + i
    · rw [if_pos e] at h; cases h
    · rw [if_neg e] at h; exact h
  refine ⟨hw.dead, fun j x hj hx hk hl => ?_, fun j x hj hx hk hl p hp => ?_, fun j x hj hx hl => ?_⟩
  · by_cases e : j = i
    · rw [e]; exact hb
    · rw [set_getD _ hi, if_neg e] at hl
      refine (hw.wait j x hj hx hk hl).imp id fun hbr => hbr.keep u.toUpd (same j x hj hx hk e) fun p hp => ?_
      obtain ⟨_, h2, _⟩ := hw.own j x hj hx hk hl p hp
      exact u.keepL _ (hr.lt _ _ hp) fun b q hb hq => h2 b q (liveL hb) hq
  · -- whose block it is
    have old : ∀ b q, live ((tr K).h.get b) = true → φ' b = some q → φ b = some q := by
      intro b q hb' hq
      obtain ⟨q0, hq0⟩ := live_named hr hb'
      rw [u.ext _ _ hq0] at hq
      rw [hq0, hq]
    by_cases e : j = i
    · subst e
      refine ⟨Nat.le_trans h0 (hn p hp), fun b q hb' hq he => ?_, fun i' x' q hi' hx' hk' hl' hne hq he => ?_⟩
      · have := hr.lt _ _ (old b q hb' hq)
        have := hn p hp
        omega
      · rw [same i' x' hi' hx' hk' hne] at hq
        have := hr.lt _ _ hq
        have := hn p hp
        omega
    · rw [set_getD _ hi, if_neg e] at hl
      rw [same j x hj hx hk e] at hp
      obtain ⟨h1, h2, h3⟩ := hw.own j x hj hx hk hl p hp
      refine ⟨h1, fun b q hb' hq => h2 b q hb' (old b q hb' hq), fun i' x' q hi' hx' hk' hl' hne hq he => ?_⟩
      by_cases e' : i' = i
      · rw [e'] at hq
        have := hn q hq
        have := hr.lt _ _ hp
        omega
      · rw [set_getD _ hi, if_neg e'] at hl'
        rw [same i' x' hi' hx' hk' e'] at hq
        exact h3 i' x' q hi' hx' hk' hl' hne hq he
  · by_cases e : j = i
    · rw [e, set_getD _ hi, if_pos rfl] at hl; cases hl
    · rw [set_getD _ hi, if_neg e] at hl
      rcases Nat.lt_or_ge j K with h | h
      · rw [hpre j x hj hx h] at hl; cases hl
      · rw [same j x hj hx h e]
        exact hw.none j x hj hx hl
end
open Go.RowKit
section
variable {P : Program} {nt : Nat} {ops : Array Oper} {l : List VO} {B : List (List Nat)} {call : Nat → List AV → Heap → Option (AV × Heap)} {base : Nat} {tr : Nat → St} {listed : Array Bool} {s : T AV} {K : Nat}
theorem all_listedM (hs : listed.size = ops.size) (hD : Mixed ops l B) (hr : Region.ready .any ops listed = []) : ∀ i, i < ops.size → listed.getD i false = true := by
  intro i
  induction i using Nat.strongRecOn with
  | _ i ih =>
    intro hi
    apply Classical.byContradiction
    intro hn
    have : i ∈ Region.ready .any ops listed := by
      rw [ready_spec hs]
      refine ⟨hi, by simpa using hn, ops[i], Array.getElem?_eq_getElem hi, fun e he hb => ?_⟩
      have hlt := hD.first i ops[i] (Array.getElem?_eq_getElem hi) e.on (mem_edges.2 ⟨e, he, hb, rfl⟩)
      exact ih e.on hlt (by omega)
    rw [hr] at this
    cases this

theorem mixed_any (hcall : CallOk P call) (hl : cOpers P nt ops = some l) (g : GoesM call base l tr) (hL : Loose call l B tr) (hD : Mixed ops l B) {Q : Exit → Act → World → Prop} {φ0 : Env} {w0 : World} {H0 : Heap} {a0 : Act} (h0 : ∀ (j : Nat) (o : VO), l[j]? = some o → o.op.fresh = true → H0.get (base + j) = none)
    (hQ : ∀ φ' a' w', SR φ' w' nt (tr ops.size) a' → HR φ' w' (tr ops.size).h → UpdH φ0 w0 H0 φ' w' (tr ops.size).h → a'.defers = a0.defers → Q .normal a' w') :
    ∀ (fuel : Nat) {listed : Array Bool} {s : T AV} {K : Nat} {φ : Env} {w : World} {a : Act}, Slots ops l B tr listed s → Stands l listed K → Waits l base tr listed K w0 φ w → w0.heap.size ≤ w.heap.size → SR φ w nt ⟨s, (tr K).h⟩ a → HR φ w (tr K).h → UpdH φ0 w0 H0 φ w (tr K).h → a.defers = a0.defers → cnt listed ops.size ≤ fuel → wpAny P .any ops Q fuel listed a w := by
  have hrel := rel_all hl
  have hlen : l.length = ops.size := by
    have : ∀ {is : List Nat} {vs : List VO}, Rel P nt ops is vs → is.length = vs.length := by
      intro is vs h
      induction h with
      | nil => rfl
      | cons _ _ _ ih => simp [ih]
    rw [← this hrel, List.length_range]
  have hat : ∀ i, i < ops.size → ∃ o vo, ops[i]? = some o ∧ l[i]? = some vo ∧ cOper P nt ops o = some vo := by
    have : ∀ {is : List Nat} {vs : List VO}, Rel P nt ops is vs → ∀ (j i : Nat), is[j]? = some i → ∃ o vo, ops[i]? = some o ∧ vs[j]? = some vo ∧ cOper P nt ops o = some vo := by
      intro is vs h
      induction h with
      | nil => intro j i h; simp at h
      | cons h1 h2 _ ih =>
        intro j i h
        cases j with
        | zero => simp at h; subst h; exact ⟨_, _, h1, rfl, h2⟩
        | succ j => simpa using ih j i (by simpa using h)
    intro i hi
    exact this hrel i i (by simp [hi])
  have done : ∀ {listed : Array Bool} {s : T AV} {K : Nat} {φ : Env} {w : World} {a : Act}, Slots ops l B tr listed s → Stands l listed K → Waits l base tr listed K w0 φ w → w0.heap.size ≤ w.heap.size → SR φ w nt ⟨s, (tr K).h⟩ a → HR φ w (tr K).h → UpdH φ0 w0 H0 φ w (tr K).h → a.defers = a0.defers → Region.ready .any ops listed = [] → Q .normal a w := by
    intro listed s K φ w a hv hst hw hsz hs hr hu hd hready
    have hall := all_listedM hv.size hD hready
    have hh : (tr ops.size).h = (tr K).h := by
      have hKle := hst.le
      exact g.heap (by omega) (by omega) fun j y hy h1 h2 => hst.none_between (i := ops.size) (fun x y hx _ hlt => hall x hlt) j y hy h1 h2
    have hg : ∀ t, (tr ops.size).get t = St.get ⟨s, (tr K).h⟩ t := by
      intro t
      show _ = St.get ⟨s, (tr 0).h⟩ t
      by_cases hex : ∃ (j : Nat) (y : VO), l[j]? = some y ∧ y.dst = some t
      · obtain ⟨j, y, hy, hdy⟩ := hex
        have hj : j < l.length := (List.getElem?_eq_some_iff.1 hy).1
        rw [g.got hD hy hdy (by omega) (by omega), hv.got j y t hy (hall j (by omega)) hdy]
      · rw [g.old (by omega) fun j y hy _ hdy => hex ⟨j, y, hy, hdy⟩, hv.old t fun j y hy _ hdy => hex ⟨j, y, hy, hdy⟩]
    exact hQ φ a w ⟨hs.size, fun t => by rw [hg]; exact hs.get t⟩ (by rw [hh]; exact hr) (by rw [hh]; exact hu) hd
  intro fuel
  induction fuel with
  | zero =>
    intro listed s K φ w a hv hst hw hsz hs hr hu hd hc
    have hready : Region.ready .any ops listed = [] := by
      cases hrd : Region.ready .any ops listed with
      | nil => rfl
      | cons i is =>
        exfalso
        have hi : i ∈ Region.ready .any ops listed := by rw [hrd]; exact .head _
        obtain ⟨h1, h2, _⟩ := (ready_spec hv.size).1 hi
        have : 0 < cnt listed ops.size := List.countP_pos_iff.2 ⟨i, List.mem_range.2 h1, by rw [h2]; rfl⟩
        omega
    exact ⟨hready, done hv hst hw hsz hs hr hu hd hready⟩
  | succ fuel ih =>
    intro listed s K φ w a hv hst hw hsz hs hr hu hd hc
    refine ⟨fun hready => done hv hst hw hsz hs hr hu hd hready, fun i hi => ?_⟩
    obtain ⟨h1, h2, o', ho', hedge⟩ := (ready_spec hv.size).1 hi
    obtain ⟨o, vo, ho, hvo, hco⟩ := hat i h1
    rw [ho] at ho'
    have eo : o = o' := Option.some.inj ho'
    subst eo
    have hB : ∀ j ∈ B.getD i [], listed.getD j false = true := by
      intro j hj
      obtain ⟨e, he, h⟩ := hD.close i o ho j hj
      obtain ⟨e', he1, he2, rfl⟩ := mem_edges.1 he
      have hle := hedge e' he1 he2
      rcases h with rfl | h
      · exact hle
      · exact hv.closed _ hle j h
    cases hf : vo.op.fresh with
    | false =>
      obtain ⟨v, K', e1, e2, e3⟩ := hst.step hv g hL hD hvo hf h2 hB
      have hv' := hv.next hD hvo h1 hB e2 (tr K').h
      unfold wpOp
      rw [ho]
      simp only
      refine vdo_ok hcall hco hs hr (hr.next _ (Nat.le_refl _)) e1 fun φ' a' w' hs' hr' hu' hd' => ?_
      rw [St.put_h] at hr' hu'
      have hil : i < l.length := (List.getElem?_eq_some_iff.1 hvo).1
      have hset : ∀ j, (listed.setIfInBounds i true).getD j false = if j = i then true else listed.getD j false := set_getD _ (by rw [hv.size]; exact h1)
      have hne : ∀ (j : Nat) (x : VO), l[j]? = some x → x.op.fresh = true → j ≠ i := fun j x hj hx e => by
        rw [e, hvo] at hj; cases hj; rw [hf] at hx; cases hx
      have hKK : K ≤ K' := by rcases e3 with ⟨_, rfl, h, _⟩ | ⟨_, rfl⟩ <;> omega
      have hpre : ∀ (j : Nat) (x : VO), l[j]? = some x → x.acts = true → j < K' → (listed.setIfInBounds i true).getD j false = true := fun j x hj hx hlt => by
        rw [hset]
        by_cases e : j = i
        · rw [if_pos e]
        · rw [if_neg e]
          rcases e3 with ⟨_, rfl, _, h⟩ | ⟨_, rfl⟩
          · exact h j x hj hx (by omega)
          · exact hst.pre j x hj hx hlt
      have hw' := Waits.step (K' := K') (listed' := listed.setIfInBounds i true) hw hr hu' hKK (fun j x hj hx _ => by rw [hset, if_neg (hne j x hj hx)]) (fun j x hj hx hlt => hpre j x hj (fresh_acts hx) hlt)
      obtain ⟨K2, q1, q2, q3, q4⟩ := absorb_all g h0 _ K' rfl hpre (fun j x hj hx hge hlj => by
        rw [hset] at hlj
        by_cases e : j = i
        · exfalso
          rcases e3 with ⟨_, rfl, _, _⟩ | ⟨hn, rfl⟩
          · omega
          · rw [e, hvo] at hj; cases hj; rw [hn] at hx; cases hx
        · rw [if_neg e] at hlj
          exact hst.post j x hj hx (by omega) hlj) (by
        rcases e3 with ⟨ha, rfl, _, _⟩ | ⟨_, rfl⟩
        · exact .inr ⟨vo, by simpa using hvo, ha⟩
        · exact hst.bound) (by
        rcases e3 with ⟨ha, rfl, _, _⟩ | ⟨_, rfl⟩
        · exact hil
        · exact hst.le) hw' hr' (hu.trans hu')
      refine ih hv' q1 q2 (Nat.le_trans hsz hu'.size) ⟨hs'.size, hs'.get⟩ q3 q4 (hd'.trans hd) ?_
      have : cnt (listed.setIfInBounds i true) ops.size < cnt listed ops.size := by
        refine cnt_lt _ _ _ i (fun x hx => ?_) (List.mem_range.2 h1) (by rw [h2]; rfl) ?_
        · rw [hset] at hx
          by_cases e : x = i
          · rw [if_pos e] at hx; cases hx
          · rw [if_neg e] at hx; exact hx
        · rw [hset, if_pos rfl]; rfl
      omega
    | true =>
      have hil : i < l.length := (List.getElem?_eq_some_iff.1 hvo).1
      have hact := fresh_acts hf
      have hKi : K ≤ i := by
        rcases Nat.lt_or_ge i K with h | h
        · have := hst.pre i vo hvo hact h
          rw [h2] at this; cases this
        · exact h
      have hdead := hw.dead i vo hvo hf hKi
      have hno := hw.none i vo hvo hf h2
      have hgo := g i vo hvo
      rw [show nameAt base i vo (tr i).h = base + i by unfold nameAt; rw [hf]; rfl] at hgo
      obtain ⟨v, t1, t2⟩ := vdo_congr (st' := ⟨s, (tr i).h⟩) (fun t ht => (hv.looks g hD hvo h2 hB ht).symm) rfl hgo
      have hval : ∀ d, vo.dst = some d → v = (tr (i + 1)).get d := fun d hd => by rw [t1, St.get_put, if_pos hd]
      have hset : ∀ j, (listed.setIfInBounds i true).getD j false = if j = i then true else listed.getD j false := set_getD _ (by rw [hv.size]; exact h1)
      have hrd := hr.del hno
      unfold wpOp
      rw [ho]
      simp only
      have hv' := fun h' => hv.next hD hvo h1 hB hval h'
      have fin : ∀ {φ' : Env} {a' : Act} {w' : World} {H1 : Heap}, SR φ' w' nt (St.put ⟨s, H1⟩ vo.dst v) a' → HR φ' w' (tr K).h → UpdH φ w ((tr K).h.del (base + i)) φ' w' H1 → UpdH φ0 w0 H0 φ' w' (tr K).h →
          ((tr (i + 1)).h = (tr i).h ∨ BR φ' w' (base + i) ((tr (i + 1)).h.get (base + i))) → (∀ p, φ' (base + i) = some p → w.heap.size ≤ p.1) → a'.defers = a.defers → wpAny P .any ops Q fuel (listed.setIfInBounds i true) a' w' := by
        intro φ' a' w' H1 hs' hr' hu' hu0 hb hn hd'
        have hw' := hw.fresh hr hvo hf (by rw [hv.size]; exact h1) hKi (fun j x hj hx hlt => hst.pre j x hj (fresh_acts hx) hlt) hu' hsz hb hn
        obtain ⟨K2, q1, q2, q3, q4⟩ := absorb_all g h0 _ K rfl (fun j x hj hx hlt => by
          rw [hset]
          by_cases e : j = i
          · rw [if_pos e]
          · rw [if_neg e]; exact hst.pre j x hj hx hlt) (fun j x hj hx hge hlj => by
          rw [hset] at hlj
          by_cases e : j = i
          · rw [e, hvo] at hj; cases hj; exact hf
          · rw [if_neg e] at hlj; exact hst.post j x hj hx hge hlj) hst.bound hst.le hw' hr' hu0
        refine ih (hv' H1) q1 q2 (Nat.le_trans hsz hu'.size) ⟨hs'.size, hs'.get⟩ q3 q4 (hd'.trans hd) ?_
        have : cnt (listed.setIfInBounds i true) ops.size < cnt listed ops.size := by
          refine cnt_lt _ _ _ i (fun x hx => ?_) (List.mem_range.2 h1) (by rw [h2]; rfl) ?_
          · rw [hset] at hx
            by_cases e : x = i
            · rw [if_pos e] at hx; cases hx
            · rw [if_neg e] at hx; exact hx
          · rw [hset, if_pos rfl]; rfl
        omega
      have huD : UpdH φ0 w0 H0 φ w ((tr K).h.del (base + i)) := hu.fewer (fun b hb => by
        rw [Heap.get_del] at hb
        by_cases e : b = base + i
        · rw [if_pos e] at hb; cases hb
        · rw [if_neg e] at hb; exact hb) (fun b hb => by
        rw [Heap.get_del, if_neg (fun e => hb (by rw [e]; exact h0 i vo hvo hf))]
        exact hu.stay b hb)
      have back : ∀ {φ' : Env} {w' : World} {H1 : Heap}, (∀ b, b ≠ base + i → H1.get b = (tr K).h.get b) → UpdH φ w ((tr K).h.del (base + i)) φ' w' H1 → UpdH φ0 w0 H0 φ' w' (tr K).h := fun hH u => (huD.trans u).fewer (fun b hb => by
        have e : b ≠ base + i := fun e => by rw [e, hdead] at hb; cases hb
        rw [hH b e]; exact hb) (fun b hb => hu.stay b hb)
      have hslot : ∀ {h h' : Heap} {v2 : AV}, St.put ⟨s, h⟩ vo.dst v = St.put ⟨s, h'⟩ vo.dst v2 → ∀ H1 : Heap, St.put ⟨s, H1⟩ vo.dst v2 = St.put ⟨s, H1⟩ vo.dst v := by
        intro h h' v2 e H1
        have es := congrArg St.s e
        cases hd : vo.dst with
        | none => rfl
        | some d =>
          rw [hd] at es
          exact congrArg (fun x => (⟨x, H1⟩ : St)) es.symm
      rcases vdo_fresh hf t2 with ⟨c1, c2⟩ | ⟨v2, x, hx, c1, c2⟩
      · have hh : (tr (i + 1)).h = (tr i).h := by have := congrArg St.h c1; rw [St.put_h, St.put_h] at this; exact this
        refine vdo_ok hcall hco (st := ⟨s, (tr K).h.del (base + i)⟩) ⟨hs.size, hs.get⟩ hrd (by rw [Heap.get_del, if_pos rfl]) (c2 _) fun φ' a' w' hs' hr' hu' hd' => ?_
        rw [St.put_h] at hr' hu'
        rw [hslot c1] at hs'
        exact fin hs' (wait_hr0 hdead hr.next hr') hu' (back (fun b hb => by rw [Heap.get_del, if_neg hb]) hu') (.inl hh) (fun p hp => by
          have := hr'.blk (base + i)
          rw [Heap.get_del, if_pos rfl] at this
          rw [show φ' (base + i) = none from this] at hp; cases hp) hd'
      · have hh : (tr (i + 1)).h = (tr i).h.mk' (base + i) x := by have := congrArg St.h c1; rw [St.put_h, St.put_h] at this; exact this
        refine vdo_ok hcall hco (st := ⟨s, (tr K).h.del (base + i)⟩) ⟨hs.size, hs.get⟩ hrd (by rw [Heap.get_del, if_pos rfl]) (c2 _) fun φ' a' w' hs' hr' hu' hd' => ?_
        rw [St.put_h] at hr' hu'
        rw [hslot c1] at hs'
        exact fin hs' (wait_hr hdead hr.next hr') hu' (back (fun b hb => by rw [Heap.get_mk, if_neg hb, Heap.get_del, if_neg hb]) hu') (.inr (by
          rw [hh, Heap.get_mk, if_pos rfl]
          have := hr'.blk (base + i)
          rwa [Heap.get_mk, if_pos rfl] at this)) (fun p hp => wait_new hx hr' hu' hp) hd'
end
open Go.RowKit
section
variable {P : Program} {ops : Array Oper} {l : List VO} {call : Nat → List AV → Heap → Option (AV × Heap)}
theorem rel_len {nt : Nat} : ∀ {is : List Nat} {vs : List VO}, Rel P nt ops is vs → is.length = vs.length := by
  intro is vs h
  induction h with
  | nil => rfl
  | cons _ _ _ ih => simp [ih]
/-- the looks of a trace -/
theorem loose_of {B : List (List Nat)} {trl : List St} {st : St} (hlo : looseOk call l trl (looseOf l B) = true) (t3 : ∀ i o, l[i]? = some o → o.op.kind = 1 → ∃ a b, trl[i]? = some a ∧ trl[i + 1]? = some b) : Loose call l B (fun i => trl.getD i st) := by
  intro i o ho hk k hkm
  have hmem : (i, looseKs l B i) ∈ looseOf l B := by
    unfold looseOf
    rw [List.mem_filterMap]
    refine ⟨(o, i), by rw [List.mem_zipIdx_iff_getElem?]; exact ho, ?_⟩
    simp only [hk, T.beq_dec, decide_true, if_true]
    cases hks : looseKs l B i with
    | nil => rw [hks] at hkm; cases hkm
    | cons => rfl
  unfold looseOk at hlo
  rw [List.all_eq_true] at hlo
  have := hlo _ hmem
  rw [List.all_eq_true] at this
  have := this k hkm
  obtain ⟨x, y, h1, h2⟩ := t3 i o ho hk
  simp only [ho, h1, h2] at this
  split at this
  · rename_i o1 si sk sj g1 g2 g3 g4
    cases g1
    cases g2
    cases g4
    split at this
    · rename_i s' hs'
      refine ⟨s', ?_, fun d hd => ?_⟩
      · simp only [List.getD_eq_getElem?_getD, h1, g3, Option.getD_some]
        exact hs'
      · rw [hd] at this
        simp only [List.getD_eq_getElem?_getD, h2, Option.getD_some]
        exact AV.eqb_eq this
    · cases this
  · cases this
theorem reserve_next {base : Nat} : ∀ (l : List VO) (k : Nat) {h : Heap}, (∀ b, h.next ≤ b → h.get b = none) → ∀ b, (reserve base l k h).next ≤ b → (reserve base l k h).get b = none
  | [], _, _, hn => hn
  | x :: l, k, h, hn => by
    rw [reserve]
    refine reserve_next l (k + 1) fun b hb => ?_
    cases hx : x.op.fresh with
    | false => rw [hx, cond_false] at hb; rw [cond_false]; exact hn b hb
    | true =>
      rw [hx, cond_true] at hb
      have hb' : max h.next (base + k + 1) ≤ b := hb
      rw [cond_true, Heap.get_mk, if_neg (by omega)]
      exact hn b (by omega)
/-- names kept ahead -/
theorem reserve_old {k : Nat} {h : Heap} (hn : ∀ b, h.next ≤ b → h.get b = none) {b : Nat} (hb : h.get b ≠ none) : (reserve h.next l k h).get b = h.get b := by
  rw [reserve_get, if_neg]
  rintro ⟨i, o, _, _, rfl⟩
  exact hb (hn _ (by omega))
theorem reserve_live {k : Nat} {h : Heap} {b : Nat} {base : Nat} (hl : live ((reserve base l k h).get b) = true) : (reserve base l k h).get b = h.get b := by
  rw [reserve_get] at hl ⊢
  split at hl
  · cases hl
  · rename_i e; rw [if_neg e]
theorem reserve_hr {φ : Env} {w : World} {k : Nat} {h : Heap} (hr : HR φ w h) : HR φ w (reserve h.next l k h) := by
  refine ⟨fun b => ?_, hr.lt, fun b b' p p' h1 h2 => ?_, reserve_next l k hr.next⟩
  · rw [reserve_get]
    split
    · trivial
    · exact hr.blk b
  · rw [reserve_live h1] at h1
    rw [reserve_live h2] at h2
    exact hr.inj b b' p p' h1 h2
theorem reserve_updH {φ : Env} {w : World} {k : Nat} {h : Heap} (hr : HR φ w h) : UpdH φ w h φ w (reserve h.next l k h) :=
  { toUpd := Upd.refl _ _, keepL := fun _ _ _ => rfl
    deadL := fun b h1 h2 => by rw [reserve_old hr.next h1]; exact ⟨h1, h2, rfl⟩
    newL := fun b B o h1 h2 => .inl ⟨b, o, by rw [reserve_live h1] at h1; exact h1, h2⟩
    stay := fun b hb => by rw [reserve_old hr.next hb]; exact hb }
end
section
variable {P : Program}
theorem nothing_listed {n i : Nat} : (Array.replicate n false).getD i false = false := by
  simp [Array.getD_eq_getD_getElem?, Array.getElem?_replicate]
  split <;> simp
theorem drawn_ok (hm : P.follows .mixedOrders = true) : DrawnOk P := by
  intro nt id ops vc hc call rec hcall φ w st st' a ex Q hs hr h hQ
  simp only [cCode] at hc
  obtain ⟨l, hl, hc⟩ := Option.map_eq_some_iff.1 hc
  have hlen : l.length = ops.size := by rw [← rel_len (rel_all hl), List.length_range]
  cases hchk : drawnChk ops.toList l (before ops) with
  | false =>
    rw [hchk, cond_false] at hc
    cases hchm : mixedChk ops.toList l (before ops) with
    | false => rw [hchm, cond_false] at hc; cases hc; cases h
    | true =>
      rw [hchm, cond_true] at hc
      cases hc
      have hD := mixed_spec hchm
      simp only [vstep] at h
      split at h
      · rename_i trl htr
        cases hlo : looseOk call l trl (looseOf l (before ops)) with
        | false => rw [hlo] at h; cases h
        | true =>
          rw [hlo, cond_true] at h
          obtain ⟨stn, hlast, hh⟩ := Option.map_eq_some_iff.1 h
          cases hh
          obtain ⟨t1, t2, t3⟩ := mtrace_spec htr
          have tr0 : trl.getD 0 st = ⟨st.s, reserve st.h.next l 0 st.h⟩ := by rw [List.getD_eq_getElem?_getD, t2]; rfl
          have trn : trl.getD ops.size st = st' := by
            rw [List.getLast?_eq_getElem?, t1] at hlast
            rw [List.getD_eq_getElem?_getD, ← hlen]
            simp at hlast
            rw [hlast]; rfl
          have g : GoesM call st.h.next l (fun i => trl.getD i st) := by
            intro i o ho
            obtain ⟨x, y, h1, h2, h3⟩ := t3 i o ho
            rw [Nat.zero_add] at h3
            simp only [List.getD_eq_getElem?_getD, h1, h2, Option.getD_some]
            exact h3
          have hL : Loose call l (before ops) (fun i => trl.getD i st) := loose_of hlo fun i o ho _ => by
            obtain ⟨x, y, h1, h2, _⟩ := t3 i o ho
            exact ⟨x, y, h1, h2⟩
          apply wp_region_any hm
          have hr0 := reserve_hr (l := l) (k := 0) hr
          have hnone : ∀ j, st.h.get (st.h.next + j) = none := fun j => hr.next _ (by omega)
          refine mixed_any (s := st.s) (K := 0) (φ := φ) (w0 := w.drew) hcall hl g hL hD (φ0 := φ) (H0 := st.h) (a0 := a) (fun j _ _ _ => hnone j) (by simp only [trn]; exact fun φ' a' w' h1 h2 h3 h4 => hQ φ' a' w' h1 h2 ((updH_drew _).trans h3) h4) ops.size ?_ ?_ ?_ (Nat.le_refl _) ?_ ?_ ?_ rfl ?_
          · refine ⟨by simp, fun i h => ?_, fun i o t _ h => ?_, fun t _ => by simp only [tr0]⟩
            · rw [nothing_listed] at h; cases h
            · rw [nothing_listed] at h; cases h
          · exact ⟨fun j _ _ _ h => absurd h (Nat.not_lt_zero _), fun j _ _ _ _ h => (by rw [nothing_listed] at h; cases h), fun j _ _ _ _ _ => nothing_listed, .inl rfl, Nat.zero_le _⟩
          · refine ⟨fun j o hj hf _ => ?_, fun j o _ _ _ h => (by rw [nothing_listed] at h; cases h), fun j o _ _ _ h => (by rw [nothing_listed] at h; cases h), fun j o _ _ _ => ?_⟩
            · simp only [tr0]
              rw [reserve_get, if_pos ⟨j, o, hj, hf, by omega⟩]
            · have := hr.blk (st.h.next + j)
              rw [hnone j] at this
              exact this
          · simp only [tr0]
            exact ⟨(hs.upd upd_drew).size, (hs.upd upd_drew).get⟩
          · simp only [tr0]
            exact hr_drew hr0
          · simp only [tr0]
            exact (reserve_updH (hr_drew hr))
          · unfold cnt
            exact Nat.le_trans List.countP_le_length (by simp)
      · cases h
  | true =>
    rw [hchk, cond_true] at hc
    cases hc
    have hD := drawn_spec hchk
    simp only [vstep] at h
    split at h
    · rename_i trl htr
      cases hlo : looseOk call l trl (looseOf l (before ops)) with
      | false => rw [hlo] at h; cases h
      | true =>
        rw [hlo, cond_true] at h
        obtain ⟨stn, hlast, hh⟩ := Option.map_eq_some_iff.1 h
        cases hh
        obtain ⟨t1, t2, t3⟩ := vtrace_spec htr
        have tr0 : trl.getD 0 st = st := by rw [List.getD_eq_getElem?_getD, t2]; rfl
        have trn : trl.getD ops.size st = st' := by
          rw [List.getLast?_eq_getElem?, t1] at hlast
          rw [List.getD_eq_getElem?_getD, ← hlen]
          simp at hlast
          rw [hlast]; rfl
        have g : Goes call l (fun i => trl.getD i st) := by
          intro i o ho
          obtain ⟨x, y, h1, h2, h3⟩ := t3 i o ho
          simp only [List.getD_eq_getElem?_getD, h1, h2, Option.getD_some]
          exact h3
        have hL : Loose call l (before ops) (fun i => trl.getD i st) := loose_of hlo fun i o ho _ => by
          obtain ⟨x, y, h1, h2, _⟩ := t3 i o ho
          exact ⟨x, y, h1, h2⟩
        apply wp_region_any hm
        refine any_ok (s := st.s) (K := 0) (φ := φ) hcall hl g hL hD (φ0 := φ) (w0 := w) (H0 := st.h) (a0 := a) (by simp only [trn]; exact hQ) ops.size ?_ ?_ ?_ ?_ rfl ?_
        · refine ⟨by simp, fun i h => ?_, fun i o t _ h => ?_, fun t _ => by simp only [tr0], fun j o _ _ => ?_, .inl rfl, Nat.zero_le _⟩
          · simp [Array.getD_eq_getD_getElem?, Array.getElem?_replicate] at h
            split at h <;> simp at h
          · simp [Array.getD_eq_getD_getElem?, Array.getElem?_replicate] at h
            split at h <;> simp at h
          · simp [Array.getD_eq_getD_getElem?, Array.getElem?_replicate]
            split <;> simp
        · simp only [tr0]
          exact hs.upd upd_drew
        · simp only [tr0]
          exact hr_drew hr
        · simp only [tr0]
          exact updH_drew _
        · unfold cnt
          exact Nat.le_trans List.countP_le_length (by simp)
    · cases h

end
open Go.RowKit

/-- no name yet -/
def none0 : Env := fun _ => none
theorem hr_empty (w : World) : HR none0 w ⟨0, .e⟩ :=
  ⟨fun _ => rfl, fun _ _ h => (by cases h), fun _ _ _ _ h => (by cases h), fun _ _ => rfl⟩
theorem Upd.below {w w' : World} {φ' : Env} (u : Upd none0 w φ' w') : Below w.heap.size w w' :=
  ⟨u.os, u.tape, u.output, u.size, fun k hk => u.keep k hk fun _ _ h => (by cases h)⟩

theorem calls_vm {P : Program} (hm : P.follows .mixedOrders = true) {F : Nat → Option VFun} {X : Told} (hF : TableOk P F) (hX : CallOk P X) {n f : Nat} {args : List AV} {v : AV} {h' : Heap} (hv : vcall F X n f args ⟨0, .e⟩ = some (v, h'))
    {W : World} {us : Array Value} (hus : VRs none0 W args us.toList) : Calls P f us W (fun e W' => ∃ φ' u, e = .returned u ∧ VR φ' W' v u ∧ HR φ' W' h' ∧ Below W.heap.size W W') :=
  (((vm_ok (drawn_ok hm) hF hX n).2.2 f args ⟨0, .e⟩ v h' hv).2 none0 W us (hr_empty W) hus).mono fun _ _ ⟨φ', u, h1, h2, h3, h4⟩ => ⟨φ', u, h1, h2, h3, h4.toUpd.below⟩

theorem calls_true {P : Program} (hm : P.follows .mixedOrders = true) {F : Nat → Option VFun} {X : Told} (hF : TableOk P F) (hX : CallOk P X) {n f : Nat} {args : List AV} {h' : Heap} (hv : vcall F X n f args ⟨0, .e⟩ = some (.bool true, h'))
    {W : World} {us : Array Value} (hus : VRs none0 W args us.toList) : Calls P f us W (fun e W' => e = .returned (.bool true) ∧ Below W.heap.size W W') :=
  (calls_vm hm hF hX hv hus).mono fun _ _ ⟨_, _, h1, h2, _, h4⟩ => by
    cases h2
    exact ⟨h1, h4⟩

/-- a table out of a list of functions with their places -/
def tableOf : List (Nat × VFun) → Nat → Option VFun
  | [], _ => none
  | p :: l, f => bif Nat.beq p.1 f then some p.2 else tableOf l f
theorem table_ok {P : Program} : ∀ {l : List (Nat × VFun)}, (∀ p ∈ l, ∃ fn, P.funcs[p.1]? = some fn ∧ cFun P fn = some p.2 ∧ fn.name ≠ "runtime.NumGoroutine") → TableOk P (tableOf l)
  | [], _ => fun f vf h => by cases h
  | p :: l, h => fun f vf hf => by
    simp only [tableOf, T.beq_dec] at hf
    by_cases e : p.1 = f
    · subst e
      rw [decide_eq_true rfl, cond_true] at hf
      cases hf
      exact h p (.head _)
    · rw [decide_eq_false e, cond_false] at hf
      exact table_ok (fun q hq => h q (.tail _ hq)) f vf hf

end Go.Proofs.Ytinonmcnofjeeaa.VM
