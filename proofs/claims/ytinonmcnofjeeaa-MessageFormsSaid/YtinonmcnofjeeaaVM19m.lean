/- Mixed regions, in whatever order. -/
import Derived.Test.YtinonmcnofjeeaaVM18j
namespace Go.Proofs.Ytinonmcnofjeeaa.VM
set_option linter.unusedSimpArgs false
set_option linter.unusedVariables false
set_option linter.defProp false
set_option maxHeartbeats 1000000
open Go.RowKit
section
variable {P : Program} {nt : Nat} {ops : Array Oper} {l : List VO} {B : List (List Nat)} {call : Nat → List AV → Heap → Option (AV × Heap)} {base : Nat} {tr : Nat → St} {listed : Array Bool} {s : T AV} {K : Nat}
theorem all_listedM (hs : listed.size = ops.size) (hD : Mixed ops l B) (hr : Region.ready .any ops listed = []) : ∀ i, i < ops.size → listed.getD i false = true := by
  intro i
  induction i using Nat.strongRecOn with
  | _ i ih =>
    intro hi
    apply Classical.byContradiction
    intro hn
    have : i ∈ Region.ready .any ops listed := by
      rw [ready_spec hs]
      refine ⟨hi, by simpa using hn, ops[i], Array.getElem?_eq_getElem hi, fun e he hb => ?_⟩
      have hlt := hD.first i ops[i] (Array.getElem?_eq_getElem hi) e.on (mem_edges.2 ⟨e, he, hb, rfl⟩)
      exact ih e.on hlt (by omega)
    rw [hr] at this
    cases this

theorem mixed_any (hcall : CallOk P call) (hl : cOpers P nt ops = some l) (g : GoesM call base l tr) (hL : Loose call l B tr) (hD : Mixed ops l B) {Q : Exit → Act → World → Prop} {φ0 : Env} {w0 : World} {H0 : Heap} {a0 : Act} (h0 : ∀ (j : Nat) (o : VO), l[j]? = some o → o.op.fresh = true → H0.get (base + j) = none)
    (hQ : ∀ φ' a' w', SR φ' w' nt (tr ops.size) a' → HR φ' w' (tr ops.size).h → UpdH φ0 w0 H0 φ' w' (tr ops.size).h → a'.defers = a0.defers → Q .normal a' w') :
    ∀ (fuel : Nat) {listed : Array Bool} {s : T AV} {K : Nat} {φ : Env} {w : World} {a : Act}, Slots ops l B tr listed s → Stands l listed K → Waits l base tr listed K w0 φ w → w0.heap.size ≤ w.heap.size → SR φ w nt ⟨s, (tr K).h⟩ a → HR φ w (tr K).h → UpdH φ0 w0 H0 φ w (tr K).h → a.defers = a0.defers → cnt listed ops.size ≤ fuel → wpAny P .any ops Q fuel listed a w := by
  have hrel := rel_all hl
  have hlen : l.length = ops.size := by
    have : ∀ {is : List Nat} {vs : List VO}, Rel P nt ops is vs → is.length = vs.length := by
      intro is vs h
      induction h with
      | nil => rfl
      | cons _ _ _ ih => simp [ih]
    rw [← this hrel, List.length_range]
  have hat : ∀ i, i < ops.size → ∃ o vo, ops[i]? = some o ∧ l[i]? = some vo ∧ cOper P nt ops o = some vo := by
    have : ∀ {is : List Nat} {vs : List VO}, Rel P nt ops is vs → ∀ (j i : Nat), is[j]? = some i → ∃ o vo, ops[i]? = some o ∧ vs[j]? = some vo ∧ cOper P nt ops o = some vo := by
      intro is vs h
      induction h with
      | nil => intro j i h; simp at h
      | cons h1 h2 _ ih =>
        intro j i h
        cases j with
        | zero => simp at h; subst h; exact ⟨_, _, h1, rfl, h2⟩
        | succ j => simpa using ih j i (by simpa using h)
    intro i hi
    exact this hrel i i (by simp [hi])
  have done : ∀ {listed : Array Bool} {s : T AV} {K : Nat} {φ : Env} {w : World} {a : Act}, Slots ops l B tr listed s → Stands l listed K → Waits l base tr listed K w0 φ w → w0.heap.size ≤ w.heap.size → SR φ w nt ⟨s, (tr K).h⟩ a → HR φ w (tr K).h → UpdH φ0 w0 H0 φ w (tr K).h → a.defers = a0.defers → Region.ready .any ops listed = [] → Q .normal a w := by
    intro listed s K φ w a hv hst hw hsz hs hr hu hd hready
    have hall := all_listedM hv.size hD hready
    have hh : (tr ops.size).h = (tr K).h := by
      have hKle := hst.le
      exact g.heap (by omega) (by omega) fun j y hy h1 h2 => hst.none_between (i := ops.size) (fun x y hx _ hlt => hall x hlt) j y hy h1 h2
    have hg : ∀ t, (tr ops.size).get t = St.get ⟨s, (tr K).h⟩ t := by
      intro t
      show _ = St.get ⟨s, (tr 0).h⟩ t
      by_cases hex : ∃ (j : Nat) (y : VO), l[j]? = some y ∧ y.dst = some t
      · obtain ⟨j, y, hy, hdy⟩ := hex
        have hj : j < l.length := (List.getElem?_eq_some_iff.1 hy).1
        rw [g.got hD hy hdy (by omega) (by omega), hv.got j y t hy (hall j (by omega)) hdy]
      · rw [g.old (by omega) fun j y hy _ hdy => hex ⟨j, y, hy, hdy⟩, hv.old t fun j y hy _ hdy => hex ⟨j, y, hy, hdy⟩]
    exact hQ φ a w ⟨hs.size, fun t => by rw [hg]; exact hs.get t⟩ (by rw [hh]; exact hr) (by rw [hh]; exact hu) hd
  intro fuel
  induction fuel with
  | zero =>
    intro listed s K φ w a hv hst hw hsz hs hr hu hd hc
    have hready : Region.ready .any ops listed = [] := by
      cases hrd : Region.ready .any ops listed with
      | nil => rfl
      | cons i is =>
        exfalso
        have hi : i ∈ Region.ready .any ops listed := by rw [hrd]; exact .head _
        obtain ⟨h1, h2, _⟩ := (ready_spec hv.size).1 hi
        have : 0 < cnt listed ops.size := List.countP_pos_iff.2 ⟨i, List.mem_range.2 h1, by rw [h2]; rfl⟩
        omega
    exact ⟨hready, done hv hst hw hsz hs hr hu hd hready⟩
  | succ fuel ih =>
    intro listed s K φ w a hv hst hw hsz hs hr hu hd hc
    refine ⟨fun hready => done hv hst hw hsz hs hr hu hd hready, fun i hi => ?_⟩
    obtain ⟨h1, h2, o', ho', hedge⟩ := (ready_spec hv.size).1 hi
    obtain ⟨o, vo, ho, hvo, hco⟩ := hat i h1
    rw [ho] at ho'
    have eo : o = o' := Option.some.inj ho'
    subst eo
    have hB : ∀ j ∈ B.getD i [], listed.getD j false = true := by
      intro j hj
      obtain ⟨e, he, h⟩ := hD.close i o ho j hj
      obtain ⟨e', he1, he2, rfl⟩ := mem_edges.1 he
      have hle := hedge e' he1 he2
      rcases h with rfl | h
      · exact hle
      · exact hv.closed _ hle j h
    cases hf : vo.op.fresh with
    | false =>
      obtain ⟨v, K', e1, e2, e3⟩ := hst.step hv g hL hD hvo hf h2 hB
      have hv' := hv.next hD hvo h1 hB e2 (tr K').h
      unfold wpOp
      rw [ho]
      simp only
      refine vdo_ok hcall hco hs hr (hr.next _ (Nat.le_refl _)) e1 fun φ' a' w' hs' hr' hu' hd' => ?_
      rw [St.put_h] at hr' hu'
      have hil : i < l.length := (List.getElem?_eq_some_iff.1 hvo).1
      have hset : ∀ j, (listed.setIfInBounds i true).getD j false = if j = i then true else listed.getD j false := set_getD _ (by rw [hv.size]; exact h1)
      have hne : ∀ (j : Nat) (x : VO), l[j]? = some x → x.op.fresh = true → j ≠ i := fun j x hj hx e => by
        rw [e, hvo] at hj; cases hj; rw [hf] at hx; cases hx
      have hKK : K ≤ K' := by rcases e3 with ⟨_, rfl, h, _⟩ | ⟨_, rfl⟩ <;> omega
      have hpre : ∀ (j : Nat) (x : VO), l[j]? = some x → x.acts = true → j < K' → (listed.setIfInBounds i true).getD j false = true := fun j x hj hx hlt => by
        rw [hset]
        by_cases e : j = i
        · rw [if_pos e]
        · rw [if_neg e]
          rcases e3 with ⟨_, rfl, _, h⟩ | ⟨_, rfl⟩
          · exact h j x hj hx (by omega)
          · exact hst.pre j x hj hx hlt
      have hw' := Waits.step (K' := K') (listed' := listed.setIfInBounds i true) hw hr hu' hKK (fun j x hj hx _ => by rw [hset, if_neg (hne j x hj hx)]) (fun j x hj hx hlt => hpre j x hj (fresh_acts hx) hlt)
      obtain ⟨K2, q1, q2, q3, q4⟩ := absorb_all g h0 _ K' rfl hpre (fun j x hj hx hge hlj => by
        rw [hset] at hlj
        by_cases e : j = i
        · exfalso
          rcases e3 with ⟨_, rfl, _, _⟩ | ⟨hn, rfl⟩
          · omega
          · rw [e, hvo] at hj; cases hj; rw [hn] at hx; cases hx
        · rw [if_neg e] at hlj
          exact hst.post j x hj hx (by omega) hlj) (by
        rcases e3 with ⟨ha, rfl, _, _⟩ | ⟨_, rfl⟩
        · exact .inr ⟨vo, by simpa using hvo, ha⟩
        · exact hst.bound) (by
        rcases e3 with ⟨ha, rfl, _, _⟩ | ⟨_, rfl⟩
        · exact hil
        · exact hst.le) hw' hr' (hu.trans hu')
      refine ih hv' q1 q2 (Nat.le_trans hsz hu'.size) ⟨hs'.size, hs'.get⟩ q3 q4 (hd'.trans hd) ?_
      have : cnt (listed.setIfInBounds i true) ops.size < cnt listed ops.size := by
        refine cnt_lt _ _ _ i (fun x hx => ?_) (List.mem_range.2 h1) (by rw [h2]; rfl) ?_
        · rw [hset] at hx
          by_cases e : x = i
          · rw [if_pos e] at hx; cases hx
          · rw [if_neg e] at hx; exact hx
        · rw [hset, if_pos rfl]; rfl
      omega
    | true =>
      have hil : i < l.length := (List.getElem?_eq_some_iff.1 hvo).1
      have hact := fresh_acts hf
      have hKi : K ≤ i := by
        rcases Nat.lt_or_ge i K with h | h
        · have := hst.pre i vo hvo hact h
          rw [h2] at this; cases this
        · exact h
      have hdead := hw.dead i vo hvo hf hKi
      have hno := hw.none i vo hvo hf h2
      have hgo := g i vo hvo
      rw [show nameAt base i vo (tr i).h = base + i by unfold nameAt; rw [hf]; rfl] at hgo
      obtain ⟨v, t1, t2⟩ := vdo_congr (st' := ⟨s, (tr i).h⟩) (fun t ht => (hv.looks g hD hvo h2 hB ht).symm) rfl hgo
      have hval : ∀ d, vo.dst = some d → v = (tr (i + 1)).get d := fun d hd => by rw [t1, St.get_put, if_pos hd]
      have hset : ∀ j, (listed.setIfInBounds i true).getD j false = if j = i then true else listed.getD j false := set_getD _ (by rw [hv.size]; exact h1)
      have hrd := hr.del hno
      unfold wpOp
      rw [ho]
      simp only
      have hv' := fun h' => hv.next hD hvo h1 hB hval h'
      have fin : ∀ {φ' : Env} {a' : Act} {w' : World} {H1 : Heap}, SR φ' w' nt (St.put ⟨s, H1⟩ vo.dst v) a' → HR φ' w' (tr K).h → UpdH φ w ((tr K).h.del (base + i)) φ' w' H1 → UpdH φ0 w0 H0 φ' w' (tr K).h →
          ((tr (i + 1)).h = (tr i).h ∨ BR φ' w' (base + i) ((tr (i + 1)).h.get (base + i))) → (∀ p, φ' (base + i) = some p → w.heap.size ≤ p.1) → a'.defers = a.defers → wpAny P .any ops Q fuel (listed.setIfInBounds i true) a' w' := by
        intro φ' a' w' H1 hs' hr' hu' hu0 hb hn hd'
        have hw' := hw.fresh hr hvo hf (by rw [hv.size]; exact h1) hKi (fun j x hj hx hlt => hst.pre j x hj (fresh_acts hx) hlt) hu' hsz hb hn
        obtain ⟨K2, q1, q2, q3, q4⟩ := absorb_all g h0 _ K rfl (fun j x hj hx hlt => by
          rw [hset]
          by_cases e : j = i
          · rw [if_pos e]
          · rw [if_neg e]; exact hst.pre j x hj hx hlt) (fun j x hj hx hge hlj => by
          rw [hset] at hlj
          by_cases e : j = i
          · rw [e, hvo] at hj; cases hj; exact hf
          · rw [if_neg e] at hlj; exact hst.post j x hj hx hge hlj) hst.bound hst.le hw' hr' hu0
        refine ih (hv' H1) q1 q2 (Nat.le_trans hsz hu'.size) ⟨hs'.size, hs'.get⟩ q3 q4 (hd'.trans hd) ?_
        have : cnt (listed.setIfInBounds i true) ops.size < cnt listed ops.size := by
          refine cnt_lt _ _ _ i (fun x hx => ?_) (List.mem_range.2 h1) (by rw [h2]; rfl) ?_
          · rw [hset] at hx
            by_cases e : x = i
            · rw [if_pos e] at hx; cases hx
            · rw [if_neg e] at hx; exact hx
          · rw [hset, if_pos rfl]; rfl
        omega
      have huD : UpdH φ0 w0 H0 φ w ((tr K).h.del (base + i)) := hu.fewer (fun b hb => by
        rw [Heap.get_del] at hb
        by_cases e : b = base + i
        · rw [if_pos e] at hb; cases hb
        · rw [if_neg e] at hb; exact hb) (fun b hb => by
        rw [Heap.get_del, if_neg (fun e => hb (by rw [e]; exact h0 i vo hvo hf))]
        exact hu.stay b hb)
      have back : ∀ {φ' : Env} {w' : World} {H1 : Heap}, (∀ b, b ≠ base + i → H1.get b = (tr K).h.get b) → UpdH φ w ((tr K).h.del (base + i)) φ' w' H1 → UpdH φ0 w0 H0 φ' w' (tr K).h := fun hH u => (huD.trans u).fewer (fun b hb => by
        have e : b ≠ base + i := fun e => by rw [e, hdead] at hb; cases hb
        rw [hH b e]; exact hb) (fun b hb => hu.stay b hb)
      have hslot : ∀ {h h' : Heap} {v2 : AV}, St.put ⟨s, h⟩ vo.dst v = St.put ⟨s, h'⟩ vo.dst v2 → ∀ H1 : Heap, St.put ⟨s, H1⟩ vo.dst v2 = St.put ⟨s, H1⟩ vo.dst v := by
        intro h h' v2 e H1
        have es := congrArg St.s e
        cases hd : vo.dst with
        | none => rfl
        | some d =>
          rw [hd] at es
          exact congrArg (fun x => (⟨x, H1⟩ : St)) es.symm
      rcases vdo_fresh hf t2 with ⟨c1, c2⟩ | ⟨v2, x, hx, c1, c2⟩
      · have hh : (tr (i + 1)).h = (tr i).h := by have := congrArg St.h c1; rw [St.put_h, St.put_h] at this; exact this
        refine vdo_ok hcall hco (st := ⟨s, (tr K).h.del (base + i)⟩) ⟨hs.size, hs.get⟩ hrd (by rw [Heap.get_del, if_pos rfl]) (c2 _) fun φ' a' w' hs' hr' hu' hd' => ?_
        rw [St.put_h] at hr' hu'
        rw [hslot c1] at hs'
        exact fin hs' (wait_hr0 hdead hr.next hr') hu' (back (fun b hb => by rw [Heap.get_del, if_neg hb]) hu') (.inl hh) (fun p hp => by
          have := hr'.blk (base + i)
          rw [Heap.get_del, if_pos rfl] at this
          rw [show φ' (base + i) = none from this] at hp; cases hp) hd'
      · have hh : (tr (i + 1)).h = (tr i).h.mk' (base + i) x := by have := congrArg St.h c1; rw [St.put_h, St.put_h] at this; exact this
        refine vdo_ok hcall hco (st := ⟨s, (tr K).h.del (base + i)⟩) ⟨hs.size, hs.get⟩ hrd (by rw [Heap.get_del, if_pos rfl]) (c2 _) fun φ' a' w' hs' hr' hu' hd' => ?_
        rw [St.put_h] at hr' hu'
        rw [hslot c1] at hs'
        exact fin hs' (wait_hr hdead hr.next hr') hu' (back (fun b hb => by rw [Heap.get_mk, if_neg hb, Heap.get_del, if_neg hb]) hu') (.inr (by
          rw [hh, Heap.get_mk, if_pos rfl]
          have := hr'.blk (base + i)
          rwa [Heap.get_mk, if_pos rfl] at this)) (fun p hp => wait_new hx hr' hu' hp) hd'
end
end Go.Proofs.Ytinonmcnofjeeaa.VM
