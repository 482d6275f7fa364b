/- Regions whose order is drawn: both kinds are sound. -/
import Derived.Test.YtinonmcnofjeeaaVM19m
namespace Go.Proofs.Ytinonmcnofjeeaa.VM
set_option linter.unusedSimpArgs false
set_option linter.unusedVariables false
set_option linter.defProp false
set_option maxHeartbeats 1000000
open Go.RowKit
section
variable {P : Program} {ops : Array Oper} {l : List VO} {call : Nat → List AV → Heap → Option (AV × Heap)}
theorem rel_len {nt : Nat} : ∀ {is : List Nat} {vs : List VO}, Rel P nt ops is vs → is.length = vs.length := by
  intro is vs h
  induction h with
  | nil => rfl
  | cons _ _ _ ih => simp [ih]
/-- the looks of a trace -/
theorem loose_of {B : List (List Nat)} {trl : List St} {st : St} (hlo : looseOk call l trl (looseOf l B) = true) (t3 : ∀ i o, l[i]? = some o → o.op.kind = 1 → ∃ a b, trl[i]? = some a ∧ trl[i + 1]? = some b) : Loose call l B (fun i => trl.getD i st) := by
  intro i o ho hk k hkm
  have hmem : (i, looseKs l B i) ∈ looseOf l B := by
    unfold looseOf
    rw [List.mem_filterMap]
    refine ⟨(o, i), by rw [List.mem_zipIdx_iff_getElem?]; exact ho, ?_⟩
    simp only [hk, T.beq_dec, decide_true, if_true]
    cases hks : looseKs l B i with
    | nil => rw [hks] at hkm; cases hkm
    | cons => rfl
  unfold looseOk at hlo
  rw [List.all_eq_true] at hlo
  have := hlo _ hmem
  rw [List.all_eq_true] at this
  have := this k hkm
  obtain ⟨x, y, h1, h2⟩ := t3 i o ho hk
  simp only [ho, h1, h2] at this
  split at this
  · rename_i o1 si sk sj g1 g2 g3 g4
    cases g1
    cases g2
    cases g4
    split at this
    · rename_i s' hs'
      refine ⟨s', ?_, fun d hd => ?_⟩
      · simp only [List.getD_eq_getElem?_getD, h1, g3, Option.getD_some]
        exact hs'
      · rw [hd] at this
        simp only [List.getD_eq_getElem?_getD, h2, Option.getD_some]
        exact AV.eqb_eq this
    · cases this
  · cases this
theorem reserve_next {base : Nat} : ∀ (l : List VO) (k : Nat) {h : Heap}, (∀ b, h.next ≤ b → h.get b = none) → ∀ b, (reserve base l k h).next ≤ b → (reserve base l k h).get b = none
  | [], _, _, hn => hn
  | x :: l, k, h, hn => by
    rw [reserve]
    refine reserve_next l (k + 1) fun b hb => ?_
    cases hx : x.op.fresh with
    | false => rw [hx, cond_false] at hb; rw [cond_false]; exact hn b hb
    | true =>
      rw [hx, cond_true] at hb
      have hb' : max h.next (base + k + 1) ≤ b := hb
      rw [cond_true, Heap.get_mk, if_neg (by omega)]
      exact hn b (by omega)
/-- names kept ahead -/
theorem reserve_old {k : Nat} {h : Heap} (hn : ∀ b, h.next ≤ b → h.get b = none) {b : Nat} (hb : h.get b ≠ none) : (reserve h.next l k h).get b = h.get b := by
  rw [reserve_get, if_neg]
  rintro ⟨i, o, _, _, rfl⟩
  exact hb (hn _ (by omega))
theorem reserve_live {k : Nat} {h : Heap} {b : Nat} {base : Nat} (hl : live ((reserve base l k h).get b) = true) : (reserve base l k h).get b = h.get b := by
  rw [reserve_get] at hl ⊢
  split at hl
  · cases hl
  · rename_i e; rw [if_neg e]
theorem reserve_hr {φ : Env} {w : World} {k : Nat} {h : Heap} (hr : HR φ w h) : HR φ w (reserve h.next l k h) := by
  refine ⟨fun b => ?_, hr.lt, fun b b' p p' h1 h2 => ?_, reserve_next l k hr.next⟩
  · rw [reserve_get]
    split
    · trivial
    · exact hr.blk b
  · rw [reserve_live h1] at h1
    rw [reserve_live h2] at h2
    exact hr.inj b b' p p' h1 h2
theorem reserve_updH {φ : Env} {w : World} {k : Nat} {h : Heap} (hr : HR φ w h) : UpdH φ w h φ w (reserve h.next l k h) :=
  { toUpd := Upd.refl _ _, keepL := fun _ _ _ => rfl
    deadL := fun b h1 h2 => by rw [reserve_old hr.next h1]; exact ⟨h1, h2, rfl⟩
    newL := fun b B o h1 h2 => .inl ⟨b, o, by rw [reserve_live h1] at h1; exact h1, h2⟩
    stay := fun b hb => by rw [reserve_old hr.next hb]; exact hb }
end
section
variable {P : Program}
theorem nothing_listed {n i : Nat} : (Array.replicate n false).getD i false = false := by
  simp [Array.getD_eq_getD_getElem?, Array.getElem?_replicate]
  split <;> simp
theorem drawn_ok (hm : P.follows .mixedOrders = true) : DrawnOk P := by
  intro nt id ops vc hc call rec hcall φ w st st' a ex Q hs hr h hQ
  simp only [cCode] at hc
  obtain ⟨l, hl, hc⟩ := Option.map_eq_some_iff.1 hc
  have hlen : l.length = ops.size := by rw [← rel_len (rel_all hl), List.length_range]
  cases hchk : drawnChk ops.toList l (before ops) with
  | false =>
    rw [hchk, cond_false] at hc
    cases hchm : mixedChk ops.toList l (before ops) with
    | false => rw [hchm, cond_false] at hc; cases hc; cases h
    | true =>
      rw [hchm, cond_true] at hc
      cases hc
      have hD := mixed_spec hchm
      simp only [vstep] at h
      split at h
      · rename_i trl htr
        cases hlo : looseOk call l trl (looseOf l (before ops)) with
        | false => rw [hlo] at h; cases h
        | true =>
          rw [hlo, cond_true] at h
          obtain ⟨stn, hlast, hh⟩ := Option.map_eq_some_iff.1 h
          cases hh
          obtain ⟨t1, t2, t3⟩ := mtrace_spec htr
          have tr0 : trl.getD 0 st = ⟨st.s, reserve st.h.next l 0 st.h⟩ := by rw [List.getD_eq_getElem?_getD, t2]; rfl
          have trn : trl.getD ops.size st = st' := by
            rw [List.getLast?_eq_getElem?, t1] at hlast
            rw [List.getD_eq_getElem?_getD, ← hlen]
            simp at hlast
            rw [hlast]; rfl
          have g : GoesM call st.h.next l (fun i => trl.getD i st) := by
            intro i o ho
            obtain ⟨x, y, h1, h2, h3⟩ := t3 i o ho
            rw [Nat.zero_add] at h3
            simp only [List.getD_eq_getElem?_getD, h1, h2, Option.getD_some]
            exact h3
          have hL : Loose call l (before ops) (fun i => trl.getD i st) := loose_of hlo fun i o ho _ => by
            obtain ⟨x, y, h1, h2, _⟩ := t3 i o ho
            exact ⟨x, y, h1, h2⟩
          apply wp_region_any hm
          have hr0 := reserve_hr (l := l) (k := 0) hr
          have hnone : ∀ j, st.h.get (st.h.next + j) = none := fun j => hr.next _ (by omega)
          refine mixed_any (s := st.s) (K := 0) (φ := φ) (w0 := w.drew) hcall hl g hL hD (φ0 := φ) (H0 := st.h) (a0 := a) (fun j _ _ _ => hnone j) (by simp only [trn]; exact fun φ' a' w' h1 h2 h3 h4 => hQ φ' a' w' h1 h2 ((updH_drew _).trans h3) h4) ops.size ?_ ?_ ?_ (Nat.le_refl _) ?_ ?_ ?_ rfl ?_
          · refine ⟨by simp, fun i h => ?_, fun i o t _ h => ?_, fun t _ => by simp only [tr0]⟩
            · rw [nothing_listed] at h; cases h
            · rw [nothing_listed] at h; cases h
          · exact ⟨fun j _ _ _ h => absurd h (Nat.not_lt_zero _), fun j _ _ _ _ h => (by rw [nothing_listed] at h; cases h), fun j _ _ _ _ _ => nothing_listed, .inl rfl, Nat.zero_le _⟩
          · refine ⟨fun j o hj hf _ => ?_, fun j o _ _ _ h => (by rw [nothing_listed] at h; cases h), fun j o _ _ _ h => (by rw [nothing_listed] at h; cases h), fun j o _ _ _ => ?_⟩
            · simp only [tr0]
              rw [reserve_get, if_pos ⟨j, o, hj, hf, by omega⟩]
            · have := hr.blk (st.h.next + j)
              rw [hnone j] at this
              exact this
          · simp only [tr0]
            exact ⟨(hs.upd upd_drew).size, (hs.upd upd_drew).get⟩
          · simp only [tr0]
            exact hr_drew hr0
          · simp only [tr0]
            exact (reserve_updH (hr_drew hr))
          · unfold cnt
            exact Nat.le_trans List.countP_le_length (by simp)
      · cases h
  | true =>
    rw [hchk, cond_true] at hc
    cases hc
    have hD := drawn_spec hchk
    simp only [vstep] at h
    split at h
    · rename_i trl htr
      cases hlo : looseOk call l trl (looseOf l (before ops)) with
      | false => rw [hlo] at h; cases h
      | true =>
        rw [hlo, cond_true] at h
        obtain ⟨stn, hlast, hh⟩ := Option.map_eq_some_iff.1 h
        cases hh
        obtain ⟨t1, t2, t3⟩ := vtrace_spec htr
        have tr0 : trl.getD 0 st = st := by rw [List.getD_eq_getElem?_getD, t2]; rfl
        have trn : trl.getD ops.size st = st' := by
          rw [List.getLast?_eq_getElem?, t1] at hlast
          rw [List.getD_eq_getElem?_getD, ← hlen]
          simp at hlast
          rw [hlast]; rfl
        have g : Goes call l (fun i => trl.getD i st) := by
          intro i o ho
          obtain ⟨x, y, h1, h2, h3⟩ := t3 i o ho
          simp only [List.getD_eq_getElem?_getD, h1, h2, Option.getD_some]
          exact h3
        have hL : Loose call l (before ops) (fun i => trl.getD i st) := loose_of hlo fun i o ho _ => by
          obtain ⟨x, y, h1, h2, _⟩ := t3 i o ho
          exact ⟨x, y, h1, h2⟩
        apply wp_region_any hm
        refine any_ok (s := st.s) (K := 0) (φ := φ) hcall hl g hL hD (φ0 := φ) (w0 := w) (H0 := st.h) (a0 := a) (by simp only [trn]; exact hQ) ops.size ?_ ?_ ?_ ?_ rfl ?_
        · refine ⟨by simp, fun i h => ?_, fun i o t _ h => ?_, fun t _ => by simp only [tr0], fun j o _ _ => ?_, .inl rfl, Nat.zero_le _⟩
          · simp [Array.getD_eq_getD_getElem?, Array.getElem?_replicate] at h
            split at h <;> simp at h
          · simp [Array.getD_eq_getD_getElem?, Array.getElem?_replicate] at h
            split at h <;> simp at h
          · simp [Array.getD_eq_getD_getElem?, Array.getElem?_replicate]
            split <;> simp
        · simp only [tr0]
          exact hs.upd upd_drew
        · simp only [tr0]
          exact hr_drew hr
        · simp only [tr0]
          exact updH_drew _
        · unfold cnt
          exact Nat.le_trans List.countP_le_length (by simp)
    · cases h

end
end Go.Proofs.Ytinonmcnofjeeaa.VM
