/- Mixed regions: their check, their traces. -/
import Derived.Test.YtinonmcnofjeeaaVM18a
namespace Go.Proofs.Ytinonmcnofjeeaa.VM
set_option linter.unusedSimpArgs false
set_option linter.unusedVariables false
set_option linter.defProp false
set_option maxHeartbeats 1000000
open Go.RowKit

/-- What the check of a mixed region gives. -/
structure Mixed (ops : Array Oper) (l : List VO) (B : List (List Nat)) : Prop where
  first : ∀ i o, ops[i]? = some o → ∀ e ∈ edges o, e < i
  close : ∀ i o, ops[i]? = some o → ∀ j ∈ B.getD i [], ∃ e ∈ edges o, e = j ∨ j ∈ B.getD e []
  one : ∀ (i j : Nat) (x y : VO) (t : Nat), l[i]? = some x → l[j]? = some y → i ≠ j → x.dst = some t → y.dst ≠ some t
  looks : ∀ (i j : Nat) (x y : VO) (t : Nat), l[i]? = some x → l[j]? = some y → i ≠ j → x.dst = some t → t ∈ y.looks → (i < j ∧ i ∈ B.getD j []) ∨ (j < i ∧ j ∈ B.getD i [])
  acts : ∀ (i j : Nat) (x y : VO), l[i]? = some x → l[j]? = some y → x.acts = true → y.acts = true → i < j → i ∈ B.getD j [] ∨ y.op.fresh = true
  behind : ∀ (i j k : Nat) (o x y : VO), l[i]? = some o → o.op.kind = 1 → l[j]? = some x → x.acts = true → j ∈ B.getD i [] → l[k]? = some y → y.acts = true → k < j → k ∈ B.getD i []

theorem actAt_iff {l : List VO} {j : Nat} {x : VO} (h : l[j]? = some x) : actAt l j = x.acts := by unfold actAt; rw [h]
theorem mixed_spec {ops : Array Oper} {l : List VO} {B : List (List Nat)} (h : mixedChk ops.toList l B = true) : Mixed ops l B := by
  unfold mixedChk at h
  rw [Bool.and_eq_true, Bool.and_eq_true] at h
  obtain ⟨⟨h1, h2⟩, h3⟩ := h
  have hp : ∀ i j x y, l[i]? = some x → l[j]? = some y → mixPair B (x, i) (y, j) = true := fun i j x y hx hy => zip_all (zip_all h2 hx) hy
  refine ⟨fun i o ho e he => ?_, fun i o ho j hj => ?_, fun i j x y t hx hy hij hd => ?_, fun i j x y t hx hy hij hd hl => ?_, fun i j x y hx hy ha hb hij => ?_, fun i j k o x y ho hk hx ha hj hy hb hkj => ?_⟩
  · have := zip_all h1 (by simpa using ho)
    rw [Bool.and_eq_true, List.all_eq_true] at this
    simpa using this.1 e he
  · have := zip_all h1 (by simpa using ho)
    rw [Bool.and_eq_true, List.all_eq_true, List.all_eq_true] at this
    have := this.2 j hj
    rw [List.any_eq_true] at this
    obtain ⟨e, he, h⟩ := this
    refine ⟨e, he, ?_⟩
    simpa [T.beq_dec] using h
  · have := hp i j x y hx hy
    simp only [mixPair, T.beq_dec, hd, hij, decide_false, Bool.false_or, Bool.and_eq_true] at this
    simpa using this.1.1
  · have := hp i j x y hx hy
    simp only [mixPair, T.beq_dec, hd, hij, decide_false, Bool.false_or, Bool.and_eq_true, Bool.or_eq_true, Bool.not_eq_true', List.contains_iff_mem, Nat.blt_eq] at this
    rcases this.1.2 with (h | h) | h
    · simp [hl] at h
    · exact .inl h
    · exact .inr h
  · have := hp i j x y hx hy
    simp only [mixPair, T.beq_dec, Nat.ne_of_lt hij, decide_false, Bool.false_or, Bool.and_eq_true, Bool.or_eq_true, Bool.not_eq_true', List.contains_iff_mem] at this
    rcases this.2 with (h | h) | h
    · have hb' : i.blt j = true := by rw [Nat.blt_eq]; exact hij
      simp [ha, hb, hb'] at h
    · exact .inl h
    · exact .inr h
  · have := zip_all h3 ho
    have hbk : Nat.beq o.op.kind 1 = true := by rw [hk]; rfl
    simp only [hbk, Bool.not_true, Bool.false_or, List.all_eq_true, List.mem_range] at this
    have hjl : j < l.length := (List.getElem?_eq_some_iff.1 hx).1
    have h4 := this j hjl
    rw [actAt_iff hx, ha] at h4
    have hc : (B.getD i []).contains j = true := by rw [List.contains_iff_mem]; exact hj
    simp only [hc, Bool.and_self, Bool.not_true, Bool.false_or, List.all_eq_true, List.mem_range] at h4
    have h5 := h4 k hkj
    rw [actAt_iff hy, hb] at h5
    simpa [List.contains_iff_mem] using h5

section
variable {P : Program} {nt : Nat} {ops : Array Oper} {l : List VO} {B : List (List Nat)} {call : Nat → List AV → Heap → Option (AV × Heap)} {base : Nat} {tr : Nat → St}
/-- a trace, by places -/
def GoesM (call : Nat → List AV → Heap → Option (AV × Heap)) (base : Nat) (l : List VO) (tr : Nat → St) : Prop := ∀ i o, l[i]? = some o → vdo call (tr i) (nameAt base i o (tr i).h) o = some (tr (i + 1))

theorem GoesM.keep (g : GoesM call base l tr) {i : Nat} {o : VO} (ho : l[i]? = some o) {t : Nat} (hd : o.dst ≠ some t) : (tr (i + 1)).get t = (tr i).get t := by
  obtain ⟨v, h1, _⟩ := vdo_congr (st' := tr i) (fun _ _ => rfl) rfl (g i o ho)
  rw [h1, St.get_put, if_neg hd]
  rfl

theorem GoesM.heap (g : GoesM call base l tr) {i : Nat} : ∀ {k : Nat}, i ≤ k → k ≤ l.length → (∀ j o, l[j]? = some o → i ≤ j → j < k → o.acts = false) → (tr k).h = (tr i).h
  | 0, hik, _, _ => by rw [show i = 0 by omega]
  | k + 1, hik, hk, ha => by
    by_cases e : i = k + 1
    · rw [e]
    · obtain ⟨o, ho⟩ : ∃ o, l[k]? = some o := ⟨l[k]'(by omega), List.getElem?_eq_getElem (by omega)⟩
      have h1 := ha k o ho (by omega) (by omega)
      have h2 : o.op.kind ≠ 2 := by
        intro e
        simp [VO.acts, e] at h1
      rw [vdo_still h2 (g k o ho)]
      exact GoesM.heap g (by omega) (by omega) fun j o hj h3 h4 => ha j o hj h3 (by omega)

theorem GoesM.old (g : GoesM call base l tr) {t : Nat} : ∀ {i : Nat}, i ≤ l.length → (∀ j o, l[j]? = some o → j < i → o.dst ≠ some t) → (tr i).get t = (tr 0).get t
  | 0, _, _ => rfl
  | i + 1, hi, h => by
    obtain ⟨o, ho⟩ : ∃ o, l[i]? = some o := ⟨l[i]'(by omega), List.getElem?_eq_getElem (by omega)⟩
    rw [g.keep ho (h i o ho (by omega))]
    exact GoesM.old g (by omega) fun j o hj h1 => h j o hj (by omega)

theorem GoesM.got (g : GoesM call base l tr) (hD : Mixed ops l B) {j : Nat} {y : VO} {t : Nat} (hy : l[j]? = some y) (hd : y.dst = some t) : ∀ {i : Nat}, j < i → i ≤ l.length → (tr i).get t = (tr (j + 1)).get t
  | 0, h, _ => by omega
  | i + 1, h, hi => by
    by_cases e : j = i
    · rw [e]
    · obtain ⟨o, ho⟩ : ∃ o, l[i]? = some o := ⟨l[i]'(by omega), List.getElem?_eq_getElem (by omega)⟩
      rw [g.keep ho (hD.one j i y o t hy ho e hd)]
      exact GoesM.got g hD hy hd (by omega) (by omega)


end
end Go.Proofs.Ytinonmcnofjeeaa.VM
