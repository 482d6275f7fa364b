/- Regions whose order is drawn, in whatever order. -/
import Derived.Test.YtinonmcnofjeeaaVM16
namespace Go.Proofs.Ytinonmcnofjeeaa.VM
set_option linter.unusedSimpArgs false
set_option linter.unusedVariables false
set_option linter.defProp false
set_option maxHeartbeats 1000000
open Go.RowKit

section
variable {call : Nat → List AV → Heap → Option (AV × Heap)} {st st' st1 : St} {o : VO} {nm nm' : Nat}

theorem wanted_congr {g : Option (Nat × Bool)} (h : ∀ t, (∃ b, g = some (t, b)) → st.get t = st'.get t) : wanted st g = wanted st' g := by
  cases g with
  | none => rfl
  | some p =>
    obtain ⟨t, b⟩ := p
    simp only [wanted, h t ⟨b, rfl⟩]

/-- One operation, by its looks and memory alone. -/
theorem vdo_congr (h : ∀ t ∈ o.looks, st.get t = st'.get t) (hh : st.h = st'.h) (e : vdo call st nm o = some st1) :
    ∃ v, st1 = St.put ⟨st.s, st1.h⟩ o.dst v ∧ vdo call st' nm o = some (St.put ⟨st'.s, st1.h⟩ o.dst v) := by
  have hw : wanted st o.guard = wanted st' o.guard := wanted_congr fun t ⟨b, hb⟩ => h t (by simp [VO.looks, hb])
  have ho : vop st nm o.op = vop st' nm o.op := vop_congr (fun t ht => h t (by simp [VO.looks, ht])) hh nm
  unfold vdo at e ⊢
  rw [← hw, ← ho, ← hh]
  cases hwv : wanted st o.guard with
  | false =>
    rw [hwv] at e
    simp only [cond_false, Option.some.injEq] at e ⊢
    subst e
    refine ⟨.undef, by rw [St.put_h], ?_⟩
    rw [St.put_h, hh]
  | true =>
    rw [hwv] at e
    simp only [cond_true] at e ⊢
    split at e
    · cases e
      exact ⟨_, by rw [St.put_h], by simp only [St.put_h]⟩
    · cases e
    · split at e
      · rename_i v h2 hc
        cases e
        exact ⟨v, by rw [St.put_h], by simp only [St.put_h]⟩
      · cases e

theorem vdo_still (hk : o.op.kind ≠ 2) (e : vdo call st nm o = some st1) : st1.h = st.h := by
  obtain ⟨_, h2, h3⟩ := vop_still (st := st) hk nm nm
  unfold vdo at e
  cases hwv : wanted st o.guard with
  | false =>
    rw [hwv] at e
    cases e
    rw [St.put_h]
  | true =>
    rw [hwv] at e
    simp only [cond_true] at e
    split at e
    · rename_i v h hv
      cases e
      rw [St.put_h]
      exact h2 v h hv
    · cases e
    · rename_i f args hv
      exact absurd hv (h3 f args)

theorem vdo_name (hk : o.op.kind ≠ 2) (nm nm' : Nat) : vdo call st nm o = vdo call st nm' o := by
  unfold vdo
  rw [(vop_still (st := st) hk nm nm').1]

theorem vdo_quiet {s : T AV} {h : Heap} (hk : o.op.kind = 0) (e : vdo call ⟨s, h⟩ nm o = some st1) (h' : Heap) (nm' : Nat) :
    ∃ v, st1 = St.put ⟨s, h⟩ o.dst v ∧ vdo call ⟨s, h'⟩ nm' o = some (St.put ⟨s, h'⟩ o.dst v) := by
  have hs := vdo_still (by rw [hk]; simp) e
  have hw : wanted ⟨s, h'⟩ o.guard = wanted ⟨s, h⟩ o.guard := wanted_congr fun t _ => rfl
  unfold vdo at e ⊢
  rw [hw]
  cases hwv : wanted ⟨s, h⟩ o.guard with
  | false =>
    rw [hwv] at e
    cases e
    exact ⟨.undef, rfl, rfl⟩
  | true =>
    rw [hwv] at e
    simp only [cond_true] at e ⊢
    split at e
    · rename_i v h1 hv
      cases e
      rw [St.put_h] at hs
      have hs' : h1 = h := hs
      subst hs'
      refine ⟨v, rfl, ?_⟩
      rw [vop_quiet hk hv h' nm']
    · cases e
    · rename_i f args hv
      exact absurd hv ((vop_still (st := ⟨s, h⟩) (by rw [hk]; simp) nm nm).2.2 f args)

/-- the trace, step by step -/
theorem vtrace_spec : ∀ {l : List VO} {st : St} {tr : List St}, vtrace call l st = some tr → tr.length = l.length + 1 ∧ tr[0]? = some st ∧
    ∀ i o, l[i]? = some o → ∃ a b, tr[i]? = some a ∧ tr[i + 1]? = some b ∧ vdo call a a.h.next o = some b
  | [], st, tr, h => by
    cases h
    exact ⟨rfl, rfl, fun i o h => by simp at h⟩
  | x :: l, st, tr, h => by
    simp only [vtrace] at h
    split at h
    · rename_i st1 h1
      obtain ⟨tr', h2, rfl⟩ := Option.map_eq_some_iff.1 h
      obtain ⟨a1, a2, a3⟩ := vtrace_spec h2
      refine ⟨by simp [a1], rfl, fun i o ho => ?_⟩
      cases i with
      | zero =>
        simp at ho
        subst ho
        exact ⟨st, st1, rfl, by simpa using a2, h1⟩
      | succ i =>
        obtain ⟨a, b, b1, b2, b3⟩ := a3 i o (by simpa using ho)
        exact ⟨a, b, by simpa using b1, by simpa using b2, b3⟩
    · cases h
end

/-- What the check of a drawn region gives. -/
structure Drawn (ops : Array Oper) (l : List VO) (B : List (List Nat)) : Prop where
  first : ∀ i o, ops[i]? = some o → ∀ e ∈ edges o, e < i
  close : ∀ i o, ops[i]? = some o → ∀ j ∈ B.getD i [], ∃ e ∈ edges o, e = j ∨ j ∈ B.getD e []
  one : ∀ (i j : Nat) (x y : VO) (t : Nat), l[i]? = some x → l[j]? = some y → i ≠ j → x.dst = some t → y.dst ≠ some t
  looks : ∀ (i j : Nat) (x y : VO) (t : Nat), l[i]? = some x → l[j]? = some y → i ≠ j → x.dst = some t → t ∈ y.looks → (i < j ∧ i ∈ B.getD j []) ∨ (j < i ∧ j ∈ B.getD i [])
  acts : ∀ (i j : Nat) (x y : VO), l[i]? = some x → l[j]? = some y → x.acts = true → y.acts = true → i < j → i ∈ B.getD j []

theorem zip_all {α : Type} {l : List α} {p : α × Nat → Bool} (h : l.zipIdx.all p = true) {i : Nat} {x : α} (hx : l[i]? = some x) : p (x, i) = true := by
  rw [List.all_eq_true] at h
  refine h (x, i) ?_
  rw [List.mem_zipIdx_iff_getElem?]
  exact hx

theorem drawn_spec {ops : Array Oper} {l : List VO} {B : List (List Nat)} (h : drawnChk ops.toList l B = true) : Drawn ops l B := by
  unfold drawnChk at h
  rw [Bool.and_eq_true] at h
  obtain ⟨h1, h2⟩ := h
  have hp : ∀ i j x y, l[i]? = some x → l[j]? = some y → pairChk B (x, i) (y, j) = true := fun i j x y hx hy => zip_all (zip_all h2 hx) hy
  refine ⟨fun i o ho e he => ?_, fun i o ho j hj => ?_, fun i j x y t hx hy hij hd => ?_, fun i j x y t hx hy hij hd hl => ?_, fun i j x y hx hy ha hb hij => ?_⟩
  · have := zip_all h1 (by simpa using ho)
    rw [Bool.and_eq_true, List.all_eq_true] at this
    simpa using this.1 e he
  · have := zip_all h1 (by simpa using ho)
    rw [Bool.and_eq_true, List.all_eq_true, List.all_eq_true] at this
    have := this.2 j hj
    rw [List.any_eq_true] at this
    obtain ⟨e, he, h⟩ := this
    refine ⟨e, he, ?_⟩
    simpa [T.beq_dec] using h
  · have := hp i j x y hx hy
    simp only [pairChk, T.beq_dec, hd, hij, decide_false, Bool.false_or, Bool.and_eq_true] at this
    simpa using this.1.1
  · have := hp i j x y hx hy
    simp only [pairChk, T.beq_dec, hd, hij, decide_false, Bool.false_or, Bool.and_eq_true, Bool.or_eq_true, Bool.not_eq_true', List.contains_iff_mem, Nat.blt_eq] at this
    rcases this.1.2 with (h | h) | h
    · simp [hl] at h
    · exact .inl h
    · exact .inr h
  · have := hp i j x y hx hy
    simp only [pairChk, T.beq_dec, Nat.ne_of_lt hij, decide_false, Bool.false_or, Bool.and_eq_true, Bool.or_eq_true, Bool.not_eq_true', List.contains_iff_mem] at this
    rcases this.2 with h | h
    · have hb' : i.blt j = true := by rw [Nat.blt_eq]; exact hij
      simp [ha, hb, hb'] at h
    · exact h

end Go.Proofs.Ytinonmcnofjeeaa.VM
