/- Mixed regions: names ahead, new blocks out of slots alone, traces. -/
import Derived.Test.YtinonmcnofjeeaaVM16
namespace Go.Proofs.Ytinonmcnofjeeaa.VM
set_option linter.unusedSimpArgs false
set_option linter.unusedVariables false
set_option linter.defProp false
set_option maxHeartbeats 1000000
open Go.RowKit

namespace T
variable {α : Type}
def del : T α → Nat → T α
  | .e, _ => .e
  | .n l x r, i => if i = 0 then .n l none r else if i % 2 = 1 then .n (l.del (i / 2)) x r else .n l x (r.del (i / 2 - 1))
theorem get_del : ∀ (t : T α) (i j : Nat), (t.del i).get j = if j = i then none else t.get j
  | .e, i, j => by simp [del, get_e]
  | .n l x r, i, j => by
    rw [del]
    by_cases h0 : i = 0
    · rw [if_pos h0, get_n, get_n]
      by_cases j0 : j = 0
      · rw [if_pos j0, if_pos (show j = i by omega)]
      · have ji : ¬ j = i := by omega
        simp only [if_neg j0, if_neg ji]
    · rw [if_neg h0]
      by_cases h1 : i % 2 = 1
      · rw [if_pos h1, get_n, get_n]
        by_cases j0 : j = 0
        · rw [if_pos j0, if_neg (by omega), if_pos j0]
        · rw [if_neg j0, if_neg j0]
          by_cases j1 : j % 2 = 1
          · rw [if_pos j1, if_pos j1, get_del l]
            by_cases e : j = i
            · rw [if_pos (by omega), if_pos e]
            · rw [if_neg (by omega), if_neg e]
          · rw [if_neg j1, if_neg j1, if_neg (by omega)]
      · rw [if_neg h1, get_n, get_n]
        by_cases j0 : j = 0
        · rw [if_pos j0, if_neg (by omega), if_pos j0]
        · rw [if_neg j0, if_neg j0]
          by_cases j1 : j % 2 = 1
          · rw [if_pos j1, if_pos j1, if_neg (by omega)]
          · rw [if_neg j1, if_neg j1, get_del r]
            by_cases e : j = i
            · rw [if_pos (by omega), if_pos e]
            · rw [if_neg (by omega), if_neg e]
end T
/-- memory with a name taken out -/
def Heap.del (h : Heap) (b : Nat) : Heap := ⟨h.next, h.t.del b⟩
theorem Heap.get_del (h : Heap) (b c : Nat) : (h.del b).get c = if c = b then none else h.get c := T.get_del _ _ _

section
variable {φ : Env} {w : World} {H H' : Heap}
/-- what memory stands for is told by its looks -/
theorem HR.ext (hr : HR φ w H) (e : ∀ b, H'.get b = H.get b) (hn : ∀ b, H'.next ≤ b → H'.get b = none) : HR φ w H' :=
  ⟨fun b => by rw [e]; exact hr.blk b, hr.lt, fun b b' p p' h1 h2 => by rw [e] at h1 h2; exact hr.inj b b' p p' h1 h2, hn⟩
theorem HR.del (hr : HR φ w H) {b : Nat} (hb : φ b = none) : HR φ w (H.del b) := by
  refine ⟨fun c => ?_, hr.lt, fun c c' p p' h1 h2 => ?_, fun c hc => ?_⟩
  · rw [Heap.get_del]
    by_cases e : c = b
    · rw [if_pos e, e]; exact hb
    · rw [if_neg e]; exact hr.blk c
  · rw [Heap.get_del] at h1 h2
    have L : ∀ {d : Nat}, live (if d = b then none else H.get d) = true → live (H.get d) = true := by
      intro d hd
      by_cases ed : d = b
      · rw [if_pos ed] at hd; cases hd
      · rw [if_neg ed] at hd; exact hd
    exact hr.inj c c' p p' (L h1) (L h2)
  · rw [Heap.get_del]
    by_cases e : c = b
    · rw [if_pos e]
    · rw [if_neg e]; exact hr.next c hc
theorem UpdH.exact {φ0 : Env} {w0 : World} {H0 : Heap} (u : UpdH φ0 w0 H0 φ w H) (e : ∀ b, H'.get b = H.get b) : UpdH φ0 w0 H0 φ w H' :=
  { toUpd := u.toUpd, keepL := u.keepL, deadL := fun b h1 h2 => by rw [e]; exact u.deadL b h1 h2, newL := fun b B o h1 h2 => by rw [e] at h1; exact u.newL b B o h1 h2, stay := fun b h => by rw [e]; exact u.stay b h }
/-- fewer living names -/
theorem UpdH.fewer {φ0 : Env} {w0 : World} {H0 : Heap} (u : UpdH φ0 w0 H0 φ w H) (e : ∀ b, live (H'.get b) = true → live (H.get b) = true) (k : ∀ b, H0.get b ≠ none → H'.get b ≠ none) : UpdH φ0 w0 H0 φ w H' :=
  { toUpd := u.toUpd, keepL := u.keepL
    deadL := fun b h1 h2 => by
      obtain ⟨a1, a2, a3⟩ := u.deadL b h1 h2
      refine ⟨k b h1, ?_, a3⟩
      cases h : live (H'.get b) with
      | false => rfl
      | true => have := e b h; rw [a2] at this; cases this
    newL := fun b B o h1 h2 => u.newL b B o (e b h1) h2, stay := k }

/-- A new block out of slots alone: its value and block are the same whatever memory. -/
theorem vop_fresh {op : VOp} (hf : op.fresh = true) {s : T AV} {h h1 : Heap} {nm : Nat} {v : AV} (e : vop ⟨s, h⟩ nm op = .val v h1) :
    ∃ x, h1 = h.mk' nm x ∧ live (some x) = true ∧ ∀ h', vop ⟨s, h'⟩ nm op = .val v (h'.mk' nm x) := by
  have ev : ∀ (x : Opd) (h' : Heap), Opd.eval ⟨s, h⟩ x = Opd.eval ⟨s, h'⟩ x := by
    intro x h'; cases x <;> rfl
  cases op <;> simp only [VOp.fresh] at hf <;> try (cases hf; done)
  case alloc z t => cases e; exact ⟨_, rfl, rfl, fun _ => rfl⟩
  case mkmap => cases e; exact ⟨_, rfl, rfl, fun _ => rfl⟩
  case box t x =>
    simp only [vop] at e
    split at e
    · rename_i c hc
      cases e
      exact ⟨_, rfl, rfl, fun h' => by simp only [vop, ← ev x h', hc]⟩
    · cases e
  case bslice z t n ps =>
    simp only [vop] at e
    split at e
    · rename_i c hc
      cases e
      refine ⟨_, rfl, rfl, fun h' => ?_⟩
      have ep : (ps.map fun (o, n, x) => (o, n, Opd.eval ⟨s, h'⟩ x)) = (ps.map fun (o, n, x) => (o, n, Opd.eval ⟨s, h⟩ x)) := List.map_congr_left fun p _ => by
        show (p.1, p.2.1, Opd.eval ⟨s, h'⟩ p.2.2) = (p.1, p.2.1, Opd.eval ⟨s, h⟩ p.2.2)
        rw [ev _ h']
      simp only [vop]
      rw [ep, hc]
    · cases e
  case mkslice z t b l c =>
    simp only [vop] at e
    split at e
    · rename_i n m h1' h2'
      split at e
      · rename_i hc
        cases e
        exact ⟨_, rfl, rfl, fun h' => by simp only [vop, ← ev l h', ← ev c h', h1', h2']; rw [if_pos hc]⟩
      · cases e
    · cases e
end

section
variable {call : Nat → List AV → Heap → Option (AV × Heap)} {base : Nat}
theorem mtrace_spec : ∀ {l : List VO} {k : Nat} {st : St} {tr : List St}, mtrace call base l k st = some tr → tr.length = l.length + 1 ∧ tr[0]? = some st ∧
    ∀ i o, l[i]? = some o → ∃ a b, tr[i]? = some a ∧ tr[i + 1]? = some b ∧ vdo call a (nameAt base (k + i) o a.h) o = some b
  | [], k, st, tr, h => by
    cases h
    exact ⟨rfl, rfl, fun i o h => by simp at h⟩
  | x :: l, k, st, tr, h => by
    simp only [mtrace] at h
    split at h
    · rename_i st1 h1
      obtain ⟨tr', h2, rfl⟩ := Option.map_eq_some_iff.1 h
      obtain ⟨a1, a2, a3⟩ := mtrace_spec h2
      refine ⟨by simp [a1], rfl, fun i o ho => ?_⟩
      cases i with
      | zero =>
        simp at ho
        subst ho
        exact ⟨st, st1, rfl, by simpa using a2, h1⟩
      | succ i =>
        obtain ⟨a, b, b1, b2, b3⟩ := a3 i o (by simpa using ho)
        exact ⟨a, b, by simpa using b1, by simpa using b2, by rw [show k + (i + 1) = k + 1 + i by omega]; exact b3⟩
    · cases h
open Classical in
/-- the names that are kept ahead -/
theorem reserve_get : ∀ (l : List VO) (k : Nat) (h : Heap) (b : Nat), (reserve base l k h).get b = if ∃ i o, l[i]? = some o ∧ o.op.fresh = true ∧ b = base + (k + i) then some .dead else h.get b
  | [], k, h, b => by simp [reserve]
  | x :: l, k, h, b => by
    rw [reserve, reserve_get l (k + 1)]
    have key : (∃ i o, (x :: l)[i]? = some o ∧ o.op.fresh = true ∧ b = base + (k + i)) ↔ ((x.op.fresh = true ∧ b = base + k) ∨ ∃ i o, l[i]? = some o ∧ o.op.fresh = true ∧ b = base + (k + 1 + i)) := by
      constructor
      · rintro ⟨i, o, h1, h2, h3⟩
        cases i with
        | zero => simp at h1; subst h1; exact .inl ⟨h2, by simpa using h3⟩
        | succ i => exact .inr ⟨i, o, by simpa using h1, h2, by omega⟩
      · rintro (⟨h1, h2⟩ | ⟨i, o, h1, h2, h3⟩)
        · exact ⟨0, x, rfl, h1, by simpa using h2⟩
        · exact ⟨i + 1, o, by simpa using h1, h2, by omega⟩
    by_cases h1 : ∃ i o, l[i]? = some o ∧ o.op.fresh = true ∧ b = base + (k + 1 + i)
    · rw [if_pos h1, if_pos (key.2 (.inr h1))]
    · rw [if_neg h1]
      cases hx : x.op.fresh with
      | false => rw [cond_false, if_neg (fun e => by rcases key.1 e with ⟨a, _⟩ | a; (rw [hx] at a; cases a); exact h1 a)]
      | true =>
        rw [cond_true, Heap.get_mk]
        by_cases hb : b = base + k
        · rw [if_pos hb, if_pos (key.2 (.inl ⟨hx, hb⟩))]
        · rw [if_neg hb, if_neg (fun e => by rcases key.1 e with ⟨_, a⟩ | a; exact hb a; exact h1 a)]
end
open Go.RowKit

/-- What the check of a mixed region gives. -/
structure Mixed (ops : Array Oper) (l : List VO) (B : List (List Nat)) : Prop where
  first : ∀ i o, ops[i]? = some o → ∀ e ∈ edges o, e < i
  close : ∀ i o, ops[i]? = some o → ∀ j ∈ B.getD i [], ∃ e ∈ edges o, e = j ∨ j ∈ B.getD e []
  one : ∀ (i j : Nat) (x y : VO) (t : Nat), l[i]? = some x → l[j]? = some y → i ≠ j → x.dst = some t → y.dst ≠ some t
  looks : ∀ (i j : Nat) (x y : VO) (t : Nat), l[i]? = some x → l[j]? = some y → i ≠ j → x.dst = some t → t ∈ y.looks → (i < j ∧ i ∈ B.getD j []) ∨ (j < i ∧ j ∈ B.getD i [])
  acts : ∀ (i j : Nat) (x y : VO), l[i]? = some x → l[j]? = some y → x.acts = true → y.acts = true → i < j → i ∈ B.getD j [] ∨ y.op.fresh = true
  behind : ∀ (i j k : Nat) (o x y : VO), l[i]? = some o → o.op.kind = 1 → l[j]? = some x → x.acts = true → j ∈ B.getD i [] → l[k]? = some y → y.acts = true → k < j → k ∈ B.getD i []

theorem actAt_iff {l : List VO} {j : Nat} {x : VO} (h : l[j]? = some x) : actAt l j = x.acts := by unfold actAt; rw [h]
theorem mixed_spec {ops : Array Oper} {l : List VO} {B : List (List Nat)} (h : mixedChk ops.toList l B = true) : Mixed ops l B := by
  unfold mixedChk at h
  rw [Bool.and_eq_true, Bool.and_eq_true] at h
  obtain ⟨⟨h1, h2⟩, h3⟩ := h
  have hp : ∀ i j x y, l[i]? = some x → l[j]? = some y → mixPair B (x, i) (y, j) = true := fun i j x y hx hy => zip_all (zip_all h2 hx) hy
  refine ⟨fun i o ho e he => ?_, fun i o ho j hj => ?_, fun i j x y t hx hy hij hd => ?_, fun i j x y t hx hy hij hd hl => ?_, fun i j x y hx hy ha hb hij => ?_, fun i j k o x y ho hk hx ha hj hy hb hkj => ?_⟩
  · have := zip_all h1 (by simpa using ho)
    rw [Bool.and_eq_true, List.all_eq_true] at this
    simpa using this.1 e he
  · have := zip_all h1 (by simpa using ho)
    rw [Bool.and_eq_true, List.all_eq_true, List.all_eq_true] at this
    have := this.2 j hj
    rw [List.any_eq_true] at this
    obtain ⟨e, he, h⟩ := this
    refine ⟨e, he, ?_⟩
    simpa [T.beq_dec] using h
  · have := hp i j x y hx hy
    simp only [mixPair, T.beq_dec, hd, hij, decide_false, Bool.false_or, Bool.and_eq_true] at this
    simpa using this.1.1
  · have := hp i j x y hx hy
    simp only [mixPair, T.beq_dec, hd, hij, decide_false, Bool.false_or, Bool.and_eq_true, Bool.or_eq_true, Bool.not_eq_true', List.contains_iff_mem, Nat.blt_eq] at this
    rcases this.1.2 with (h | h) | h
    · simp [hl] at h
    · exact .inl h
    · exact .inr h
  · have := hp i j x y hx hy
    simp only [mixPair, T.beq_dec, Nat.ne_of_lt hij, decide_false, Bool.false_or, Bool.and_eq_true, Bool.or_eq_true, Bool.not_eq_true', List.contains_iff_mem] at this
    rcases this.2 with (h | h) | h
    · have hb' : i.blt j = true := by rw [Nat.blt_eq]; exact hij
      simp [ha, hb, hb'] at h
    · exact .inl h
    · exact .inr h
  · have := zip_all h3 ho
    have hbk : Nat.beq o.op.kind 1 = true := by rw [hk]; rfl
    simp only [hbk, Bool.not_true, Bool.false_or, List.all_eq_true, List.mem_range] at this
    have hjl : j < l.length := (List.getElem?_eq_some_iff.1 hx).1
    have h4 := this j hjl
    rw [actAt_iff hx, ha] at h4
    have hc : (B.getD i []).contains j = true := by rw [List.contains_iff_mem]; exact hj
    simp only [hc, Bool.and_self, Bool.not_true, Bool.false_or, List.all_eq_true, List.mem_range] at h4
    have h5 := h4 k hkj
    rw [actAt_iff hy, hb] at h5
    simpa [List.contains_iff_mem] using h5

section
variable {P : Program} {nt : Nat} {ops : Array Oper} {l : List VO} {B : List (List Nat)} {call : Nat → List AV → Heap → Option (AV × Heap)} {base : Nat} {tr : Nat → St}
/-- a trace, by places -/
def GoesM (call : Nat → List AV → Heap → Option (AV × Heap)) (base : Nat) (l : List VO) (tr : Nat → St) : Prop := ∀ i o, l[i]? = some o → vdo call (tr i) (nameAt base i o (tr i).h) o = some (tr (i + 1))

theorem GoesM.keep (g : GoesM call base l tr) {i : Nat} {o : VO} (ho : l[i]? = some o) {t : Nat} (hd : o.dst ≠ some t) : (tr (i + 1)).get t = (tr i).get t := by
  obtain ⟨v, h1, _⟩ := vdo_congr (st' := tr i) (fun _ _ => rfl) rfl (g i o ho)
  rw [h1, St.get_put, if_neg hd]
  rfl

theorem GoesM.heap (g : GoesM call base l tr) {i : Nat} : ∀ {k : Nat}, i ≤ k → k ≤ l.length → (∀ j o, l[j]? = some o → i ≤ j → j < k → o.acts = false) → (tr k).h = (tr i).h
  | 0, hik, _, _ => by rw [show i = 0 by omega]
  | k + 1, hik, hk, ha => by
    by_cases e : i = k + 1
    · rw [e]
    · obtain ⟨o, ho⟩ : ∃ o, l[k]? = some o := ⟨l[k]'(by omega), List.getElem?_eq_getElem (by omega)⟩
      have h1 := ha k o ho (by omega) (by omega)
      have h2 : o.op.kind ≠ 2 := by
        intro e
        simp [VO.acts, e] at h1
      rw [vdo_still h2 (g k o ho)]
      exact GoesM.heap g (by omega) (by omega) fun j o hj h3 h4 => ha j o hj h3 (by omega)

theorem GoesM.old (g : GoesM call base l tr) {t : Nat} : ∀ {i : Nat}, i ≤ l.length → (∀ j o, l[j]? = some o → j < i → o.dst ≠ some t) → (tr i).get t = (tr 0).get t
  | 0, _, _ => rfl
  | i + 1, hi, h => by
    obtain ⟨o, ho⟩ : ∃ o, l[i]? = some o := ⟨l[i]'(by omega), List.getElem?_eq_getElem (by omega)⟩
    rw [g.keep ho (h i o ho (by omega))]
    exact GoesM.old g (by omega) fun j o hj h1 => h j o hj (by omega)

theorem GoesM.got (g : GoesM call base l tr) (hD : Mixed ops l B) {j : Nat} {y : VO} {t : Nat} (hy : l[j]? = some y) (hd : y.dst = some t) : ∀ {i : Nat}, j < i → i ≤ l.length → (tr i).get t = (tr (j + 1)).get t
  | 0, h, _ => by omega
  | i + 1, h, hi => by
    by_cases e : j = i
    · rw [e]
    · obtain ⟨o, ho⟩ : ∃ o, l[i]? = some o := ⟨l[i]'(by omega), List.getElem?_eq_getElem (by omega)⟩
      rw [g.keep ho (hD.one j i y o t hy ho e hd)]
      exact GoesM.got g hD hy hd (by omega) (by omega)


end
open Go.RowKit
section
variable {P : Program} {nt : Nat} {ops : Array Oper} {l : List VO} {B : List (List Nat)} {call : Nat → List AV → Heap → Option (AV × Heap)} {base : Nat} {tr : Nat → St} {listed : Array Bool} {s : T AV} {K : Nat}

/-- what is listed, the slots -/
structure Slots (ops : Array Oper) (l : List VO) (B : List (List Nat)) (tr : Nat → St) (listed : Array Bool) (s : T AV) : Prop where
  size : listed.size = ops.size
  closed : ∀ i, listed.getD i false = true → ∀ j ∈ B.getD i [], listed.getD j false = true
  got : ∀ (i : Nat) (o : VO) (t : Nat), l[i]? = some o → listed.getD i false = true → o.dst = some t → St.get ⟨s, (tr 0).h⟩ t = (tr (i + 1)).get t
  old : ∀ t, (∀ (i : Nat) (o : VO), l[i]? = some o → listed.getD i false = true → o.dst ≠ some t) → St.get ⟨s, (tr 0).h⟩ t = (tr 0).get t

theorem Slots.looks (hv : Slots ops l B tr listed s) (g : GoesM call base l tr) (hD : Mixed ops l B) {i : Nat} {o : VO} (ho : l[i]? = some o) (hi : listed.getD i false = false) (hB : ∀ j ∈ B.getD i [], listed.getD j false = true)
    {t : Nat} (ht : t ∈ o.looks) : St.get ⟨s, (tr 0).h⟩ t = (tr i).get t := by
  have hil : i < l.length := (List.getElem?_eq_some_iff.1 ho).1
  by_cases hex : ∃ j y, l[j]? = some y ∧ y.dst = some t ∧ j ≠ i
  · obtain ⟨j, y, hy, hd, hne⟩ := hex
    rcases hD.looks j i y o t hy ho hne hd ht with ⟨h1, h2⟩ | ⟨h1, h2⟩
    · rw [hv.got j y t hy (hB j h2) hd, g.got hD hy hd h1 (by omega)]
    · have hnj : listed.getD j false ≠ true := fun e => by
        have := hv.closed j e i h2
        rw [hi] at this; cases this
      have e1 : St.get ⟨s, (tr 0).h⟩ t = (tr 0).get t := hv.old t fun k z hz hk hdz => by
        by_cases e : k = j
        · subst e; exact hnj hk
        · exact hD.one k j z y t hz hy e hdz hd
      have e2 : (tr i).get t = (tr 0).get t := g.old (by omega) fun k z hz hk hdz => by
        by_cases e : k = j
        · omega
        · exact hD.one k j z y t hz hy e hdz hd
      rw [e1, e2]
  · have hno : ∀ j y, l[j]? = some y → j ≠ i → y.dst ≠ some t := fun j y hy hne hd => hex ⟨j, y, hy, hd, hne⟩
    have e1 : St.get ⟨s, (tr 0).h⟩ t = (tr 0).get t := hv.old t fun k z hz hk => hno k z hz fun e => by
      subst e
      rw [hi] at hk; cases hk
    have e2 : (tr i).get t = (tr 0).get t := g.old (by omega) fun k z hz hk => hno k z hz (by omega)
    rw [e1, e2]

/-- what is listed next -/
theorem Slots.next (hv : Slots ops l B tr listed s) (hD : Mixed ops l B) {i : Nat} {o : VO} (ho : l[i]? = some o) (hn : i < ops.size) (hB : ∀ j ∈ B.getD i [], listed.getD j false = true)
    {v : AV} (hval : ∀ d, o.dst = some d → v = (tr (i + 1)).get d) (h' : Heap) :
    Slots ops l B tr (listed.setIfInBounds i true) (St.put ⟨s, h'⟩ o.dst v).s := by
  have hlt : i < listed.size := by rw [hv.size]; exact hn
  have hget : ∀ t, St.get ⟨(St.put ⟨s, h'⟩ o.dst v).s, (tr 0).h⟩ t = if o.dst = some t then v else St.get ⟨s, (tr 0).h⟩ t := by
    intro t
    have := St.get_put ⟨s, h'⟩ o.dst v t
    exact this
  refine ⟨by simp [hv.size], fun j hj k hk => ?_, fun j y t hy hj hd => ?_, fun t hno => ?_⟩
  · rw [set_getD _ hlt] at hj ⊢
    by_cases e : k = i
    · rw [if_pos e]
    · rw [if_neg e]
      by_cases e' : j = i
      · subst e'; exact hB k hk
      · rw [if_neg e'] at hj
        exact hv.closed j hj k hk
  · rw [hget]
    by_cases e : j = i
    · subst e
      rw [ho] at hy
      cases hy
      rw [if_pos hd, hval t hd]
    · rw [set_getD _ hlt, if_neg e] at hj
      rw [if_neg (hD.one j i y o t hy ho e hd), hv.got j y t hy hj hd]
  · rw [hget, if_neg (hno i o ho (by rw [set_getD _ hlt, if_pos rfl]))]
    refine hv.old t fun j y hy hj => hno j y hy ?_
    rw [set_getD _ hlt]
    by_cases e : j = i
    · rw [if_pos e]
    · rw [if_neg e]; exact hj

/-- Where a mixed region stands: the first places whose acts are all listed; of the new blocks behind them, those that are listed wait. -/
structure Stands (l : List VO) (listed : Array Bool) (K : Nat) : Prop where
  pre : ∀ (j : Nat) (o : VO), l[j]? = some o → o.acts = true → j < K → listed.getD j false = true
  post : ∀ (j : Nat) (o : VO), l[j]? = some o → o.acts = true → K ≤ j → listed.getD j false = true → o.op.fresh = true
  head : ∀ (j : Nat) (o : VO), l[j]? = some o → o.acts = true → K ≤ j → (∀ (i : Nat) (x : VO), l[i]? = some x → x.acts = true → K ≤ i → j ≤ i) → listed.getD j false = false
  bound : K = 0 ∨ ∃ o, l[K - 1]? = some o ∧ o.acts = true
  le : K ≤ l.length

/-- the memory of a mixed region: the new blocks that wait, those that are not yet -/
structure Waits (l : List VO) (base : Nat) (tr : Nat → St) (listed : Array Bool) (K : Nat) (w0 : World) (φ : Env) (w : World) : Prop where
  dead : ∀ (j : Nat) (o : VO), l[j]? = some o → o.op.fresh = true → K ≤ j → (tr K).h.get (base + j) = some .dead
  wait : ∀ (j : Nat) (o : VO), l[j]? = some o → o.op.fresh = true → K ≤ j → listed.getD j false = true → (tr (j + 1)).h = (tr j).h ∨ BR φ w (base + j) ((tr (j + 1)).h.get (base + j))
  own : ∀ (j : Nat) (o : VO), l[j]? = some o → o.op.fresh = true → K ≤ j → listed.getD j false = true → ∀ p, φ (base + j) = some p → w0.heap.size ≤ p.1 ∧
    (∀ b q, live ((tr K).h.get b) = true → φ b = some q → q.1 ≠ p.1) ∧
    (∀ (i : Nat) (x : VO) q, l[i]? = some x → x.op.fresh = true → K ≤ i → listed.getD i false = true → i ≠ j → φ (base + i) = some q → q.1 ≠ p.1)
  none : ∀ (j : Nat) (o : VO), l[j]? = some o → o.op.fresh = true → listed.getD j false = false → φ (base + j) = none
end
open Go.RowKit
section
variable {l : List VO} {base : Nat} {tr : Nat → St} {listed : Array Bool} {K : Nat} {w0 : World} {φ φ' : Env} {w w' : World}
/-- a block stands for the same, where its own is left alone -/
theorem BR.keep {b : Nat} {x : Option Blk} (h : BR φ w b x) (u : Upd φ w φ' w') (hb : φ' b = φ b) (hs : ∀ p, φ b = some p → w'.heap[p.1]? = w.heap[p.1]?) : BR φ' w' b x := by
  cases x with
  | none => exact hb.trans h
  | some x =>
    cases x with
    | dead => trivial
    | cells l e ver =>
      obtain ⟨B, o, e', n, h1, h2, h3, h4, h5⟩ := h
      have hs := hs _ h1
      exact ⟨B, o, e', n, u.ext _ _ h1, u.shape _ _ h2, h3.upd u hs, h4.keep hs, h5⟩
    | map es ver =>
      obtain ⟨B, o, vs, clock, h1, h2, h3, h4⟩ := h
      have hs := hs _ h1
      exact ⟨B, o, vs, clock, u.ext _ _ h1, hs.trans h2, h3.upd u, h4.upd u⟩
theorem fresh_acts {o : VO} (h : o.op.fresh = true) : o.acts = true := by
  unfold VO.acts
  cases ho : o.op <;> rw [ho] at h <;> simp only [VOp.fresh] at h <;> first | (cases h; done) | rfl
theorem Waits.step {K' : Nat} {listed' : Array Bool} (hw : Waits l base tr listed K w0 φ w) (hr : HR φ w (tr K).h) (u : UpdH φ w (tr K).h φ' w' (tr K').h) (hK : K ≤ K')
    (hl : ∀ (j : Nat) (o : VO), l[j]? = some o → o.op.fresh = true → K' ≤ j → listed'.getD j false = listed.getD j false)
    (hp : ∀ (j : Nat) (o : VO), l[j]? = some o → o.op.fresh = true → j < K' → listed'.getD j false = true) : Waits l base tr listed' K' w0 φ' w' := by
  have same : ∀ (j : Nat) (o : VO), l[j]? = some o → o.op.fresh = true → K' ≤ j → φ' (base + j) = φ (base + j) := fun j o hj hf hk => by
    have hd := hw.dead j o hj hf (by omega)
    exact (u.deadL (base + j) (by rw [hd]; simp) (by rw [hd]; rfl)).2.2
  refine ⟨fun j o hj hf hk => ?_, fun j o hj hf hk hlj => ?_, fun j o hj hf hk hlj p hpj => ?_, fun j o hj hf hlj => ?_⟩
  · have hd := hw.dead j o hj hf (by omega)
    obtain ⟨a1, a2, _⟩ := u.deadL (base + j) (by rw [hd]; simp) (by rw [hd]; rfl)
    rcases not_live (by rw [a2]; simp) with h | h
    · exact absurd h a1
    · exact h
  · rw [hl j o hj hf hk] at hlj
    refine (hw.wait j o hj hf (by omega) hlj).imp id fun hbr => hbr.keep u.toUpd (same j o hj hf hk) fun p hpj => ?_
    obtain ⟨_, h2, _⟩ := hw.own j o hj hf (by omega) hlj p hpj
    exact u.keepL _ (hr.lt _ _ hpj) fun b q hb hq => h2 b q hb hq
  · rw [hl j o hj hf hk] at hlj
    rw [same j o hj hf hk] at hpj
    obtain ⟨h1, h2, h3⟩ := hw.own j o hj hf (by omega) hlj p hpj
    refine ⟨h1, fun b q hb hq e => ?_, fun i x q hi hx hki hli hne hq => ?_⟩
    · rcases u.newL b q.1 q.2 hb hq with ⟨b0, o0, e0, e1⟩ | e0
      · exact h2 b0 _ e0 e1 e
      · have := hr.lt _ _ hpj
        omega
    · rw [hl i x hi hx hki] at hli
      rw [same i x hi hx hki] at hq
      exact h3 i x q hi hx (by omega) hli hne hq
  · rcases Nat.lt_or_ge j K' with h | h
    · rw [hp j o hj hf h] at hlj; cases hlj
    · rw [same j o hj hf h]
      rw [hl j o hj hf h] at hlj
      exact hw.none j o hj hf hlj
end
open Go.RowKit
section
variable {ops : Array Oper} {B : List (List Nat)} {l : List VO} {call : Nat → List AV → Heap → Option (AV × Heap)} {base : Nat} {tr : Nat → St} {listed : Array Bool} {K : Nat} {w0 : World} {φ : Env} {w : World}
/-- what a new block's place does to memory -/
theorem GoesM.fresh (g : GoesM call base l tr) {j : Nat} {o : VO} (hj : l[j]? = some o) (hf : o.op.fresh = true) : (tr (j + 1)).h = (tr j).h ∨ ∃ x, (tr (j + 1)).h = (tr j).h.mk' (base + j) x := by
  have h := g j o hj
  have hn : nameAt base j o (tr j).h = base + j := by unfold nameAt; rw [hf]; rfl
  rw [hn] at h
  unfold vdo at h
  cases hw : wanted (tr j) o.guard with
  | false =>
    rw [hw] at h
    have : (tr j).put o.dst .undef = tr (j + 1) := by simpa using h
    rw [← this, St.put_h]
    exact .inl rfl
  | true =>
    rw [hw, cond_true] at h
    cases hv : vop (tr j) (base + j) o.op with
    | fail => rw [hv] at h; cases h
    | enter f args =>
      rw [hv] at h
      exfalso
      cases ho : o.op <;> rw [ho] at hf hv <;> simp only [VOp.fresh] at hf <;> try (cases hf; done)
      all_goals
        simp only [vop] at hv
        first
          | (cases hv; done)
          | ((repeat' (split at hv)) <;> cases hv)
    | val v h1 =>
      rw [hv] at h
      obtain ⟨x, hx, _, _⟩ := vop_fresh (s := (tr j).s) (h := (tr j).h) hf hv
      have : St.put ⟨(tr j).s, h1⟩ o.dst v = tr (j + 1) := by simpa using h
      rw [← this, St.put_h]
      exact .inr ⟨x, hx⟩
theorem absorb_hr (hw : Waits l base tr listed K w0 φ w) (hr : HR φ w (tr K).h) (g : GoesM call base l tr) {j : Nat} {o : VO} (hj : l[j]? = some o) (hf : o.op.fresh = true) (hK : K ≤ j) (hl : listed.getD j false = true) (hh : (tr j).h = (tr K).h) : HR φ w (tr (j + 1)).h := by
  rcases g.fresh hj hf with h | ⟨x, h⟩
  · rw [h, hh]; exact hr
  · rw [hh] at h
    have hwt := hw.wait j o hj hf hK hl
    have hown := hw.own j o hj hf hK hl
    have hwt : BR φ w (base + j) (some x) := by
      rcases hwt with e | e
      · have e1 := congrArg (fun y : Heap => y.get (base + j)) e
        simp only [h, hh, Heap.get_mk, if_true, hw.dead j o hj hf hK] at e1
        rw [e1]; trivial
      · rw [h, Heap.get_mk, if_pos rfl] at e; exact e
    rw [h]
    refine ⟨fun b => ?_, hr.lt, fun b b' p p' h1 h2 hp hp' he => ?_, fun b hb => ?_⟩
    · rw [Heap.get_mk]
      by_cases e : b = base + j
      · rw [if_pos e, e]; exact hwt
      · rw [if_neg e]; exact hr.blk b
    · rw [Heap.get_mk] at h1 h2
      by_cases e : b = base + j
      · by_cases e' : b' = base + j
        · rw [e, e']
        · rw [if_neg e'] at h2
          rw [e] at hp
          exact absurd he.symm ((hown p hp).2.1 b' p' h2 hp')
      · rw [if_neg e] at h1
        by_cases e' : b' = base + j
        · rw [e'] at hp'
          exact absurd he ((hown p' hp').2.1 b p h1 hp)
        · rw [if_neg e'] at h2
          exact hr.inj b b' p p' h1 h2 hp hp' he
    · have hb' : max (tr K).h.next (base + j + 1) ≤ b := hb
      rw [Heap.get_mk, if_neg (by omega)]
      exact hr.next b (by omega)
theorem absorb_upd {φ0 : Env} {H0 : Heap} (hw : Waits l base tr listed K w0 φ w) (u : UpdH φ0 w0 H0 φ w (tr K).h) (g : GoesM call base l tr) {j : Nat} {o : VO} (hj : l[j]? = some o) (hf : o.op.fresh = true) (hK : K ≤ j) (hl : listed.getD j false = true) (hh : (tr j).h = (tr K).h)
    (h0 : H0.get (base + j) = none) : UpdH φ0 w0 H0 φ w (tr (j + 1)).h := by
  rcases g.fresh hj hf with h | ⟨x, h⟩
  · rw [h, hh]; exact u
  · rw [hh] at h
    have hown := hw.own j o hj hf hK hl
    rw [h]
    refine { toUpd := u.toUpd, keepL := u.keepL, deadL := fun b h1 h2 => ?_, newL := fun b B o' h1 h2 => ?_, stay := fun b h1 => ?_ }
    · have e : b ≠ base + j := fun e => h1 (by rw [e, h0])
      rw [Heap.get_mk, if_neg e]
      exact u.deadL b h1 h2
    · rw [Heap.get_mk] at h1
      by_cases e : b = base + j
      · rw [e] at h2
        exact .inr (hown _ h2).1
      · rw [if_neg e] at h1
        exact u.newL b B o' h1 h2
    · rw [Heap.get_mk]
      by_cases e : b = base + j
      · rw [if_pos e]; simp
      · rw [if_neg e]; exact u.stay b h1
/-- behind it the others wait -/
theorem absorb_waits (hw : Waits l base tr listed K w0 φ w) (g : GoesM call base l tr) {j : Nat} {o : VO} (hj : l[j]? = some o) (hf : o.op.fresh = true) (hK : K ≤ j) (hl : listed.getD j false = true) (hh : (tr j).h = (tr K).h) : Waits l base tr listed (j + 1) w0 φ w := by
  have hget : ∀ b, b ≠ base + j → (tr (j + 1)).h.get b = (tr K).h.get b := by
    intro b hb
    rcases g.fresh hj hf with h | ⟨x, h⟩
    · rw [h, hh]
    · rw [h, hh, Heap.get_mk, if_neg hb]
  refine ⟨fun i x hi hx hki => ?_, fun i x hi hx hki hli => hw.wait i x hi hx (by omega) hli, fun i x hi hx hki hli p hp => ?_, hw.none⟩
  · rw [hget _ (by omega)]; exact hw.dead i x hi hx (by omega)
  · obtain ⟨h1, h2, h3⟩ := hw.own i x hi hx (by omega) hli p hp
    refine ⟨h1, fun b q hb hq => ?_, fun i' x' q hi' hx' hki' hli' hne hq => h3 i' x' q hi' hx' (by omega) hli' hne hq⟩
    by_cases e : b = base + j
    · rw [e] at hq
      exact h3 j o q hj hf hK hl (by omega) hq
    · rw [hget b e] at hb
      exact h2 b q hb hq
end
open Go.RowKit
section
variable {l : List VO} {call : Nat → List AV → Heap → Option (AV × Heap)} {base : Nat} {tr : Nat → St} {listed : Array Bool} {w0 : World} {φ : Env} {w : World}
theorem GoesM.calm (g : GoesM call base l tr) {i k : Nat} (hik : i ≤ k) (hk : k ≤ l.length) (ha : ∀ j o, l[j]? = some o → i ≤ j → j < k → o.acts = false) : (tr k).h = (tr i).h := g.heap hik hk ha
theorem absorb_all (g : GoesM call base l tr) {φ0 : Env} {H0 : Heap} (h0 : ∀ (j : Nat) (o : VO), l[j]? = some o → o.op.fresh = true → H0.get (base + j) = none) : ∀ (n K : Nat), l.length - K = n →
    (∀ (j : Nat) (o : VO), l[j]? = some o → o.acts = true → j < K → listed.getD j false = true) →
    (∀ (j : Nat) (o : VO), l[j]? = some o → o.acts = true → K ≤ j → listed.getD j false = true → o.op.fresh = true) →
    (K = 0 ∨ ∃ o, l[K - 1]? = some o ∧ o.acts = true) → K ≤ l.length → Waits l base tr listed K w0 φ w → HR φ w (tr K).h → UpdH φ0 w0 H0 φ w (tr K).h →
    ∃ K', Stands l listed K' ∧ Waits l base tr listed K' w0 φ w ∧ HR φ w (tr K').h ∧ UpdH φ0 w0 H0 φ w (tr K').h := by
  intro n
  induction n using Nat.strongRecOn with
  | _ n ih =>
    intro K hn hpre hpost hbound hle hw hr hu
    by_cases hex : ∃ j o, l[j]? = some o ∧ o.acts = true ∧ K ≤ j
    · -- the first act
      obtain ⟨j, o, hj, ha, hK, hmin⟩ : ∃ j o, l[j]? = some o ∧ o.acts = true ∧ K ≤ j ∧ ∀ (i : Nat) (x : VO), l[i]? = some x → x.acts = true → K ≤ i → j ≤ i := by
        obtain ⟨j, o, hj, ha, hK⟩ := hex
        induction j using Nat.strongRecOn generalizing o with
        | _ j ihj =>
          by_cases hm : ∃ i x, l[i]? = some x ∧ x.acts = true ∧ K ≤ i ∧ i < j
          · obtain ⟨i, x, h1, h2, h3, h4⟩ := hm
            exact ihj i h4 x h1 h2 h3
          · exact ⟨j, o, hj, ha, hK, fun i x h1 h2 h3 => by
              rcases Nat.lt_or_ge i j with h | h
              · exact absurd ⟨i, x, h1, h2, h3, h⟩ hm
              · exact h⟩
      have hjl : j < l.length := (List.getElem?_eq_some_iff.1 hj).1
      cases hl : listed.getD j false with
      | false =>
        refine ⟨K, ⟨hpre, hpost, fun i x hi hx hki hm => ?_, hbound, hle⟩, hw, hr, hu⟩
        have h1 := hm j o hj ha hK
        have h2 := hmin i x hi hx hki
        have : i = j := by omega
        rw [this]; exact hl
      | true =>
        have hf := hpost j o hj ha hK hl
        have hh : (tr j).h = (tr K).h := g.calm hK (by omega) fun i x hi h1 h2 => by
          cases hx : x.acts with
          | false => rfl
          | true => have := hmin i x hi hx h1; omega
        refine ih (l.length - (j + 1)) (by omega) (j + 1) rfl (fun i x hi hx hlt => ?_) (fun i x hi hx hge hli => hpost i x hi hx (by omega) hli) (.inr ⟨o, by simpa using hj, ha⟩) hjl (absorb_waits hw g hj hf hK hl hh) (absorb_hr hw hr g hj hf hK hl hh) (absorb_upd hw hu g hj hf hK hl hh (h0 j o hj hf))
        rcases Nat.lt_or_ge i K with h | h
        · exact hpre i x hi hx h
        · have := hmin i x hi hx h
          have : i = j := by omega
          rw [this]; exact hl
    · exact ⟨K, ⟨hpre, hpost, fun i x hi hx hki _ => absurd ⟨i, x, hi, hx, hki⟩ hex, hbound, hle⟩, hw, hr, hu⟩
end
end Go.Proofs.Ytinonmcnofjeeaa.VM
