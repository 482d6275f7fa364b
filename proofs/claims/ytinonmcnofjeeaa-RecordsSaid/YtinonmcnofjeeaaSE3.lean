/- Regions whose order is drawn, their calls told by a function; a program's functions by their table. -/
import Derived.Test.YtinonmcnofjeeaaSE2
namespace Go.Proofs.Ytinonmcnofjeeaa.VM
set_option linter.unusedSimpArgs false
set_option linter.unusedVariables false
set_option linter.defProp false
set_option maxHeartbeats 1000000
open Go.RowKit

section
variable (P : Program)
open Classical in
/-- calls told by a function, where they come to that -/
noncomputable def XC (c : Nat → List AV → Heap → AV × Heap) : Told := fun f args h => if OK P f args h (c f args h).1 (c f args h).2 then some (c f args h) else none
theorem xc_ok {c : Nat → List AV → Heap → AV × Heap} : CallOk P (XC P c) := by
  intro f args h v h' e
  unfold XC at e
  split at e
  · rename_i o
    have : c f args h = (v, h') := by simpa using e
    rw [this] at o
    exact o
  · cases e
theorem xc_eq {c : Nat → List AV → Heap → AV × Heap} {f : Nat} {args : List AV} {h : Heap} (o : OK P f args h (c f args h).1 (c f args h).2) : XC P c f args h = some (c f args h) := if_pos o

/-- operations, their calls told by a function, with the states that they came through -/
def EvC (c : Nat → List AV → Heap → AV × Heap) : List VO → T AV → Heap → (List St → T AV → Heap → Prop) → Prop
  | [], s, h, Q => Q [⟨s, h⟩] s h
  | o :: l, s, h, Q => bif wanted ⟨s, h⟩ o.guard then
      (match vop ⟨s, h⟩ h.next o.op with
      | .val v h' => EvC c l (setd s o.dst v) h' fun tr => Q (⟨s, h⟩ :: tr)
      | .fail => False
      | .enter f args => OK P f args h (c f args h).1 (c f args h).2 ∧ EvC c l (setd s o.dst (c f args h).1) (c f args h).2 fun tr => Q (⟨s, h⟩ :: tr))
    else EvC c l (setd s o.dst .undef) h fun tr => Q (⟨s, h⟩ :: tr)
/-- operations, their calls told by a function, with the states that they came through -/
def EvMC (c : Nat → List AV → Heap → AV × Heap) (base : Nat) : List VO → Nat → T AV → Heap → (List St → T AV → Heap → Prop) → Prop
  | [], _, s, h, Q => Q [⟨s, h⟩] s h
  | o :: l, i, s, h, Q => bif wanted ⟨s, h⟩ o.guard then
      (match vop ⟨s, h⟩ (nmA base i o.op h) o.op with
      | .val v h' => EvMC c base l (i + 1) (setd s o.dst v) h' fun tr => Q (⟨s, h⟩ :: tr)
      | .fail => False
      | .enter f args => OK P f args h (c f args h).1 (c f args h).2 ∧ EvMC c base l (i + 1) (setd s o.dst (c f args h).1) (c f args h).2 fun tr => Q (⟨s, h⟩ :: tr))
    else EvMC c base l (i + 1) (setd s o.dst .undef) h fun tr => Q (⟨s, h⟩ :: tr)
end
section
variable {P : Program}
theorem EvC.trace {c : Nat → List AV → Heap → AV × Heap} : ∀ {l : List VO} {s : T AV} {h : Heap} {Q : List St → T AV → Heap → Prop}, EvC P c l s h Q → ∃ tr s' h', vtrace (XC P c) l ⟨s, h⟩ = some tr ∧ tr.getLast? = some ⟨s', h'⟩ ∧ Q tr s' h'
  | [], s, h, Q, e => ⟨_, s, h, rfl, rfl, e⟩
  | o :: l, s, h, Q, e => by
    have last : ∀ {tr : List St} {x y : St}, tr.getLast? = some y → (x :: tr).getLast? = some y := by
      intro tr x y hy
      cases tr with
      | nil => cases hy
      | cons a b => simpa [List.getLast?_cons_cons] using hy
    rw [EvC] at e
    cases hw : wanted ⟨s, h⟩ o.guard with
    | false =>
      rw [hw, cond_false] at e
      obtain ⟨tr, s', h', e1, e2, q⟩ := EvC.trace e
      refine ⟨⟨s, h⟩ :: tr, s', h', ?_, last e2, q⟩
      simp only [vtrace, vdo, hw, cond_false, put_eq, e1, Option.map_some]
    | true =>
      rw [hw, cond_true] at e
      cases hv : vop ⟨s, h⟩ h.next o.op with
      | fail => rw [hv] at e; exact e.elim
      | val v h1 =>
        rw [hv] at e
        obtain ⟨tr, s', h', e1, e2, q⟩ := EvC.trace e
        refine ⟨⟨s, h⟩ :: tr, s', h', ?_, last e2, q⟩
        simp only [vtrace, vdo, hw, cond_true, hv, put_eq, e1, Option.map_some]
      | enter f args =>
        rw [hv] at e
        obtain ⟨hok, e⟩ := e
        obtain ⟨tr, s', h', e1, e2, q⟩ := EvC.trace e
        refine ⟨⟨s, h⟩ :: tr, s', h', ?_, last e2, q⟩
        simp only [vtrace, vdo, hw, cond_true, hv, xc_eq P hok, put_eq, e1, Option.map_some]
/-- a region whose order is drawn -/
theorem EvD.go (c : Nat → List AV → Heap → AV × Heap) {l : List VO} {loose : List (Nat × List Nat)} {s : T AV} {h : Heap} {Q : T AV → Heap → Prop}
    (e : EvC P c l s h fun tr s' h' => looseOk (XC P c) l tr loose = true ∧ Q s' h') : EvD P l loose s h Q := by
  obtain ⟨tr, s', h', e1, e2, q1, q2⟩ := e.trace
  exact ⟨XC P c, xc_ok P, tr, s', h', e1, q1, e2, q2⟩

theorem EvMC.trace {c : Nat → List AV → Heap → AV × Heap} {base : Nat} : ∀ {l : List VO} {i : Nat} {s : T AV} {h : Heap} {Q : List St → T AV → Heap → Prop}, EvMC P c base l i s h Q → ∃ tr s' h', mtrace (XC P c) base l i ⟨s, h⟩ = some tr ∧ tr.getLast? = some ⟨s', h'⟩ ∧ Q tr s' h'
  | [], i, s, h, Q, e => ⟨_, s, h, rfl, rfl, e⟩
  | o :: l, i, s, h, Q, e => by
    have last : ∀ {tr : List St} {x y : St}, tr.getLast? = some y → (x :: tr).getLast? = some y := by
      intro tr x y hy
      cases tr with
      | nil => cases hy
      | cons a b => simpa [List.getLast?_cons_cons] using hy
    rw [EvMC] at e
    cases hw : wanted ⟨s, h⟩ o.guard with
    | false =>
      rw [hw, cond_false] at e
      obtain ⟨tr, s', h', e1, e2, q⟩ := EvMC.trace e
      refine ⟨⟨s, h⟩ :: tr, s', h', ?_, last e2, q⟩
      simp only [mtrace, nameAt_eq, vdo, hw, cond_false, put_eq, e1, Option.map_some]
    | true =>
      rw [hw, cond_true] at e
      cases hv : vop ⟨s, h⟩ (nmA base i o.op h) o.op with
      | fail => rw [hv] at e; exact e.elim
      | val v h1 =>
        rw [hv] at e
        obtain ⟨tr, s', h', e1, e2, q⟩ := EvMC.trace e
        refine ⟨⟨s, h⟩ :: tr, s', h', ?_, last e2, q⟩
        simp only [mtrace, nameAt_eq, vdo, hw, cond_true, hv, put_eq, e1, Option.map_some]
      | enter f args =>
        rw [hv] at e
        obtain ⟨hok, e⟩ := e
        obtain ⟨tr, s', h', e1, e2, q⟩ := EvMC.trace e
        refine ⟨⟨s, h⟩ :: tr, s', h', ?_, last e2, q⟩
        simp only [mtrace, nameAt_eq, vdo, hw, cond_true, hv, xc_eq P hok, put_eq, e1, Option.map_some]
mutual
theorem AV.eqb_refl : ∀ x : AV, AV.eqb x x = true
  | .undef => rfl
  | .bool b => by cases b <;> rfl
  | .int k n => by simp [AV.eqb]
  | .str s => by simp [AV.eqb]
  | .ptr a b => by simp [AV.eqb]
  | .nilp => rfl
  | .sl .. => by simp [AV.eqb]
  | .nils => rfl
  | .map b => by simp [AV.eqb]
  | .nilm => rfl
  | .fn f l => by simp [AV.eqb, AV.eqbs_refl l]
  | .nilf => rfl
  | .agg l => by simp [AV.eqb, AV.eqbs_refl l]
  | .tup l => by simp [AV.eqb, AV.eqbs_refl l]
  | .rs l n => by simp [AV.eqb, AV.eqbs_refl l]
  | .rp l => by simp [AV.eqb, AV.eqbs_refl l]
theorem AV.eqbs_refl : ∀ l : List AV, AV.eqbs l l = true
  | [] => rfl
  | x :: l => by simp [AV.eqbs, AV.eqb_refl x, AV.eqbs_refl l]
end

/-- one look that has no place -/
def Lk (si : St) (hk : Heap) (o : VO) (sj : St) : Prop := (if wanted si o.guard = true then (match vop ⟨si.s, hk⟩ hk.next o.op with
    | .val v _ => (match o.dst with | some d => v = sj.get d | none => True)
    | _ => False) else (match o.dst with | some d => AV.undef = sj.get d | none => True))
theorem lk_same {si : St} {o : VO} {sj : St} {X : Told} (e : vdo X si si.h.next o = some sj) (hk : o.op.kind = 1) : Lk si si.h o sj := by
  unfold vdo at e
  unfold Lk
  cases hw : wanted si o.guard with
  | false =>
    rw [hw, cond_false] at e
    rw [if_neg (by simp)]
    cases e
    cases hd : o.dst with
    | none => trivial
    | some d => simp only [St.get_put, if_true]
  | true =>
    rw [hw, cond_true] at e
    rw [if_pos rfl]
    cases hv : vop si si.h.next o.op with
    | fail => rw [hv] at e; cases e
    | val v h =>
      rw [hv] at e
      cases e
      cases hd : o.dst with
      | none => trivial
      | some d => simp only [St.get_put, if_true]
    | enter f args =>
      rcases vop_enter_call hv with ⟨l, e'⟩ | ⟨x, l, e'⟩ <;> rw [e'] at hk <;> simp [VOp.kind] at hk
theorem Lk.ok {X : Told} {si : St} {hk : Heap} {o : VO} {sj : St} (e : Lk si hk o sj) : (match vdo X ⟨si.s, hk⟩ hk.next o with
      | some s' => (match o.dst with
        | some d => AV.eqb (s'.get d) (sj.get d)
        | none => true)
      | none => false) = true := by
  unfold Lk at e
  have hw : wanted ⟨si.s, hk⟩ o.guard = wanted si o.guard := by
    unfold wanted
    cases o.guard <;> rfl
  unfold vdo
  rw [hw]
  cases hg : wanted si o.guard with
  | false =>
    rw [hg, if_neg (by simp)] at e
    rw [cond_false]
    simp only
    cases hd : o.dst with
    | none => rfl
    | some d =>
      rw [hd] at e
      simp only [St.get_put, if_true]
      rw [← e]
      exact AV.eqb_refl _
  | true =>
    rw [hg, if_pos rfl] at e
    rw [cond_true]
    cases hv : vop ⟨si.s, hk⟩ hk.next o.op with
    | fail => rw [hv] at e; exact e.elim
    | enter f args => rw [hv] at e; exact e.elim
    | val v h =>
      rw [hv] at e
      simp only
      cases hd : o.dst with
      | none => rfl
      | some d =>
        rw [hd] at e
        simp only [St.get_put, if_true]
        simp only at e
        rw [e]
        exact AV.eqb_refl _
/-- all looks that have no place, one by one -/
def LkAll (l : List VO) (tr : List St) : List (Nat × List Nat) → Prop
  | [] => True
  | (i, ks) :: r => LkEach i ks ∧ LkAll l tr r
where LkEach (i : Nat) : List Nat → Prop
  | [] => True
  | k :: ks => (match l[i]?, tr[i]?, tr[k]?, tr[i + 1]? with
    | some o, some si, some sk, some sj => Lk si sk.h o sj
    | _, _, _, _ => False) ∧ LkEach i ks
theorem LkEach.ok {X : Told} {l : List VO} {tr : List St} {i : Nat} : ∀ {ks : List Nat}, LkAll.LkEach l tr i ks → (ks.all fun k => match l[i]?, tr[i]?, tr[k]?, tr[i + 1]? with
    | some o, some si, some sk, some sj => (match vdo X ⟨si.s, sk.h⟩ sk.h.next o with
      | some s' => (match o.dst with
        | some d => AV.eqb (s'.get d) (sj.get d)
        | none => true)
      | none => false)
    | _, _, _, _ => false) = true
  | [], _ => rfl
  | k :: ks, ⟨h1, h2⟩ => by
    rw [List.all_cons, Bool.and_eq_true]
    refine ⟨?_, LkEach.ok h2⟩
    split at h1
    · exact h1.ok
    · exact h1.elim
theorem LkAll.ok {X : Told} {l : List VO} {tr : List St} : ∀ {loose : List (Nat × List Nat)}, LkAll l tr loose → looseOk X l tr loose = true
  | [], _ => rfl
  | (i, ks) :: r, ⟨h1, h2⟩ => by
    unfold looseOk
    rw [List.all_cons, Bool.and_eq_true]
    exact ⟨LkEach.ok h1, LkAll.ok h2⟩

/-- a region whose order is drawn, its looks one by one -/
theorem EvD.lk (c : Nat → List AV → Heap → AV × Heap) {l : List VO} {loose : List (Nat × List Nat)} {s : T AV} {h : Heap} {Q : T AV → Heap → Prop}
    (e : EvC P c l s h fun tr s' h' => LkAll l tr loose ∧ Q s' h') : EvD P l loose s h Q := by
  obtain ⟨tr, s', h', e1, e2, q1, q2⟩ := e.trace
  exact ⟨XC P c, xc_ok P, tr, s', h', e1, q1.ok, e2, q2⟩

/-- the same, new blocks out of their row -/
theorem EvMD.lk (c : Nat → List AV → Heap → AV × Heap) {l : List VO} {loose : List (Nat × List Nat)} {s : T AV} {h : Heap} {Q : T AV → Heap → Prop}
    (e : EvMC P c h.next l 0 s (reserve h.next l 0 h) fun tr s' h' => LkAll l tr loose ∧ Q s' h') : EvMD P l loose s h Q := by
  obtain ⟨tr, s', h', e1, e2, q1, q2⟩ := e.trace
  exact ⟨XC P c, xc_ok P, tr, s', h', e1, q1.ok, e2, q2⟩
/-- memory is as it was all along -/
def allH (h : Heap) : List St → Prop
  | [] => True
  | x :: tr => x.h = h ∧ allH h tr
theorem allH_get {h : Heap} : ∀ {tr : List St}, allH h tr → ∀ {i : Nat} {x : St}, tr[i]? = some x → x.h = h
  | [], _, i, x, e => by simp at e
  | _ :: _, ⟨h1, h2⟩, 0, x, e => by simp at e; subst e; exact h1
  | _ :: _, ⟨h1, h2⟩, i + 1, x, e => allH_get h2 (by simpa using e)
theorem vtrace_step {X : Told} : ∀ {l : List VO} {st : St} {tr : List St}, vtrace X l st = some tr → tr.length = l.length + 1 ∧ ∀ (i : Nat) (o : VO) (x y : St), l[i]? = some o → tr[i]? = some x → tr[i + 1]? = some y → vdo X x x.h.next o = some y
  | [], st, tr, e => by cases e; exact ⟨rfl, fun i o x y h => by simp at h⟩
  | o :: l, st, tr, e => by
    simp only [vtrace] at e
    split at e
    · rename_i st1 hd
      obtain ⟨tr', e1, rfl⟩ := Option.map_eq_some_iff.1 e
      obtain ⟨h1, h2⟩ := vtrace_step e1
      refine ⟨by simp [h1], fun i o' x y ho hx hy => ?_⟩
      cases i with
      | zero =>
        simp at ho hx hy
        subst ho hx
        have : tr'[0]? = some st1 := (vtrace_spec e1).2.1
        rw [this] at hy
        cases hy
        exact hd
      | succ i => exact h2 i o' x y (by simpa using ho) (by simpa using hx) (by simpa using hy)
    · cases e
def okL (l : List VO) (loose : List (Nat × List Nat)) : Bool := loose.all fun p => p.2.all (fun k => Nat.ble k l.length) && (match l[p.1]? with
  | some o => Nat.beq o.op.kind 1
  | none => false)
/-- a region that leaves memory as it is -/
theorem EvD.same (c : Nat → List AV → Heap → AV × Heap) {l : List VO} {loose : List (Nat × List Nat)} {s : T AV} {h : Heap} {Q : T AV → Heap → Prop} (hk : okL l loose = true)
    (e : EvC P c l s h fun tr s' h' => allH h tr ∧ Q s' h') : EvD P l loose s h Q := by
  obtain ⟨tr, s', h', e1, e2, q1, q2⟩ := e.trace
  refine ⟨XC P c, xc_ok P, tr, s', h', e1, ?_, e2, q2⟩
  obtain ⟨hl, hst⟩ := vtrace_step e1
  unfold looseOk
  unfold okL at hk
  rw [List.all_eq_true] at hk ⊢
  intro p hp
  have hkp := hk p hp
  rw [Bool.and_eq_true, List.all_eq_true] at hkp
  obtain ⟨h1, h2⟩ := hkp
  rw [List.all_eq_true]
  intro k hkm
  have hkl : k ≤ l.length := by simpa using h1 k hkm
  cases ho : l[p.1]? with
  | none => rw [ho] at h2; cases h2
  | some o =>
    rw [ho] at h2
    have hkind : o.op.kind = 1 := by simpa using h2
    have hil : p.1 < l.length := (List.getElem?_eq_some_iff.1 ho).1
    have a1 : tr[p.1]? = some tr[p.1] := List.getElem?_eq_getElem (by omega)
    have a2 : tr[p.1 + 1]? = some tr[p.1 + 1] := List.getElem?_eq_getElem (by omega)
    have a3 : tr[k]? = some tr[k] := List.getElem?_eq_getElem (by omega)
    simp only [a1, a2, a3]
    have b1 := allH_get q1 a1
    have b3 := allH_get q1 a3
    have hv := hst _ _ _ _ ho a1 a2
    have := (lk_same hv hkind).ok (X := XC P c)
    rw [b1] at this
    rw [b3]
    exact this
def allN (h : Heap) : Nat → List St → Prop
  | 0, _ => True
  | _ + 1, [] => True
  | n + 1, x :: tr => x.h = h ∧ allN h n tr
theorem allN_get {h : Heap} : ∀ {n : Nat} {tr : List St}, allN h n tr → ∀ {i : Nat} {x : St}, i < n → tr[i]? = some x → x.h = h
  | 0, _, _, _, _, hi, _ => by omega
  | _ + 1, [], _, i, x, _, e => by simp at e
  | _ + 1, _ :: _, ⟨h1, h2⟩, 0, x, _, e => by simp at e; subst e; exact h1
  | _ + 1, _ :: _, ⟨h1, h2⟩, i + 1, x, hi, e => allN_get (i := i) h2 (by omega) (by simpa using e)
def okN (l : List VO) (loose : List (Nat × List Nat)) (N : Nat) : Bool := loose.all fun p => p.2.all (fun k => decide (k < N) && Nat.ble k l.length) && decide (p.1 < N) && (match l[p.1]? with
  | some o => Nat.beq o.op.kind 1
  | none => false)
/-- a region that leaves memory as it is, for so many operations as its looks lie in -/
theorem EvD.sameN (N : Nat) (c : Nat → List AV → Heap → AV × Heap) {l : List VO} {loose : List (Nat × List Nat)} {s : T AV} {h : Heap} {Q : T AV → Heap → Prop} (hk : okN l loose N = true)
    (e : EvC P c l s h fun tr s' h' => allN h N tr ∧ Q s' h') : EvD P l loose s h Q := by
  obtain ⟨tr, s', h', e1, e2, q1, q2⟩ := e.trace
  refine ⟨XC P c, xc_ok P, tr, s', h', e1, ?_, e2, q2⟩
  obtain ⟨hl, hst⟩ := vtrace_step e1
  unfold looseOk
  unfold okN at hk
  rw [List.all_eq_true] at hk ⊢
  intro p hp
  have hkp := hk p hp
  rw [Bool.and_eq_true, Bool.and_eq_true, List.all_eq_true] at hkp
  obtain ⟨⟨h1, h3⟩, h2⟩ := hkp
  have h3 : p.1 < N := by simpa using h3
  rw [List.all_eq_true]
  intro k hkm
  have hkl : k < N ∧ k ≤ l.length := by simpa using h1 k hkm
  cases ho : l[p.1]? with
  | none => rw [ho] at h2; cases h2
  | some o =>
    rw [ho] at h2
    have hkind : o.op.kind = 1 := by simpa using h2
    have hil : p.1 < l.length := (List.getElem?_eq_some_iff.1 ho).1
    have a1 : tr[p.1]? = some tr[p.1] := List.getElem?_eq_getElem (by omega)
    have a2 : tr[p.1 + 1]? = some tr[p.1 + 1] := List.getElem?_eq_getElem (by omega)
    have a3 : tr[k]? = some tr[k] := List.getElem?_eq_getElem (by omega)
    simp only [a1, a2, a3]
    have b1 := allN_get q1 h3 a1
    have b3 := allN_get q1 hkl.1 a3
    have hv := hst _ _ _ _ ho a1 a2
    have := (lk_same hv hkind).ok (X := XC P c)
    rw [b1] at this
    rw [b3]
    exact this
theorem allN_zero {h : Heap} {tr : List St} : allN h 0 tr = True := rfl
theorem allN_nil {h : Heap} {n : Nat} : allN h (n + 1) [] = True := rfl
theorem allN_cons {h h' : Heap} {n : Nat} {s : T AV} {tr : List St} : allN h (n + 1) (⟨s, h'⟩ :: tr) = (h' = h ∧ allN h n tr) := rfl
theorem allH_nil {h : Heap} : allH h [] = True := rfl
theorem allH_cons {h h' : Heap} {s : T AV} {tr : List St} : allH h (⟨s, h'⟩ :: tr) = (h' = h ∧ allH h tr) := rfl

/-- the program's functions, by a table -/
structure Pg (P : Program) (F : Nat → Option VFun) : Prop where
  hm : P.follows .mixedOrders = true
  tb : TableOk P F
variable {F : Nat → Option VFun}
theorem Pg.cl (g : Pg P F) {f : Nat} {vf : VFun} (hf : F f = some vf) {args : List AV} (hl : args.length = vf.nargs) {h : Heap} {Q : AV → Heap → Prop}
    (e : Ev P vf.body (argsT args 0 .e) h (Un P [] (Fin vf.res Q))) : Cl P f args h Q :=
  let ⟨_, h1, h2, h3⟩ := g.tb f vf hf
  Cl.enter g.hm h1 h2 h3 hl e
theorem Pg.pu (g : Pg P F) {f : Nat} {vf : VFun} (hf : F f = some vf) {args : List AV} (hl : args.length = vf.nargs) {R : AV → Prop}
    (e : Ev P vf.body (argsT args 0 .e) ⟨0, .e⟩ (Un P [] (Fin vf.res fun v h' => Tl h' v R))) : Pu P f args R := Pu.of (g.cl hf hl e)
theorem Pg.lp (g : Pg P F) {b : VCode} {s : T AV} {h : Heap} {k : List Fr} {Q : Ex → T AV → Heap → Prop} (e : Ev P b s h (Un P (.lp b :: k) Q)) : Lp P b s h (Un P k Q) := Lp.go g.hm e
theorem Pg.lpe (g : Pg P F) {b b' : VCode} (hb : b = b') {s : T AV} {h : Heap} {k : List Fr} {Q : Ex → T AV → Heap → Prop} (e : Ev P b' s h (Un P (.lp b :: k) Q)) : Lp P b s h (Un P k Q) := Lp.go g.hm (hb.symm ▸ e)
/-- a call that comes to one value -/
theorem Pu.exact {f : Nat} {args : List AV} {v : AV} (p : Pu P f args fun x => x = v) (ha : AV.tolds args = true) {h : Heap} : OK P f args h v h :=
  let ⟨_, _, _, o, hf, q⟩ := p
  q ▸ o.pure (Fzs.refl ha) hf
theorem Pu.go {f : Nat} {args : List AV} {R : AV → Prop} (p : Pu P f args R) (ha : AV.tolds args = true) {h : Heap} {Q : AV → Heap → Prop} (k : ∀ v, R v → Q v h) : Cl P f args h Q := p.cl (Fzs.refl ha) k

theorem tl_tup_ii {h : Heap} {kk k2 : IntKind} {n m : Int} {R : AV → Prop} : Tl h (.tup [.int kk n, .int k2 m]) R = R (.tup [.int kk n, .int k2 m]) :=
  propext ⟨fun ⟨_, f, r⟩ => by cases f with | tup t => cases t with | cons f t => cases f; cases t with | cons f t => cases f; cases t; exact r, fun r => ⟨_, .tup (.cons (.int kk n) (.cons (.int k2 m) .nil)), r⟩⟩
theorem tl_tup_si {h : Heap} {k2 : IntKind} {n : List Nat} {m : Int} {R : AV → Prop} : Tl h (.tup [.str n, .int k2 m]) R = R (.tup [.str n, .int k2 m]) :=
  propext ⟨fun ⟨_, f, r⟩ => by cases f with | tup t => cases t with | cons f t => cases f; cases t with | cons f t => cases f; cases t; exact r, fun r => ⟨_, .tup (.cons (.str n) (.cons (.int k2 m) .nil)), r⟩⟩

/-- it is a truth: of this -/
def IsB (p : Prop) (v : AV) : Prop := ∃ b : Bool, v = .bool b ∧ (b = true ↔ p)
theorem isB_bool {p : Prop} {b : Bool} : IsB p (.bool b) = (b = true ↔ p) := propext ⟨fun ⟨_, e, h⟩ => by cases e; exact h, fun h => ⟨b, rfl, h⟩⟩

/-! runs by rewriting -/
def Nc (P : Program) (c : Nat → List AV → Heap → AV × Heap) (d : Option Nat) (l : List VO) (s : T AV) (h : Heap) (Q : List St → T AV → Heap → Prop) : Out → Prop
  | .val v h' => EvC P c l (setd s d v) h' Q
  | .fail => False
  | .enter f args => OK P f args h (c f args h).1 (c f args h).2 ∧ EvC P c l (setd s d (c f args h).1) (c f args h).2 Q
def Qc (x : St) (Q : List St → T AV → Heap → Prop) : List St → T AV → Heap → Prop := fun tr => Q (x :: tr)
def Gc (P : Program) (c : Nat → List AV → Heap → AV × Heap) (x : AV) (w : Bool) (d : Option Nat) (op : VOp) (l : List VO) (s : T AV) (h : Heap) (Q : List St → T AV → Heap → Prop) : Prop := match x with
  | .bool b => if b = w then Nc P c d l s h Q (vop ⟨s, h⟩ h.next op) else EvC P c l (setd s d .undef) h Q
  | _ => EvC P c l (setd s d .undef) h Q
def Nm (P : Program) (c : Nat → List AV → Heap → AV × Heap) (base i : Nat) (d : Option Nat) (l : List VO) (s : T AV) (h : Heap) (Q : List St → T AV → Heap → Prop) : Out → Prop
  | .val v h' => EvMC P c base l i (setd s d v) h' Q
  | .fail => False
  | .enter f args => OK P f args h (c f args h).1 (c f args h).2 ∧ EvMC P c base l i (setd s d (c f args h).1) (c f args h).2 Q
def Gm (P : Program) (c : Nat → List AV → Heap → AV × Heap) (base i : Nat) (x : AV) (w : Bool) (d : Option Nat) (op : VOp) (l : List VO) (s : T AV) (h : Heap) (Q : List St → T AV → Heap → Prop) : Prop := match x with
  | .bool b => if b = w then Nm P c base (i + 1) d l s h Q (vop ⟨s, h⟩ (nmA base i op h) op) else EvMC P c base l (i + 1) (setd s d .undef) h Q
  | _ => EvMC P c base l (i + 1) (setd s d .undef) h Q
variable {c : Nat → List AV → Heap → AV × Heap} {l : List VO} {s : T AV} {h : Heap} {Q : List St → T AV → Heap → Prop} {d : Option Nat}
variable {base i : Nat}
theorem evmc_nil : EvMC P c base [] i s h Q = Q [⟨s, h⟩] s h := by rw [EvMC]
theorem evmc_go {op : VOp} : EvMC P c base (⟨d, none, op⟩ :: l) i s h Q = Nm P c base (i + 1) d l s h (Qc ⟨s, h⟩ Q) (vop ⟨s, h⟩ (nmA base i op h) op) := by
  rw [EvMC]
  show (bif true then _ else _) = _
  rw [cond_true]
  cases vop ⟨s, h⟩ (nmA base i op h) op <;> rfl
theorem evmc_gd {t : Nat} {w : Bool} {op : VOp} : EvMC P c base (⟨d, some (t, w), op⟩ :: l) i s h Q = Gm P c base i (sg s t) w d op l s h (Qc ⟨s, h⟩ Q) := by
  rw [EvMC]
  show (bif (match St.get ⟨s, h⟩ t with | .bool b => b == w | _ => false) then _ else _) = _
  rw [stget_eq]
  unfold Gm
  cases sg s t <;> try rfl
  rename_i b
  cases b <;> cases w <;> first | rfl | (simp only [beq_self_eq_true, cond_true, if_true]; cases vop ⟨s, h⟩ (nmA base i op h) op <;> rfl)
theorem gm_tt {op : VOp} : Gm P c base i (.bool true) true d op l s h Q = Nm P c base (i + 1) d l s h Q (vop ⟨s, h⟩ (nmA base i op h) op) := rfl
theorem gm_tf {op : VOp} : Gm P c base i (.bool true) false d op l s h Q = EvMC P c base l (i + 1) (setd s d .undef) h Q := rfl
theorem gm_ft {op : VOp} : Gm P c base i (.bool false) true d op l s h Q = EvMC P c base l (i + 1) (setd s d .undef) h Q := rfl
theorem gm_ff {op : VOp} : Gm P c base i (.bool false) false d op l s h Q = Nm P c base (i + 1) d l s h Q (vop ⟨s, h⟩ (nmA base i op h) op) := rfl
theorem gm_t {p : Prop} [Decidable p] {op : VOp} : Gm P c base i (.bool (decide p)) true d op l s h Q = ((p → Nm P c base (i + 1) d l s h Q (vop ⟨s, h⟩ (nmA base i op h) op)) ∧ (¬ p → EvMC P c base l (i + 1) (setd s d .undef) h Q)) := by
  by_cases e : p <;> simp [Gm, e]
theorem gm_f {p : Prop} [Decidable p] {op : VOp} : Gm P c base i (.bool (decide p)) false d op l s h Q = ((¬ p → Nm P c base (i + 1) d l s h Q (vop ⟨s, h⟩ (nmA base i op h) op)) ∧ (p → EvMC P c base l (i + 1) (setd s d .undef) h Q)) := by
  by_cases e : p <;> simp [Gm, e]
theorem gm_undef {w : Bool} {op : VOp} : Gm P c base i .undef w d op l s h Q = EvMC P c base l (i + 1) (setd s d .undef) h Q := rfl
theorem nm_val {v : AV} {h' : Heap} : Nm P c base i d l s h Q (.val v h') = EvMC P c base l i (setd s d v) h' Q := rfl
theorem nm_fail : Nm P c base i d l s h Q .fail = False := rfl
theorem nm_enter {f : Nat} {args : List AV} : Nm P c base i d l s h Q (.enter f args) = (OK P f args h (c f args h).1 (c f args h).2 ∧ EvMC P c base l i (setd s d (c f args h).1) (c f args h).2 Q) := rfl
theorem nm_ite {p : Prop} [Decidable p] {a b : Out} : Nm P c base i d l s h Q (if p then a else b) = ((p → Nm P c base i d l s h Q a) ∧ (¬ p → Nm P c base i d l s h Q b)) := by by_cases e : p <;> simp [e]
theorem evc_nil : EvC P c [] s h Q = Q [⟨s, h⟩] s h := by rw [EvC]
theorem evc_go {op : VOp} : EvC P c (⟨d, none, op⟩ :: l) s h Q = Nc P c d l s h (Qc ⟨s, h⟩ Q) (vop ⟨s, h⟩ h.next op) := by
  rw [EvC]
  show (bif true then _ else _) = _
  rw [cond_true]
  cases vop ⟨s, h⟩ h.next op <;> rfl
theorem evc_gd {t : Nat} {w : Bool} {op : VOp} : EvC P c (⟨d, some (t, w), op⟩ :: l) s h Q = Gc P c (sg s t) w d op l s h (Qc ⟨s, h⟩ Q) := by
  rw [EvC]
  show (bif (match St.get ⟨s, h⟩ t with | .bool b => b == w | _ => false) then _ else _) = _
  rw [stget_eq]
  unfold Gc
  cases sg s t <;> try rfl
  rename_i b
  cases b <;> cases w <;> first | rfl | (simp only [beq_self_eq_true, cond_true, if_true]; cases vop ⟨s, h⟩ h.next op <;> rfl)
theorem gc_tt {op : VOp} : Gc P c (.bool true) true d op l s h Q = Nc P c d l s h Q (vop ⟨s, h⟩ h.next op) := rfl
theorem gc_tf {op : VOp} : Gc P c (.bool true) false d op l s h Q = EvC P c l (setd s d .undef) h Q := rfl
theorem gc_ft {op : VOp} : Gc P c (.bool false) true d op l s h Q = EvC P c l (setd s d .undef) h Q := rfl
theorem gc_ff {op : VOp} : Gc P c (.bool false) false d op l s h Q = Nc P c d l s h Q (vop ⟨s, h⟩ h.next op) := rfl
theorem gc_t {p : Prop} [Decidable p] {op : VOp} : Gc P c (.bool (decide p)) true d op l s h Q = ((p → Nc P c d l s h Q (vop ⟨s, h⟩ h.next op)) ∧ (¬ p → EvC P c l (setd s d .undef) h Q)) := by
  by_cases e : p <;> simp [Gc, e]
theorem gc_f {p : Prop} [Decidable p] {op : VOp} : Gc P c (.bool (decide p)) false d op l s h Q = ((¬ p → Nc P c d l s h Q (vop ⟨s, h⟩ h.next op)) ∧ (p → EvC P c l (setd s d .undef) h Q)) := by
  by_cases e : p <;> simp [Gc, e]
theorem gc_undef {w : Bool} {op : VOp} : Gc P c .undef w d op l s h Q = EvC P c l (setd s d .undef) h Q := rfl
theorem nc_val {v : AV} {h' : Heap} : Nc P c d l s h Q (.val v h') = EvC P c l (setd s d v) h' Q := rfl
theorem nc_fail : Nc P c d l s h Q .fail = False := rfl
theorem nc_enter {f : Nat} {args : List AV} : Nc P c d l s h Q (.enter f args) = (OK P f args h (c f args h).1 (c f args h).2 ∧ EvC P c l (setd s d (c f args h).1) (c f args h).2 Q) := rfl
theorem nc_ite {p : Prop} [Decidable p] {a b : Out} : Nc P c d l s h Q (if p then a else b) = ((p → Nc P c d l s h Q a) ∧ (¬ p → Nc P c d l s h Q b)) := by by_cases e : p <;> simp [e]
theorem qc_go {x : St} {tr : List St} : Qc x Q tr s h = Q (x :: tr) s h := rfl
def R6 := And.intro @allN_zero <| And.intro @allN_nil <| And.intro @allN_cons <| And.intro @allH_nil (And.intro @allH_cons (And.intro @isB_bool (And.intro @iff_self (And.intro @true_iff (And.intro @false_iff (And.intro @iff_true (And.intro @iff_false (And.intro @tl_tup_ii (And.intro @tl_tup_si (And.intro @evc_nil (And.intro @evc_go (And.intro @evc_gd (And.intro @gc_tt (And.intro @gc_tf (And.intro @gc_ft (And.intro @gc_ff (And.intro @gc_t (And.intro @gc_f (And.intro @gc_undef (And.intro @nc_val (And.intro @nc_fail (And.intro @nc_enter (And.intro @nc_ite @qc_go)))))))))))))))))))))))
def R9 := And.intro @evmc_nil (And.intro @evmc_go (And.intro @evmc_gd (And.intro @gm_tt (And.intro @gm_tf (And.intro @gm_ft (And.intro @gm_ff (And.intro @gm_t (And.intro @gm_f (And.intro @gm_undef (And.intro @nm_val (And.intro @nm_fail (And.intro @nm_enter @nm_ite))))))))))))
end
end Go.Proofs.Ytinonmcnofjeeaa.VM
