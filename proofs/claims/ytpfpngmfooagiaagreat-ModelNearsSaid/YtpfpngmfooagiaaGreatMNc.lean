/- Part of a proof: what stands for the program, and its walk. No condition. -/
import Derived.Below
import Derived.ChangeArms
import Derived.ChangeMaps5
import Derived.Deep.DeepAppendWide
import Derived.Laws.Cells
import Derived.Laws.IdiomCopy
import Derived.MapKept
import Derived.OrdersIn
import Derived.RangeFuncLeaves
import Derived.RangeFuncRecord
import Derived.Shelf.GgSortFunc.RowK
import Derived.Shelf.SlSortCmp.NoneTotal
import Derived.Shelf.SlSortCmp.WholeK
import Derived.Shelf.SortM.Plain
import Derived.Shelf.SortM.SortNone
import Derived.Shelf.Spec.SlicesInsertGrow
import Derived.SizedLaws
import Derived.WalkKit
import Derived.WalkLawsBesides
import GoSem.Claim
import Derived.Test.YtpfpngmfooagiaaGreatMNb
set_option linter.unusedSimpArgs false
set_option linter.unusedVariables false
set_option linter.defProp false
set_option maxHeartbeats 1000000
namespace Go.Proofs.YtpfpngmfooagiaaGreat.VM
open Go.RowKit
section
variable (P : Program)
open Classical in
/-- calls told by a function, where they come to that -/
noncomputable def XC (c : Nat → List AV → Heap → AV × Heap) : Told := fun f args h => if OK P f args h (c f args h).1 (c f args h).2 then some (c f args h) else none
theorem xc_ok {c : Nat → List AV → Heap → AV × Heap} : CallOk P (XC P c) := by
  intro f args h v h' e
  unfold XC at e
  split at e
  · rename_i o
    have : c f args h = (v, h') := by simpa using e
    rw [this] at o
    exact o
  · cases e
theorem xc_eq {c : Nat → List AV → Heap → AV × Heap} {f : Nat} {args : List AV} {h : Heap} (o : OK P f args h (c f args h).1 (c f args h).2) : XC P c f args h = some (c f args h) := if_pos o
/-- operations, their calls told by a function, with the states that they came through -/
def EvC (c : Nat → List AV → Heap → AV × Heap) : List VO → T AV → Heap → (List St → T AV → Heap → Prop) → Prop
  | [], s, h, Q => Q [⟨s, h⟩] s h
  | o :: l, s, h, Q => bif wanted ⟨s, h⟩ o.guard then
      (match vop ⟨s, h⟩ h.next o.op with
      | .val v h' => EvC c l (setd s o.dst v) h' fun tr => Q (⟨s, h⟩ :: tr)
      | .fail => False
      | .enter f args => OK P f args h (c f args h).1 (c f args h).2 ∧ EvC c l (setd s o.dst (c f args h).1) (c f args h).2 fun tr => Q (⟨s, h⟩ :: tr))
    else EvC c l (setd s o.dst .undef) h fun tr => Q (⟨s, h⟩ :: tr)
/-- operations, their calls told by a function, with the states that they came through -/
def EvMC (c : Nat → List AV → Heap → AV × Heap) (base : Nat) : List VO → Nat → T AV → Heap → (List St → T AV → Heap → Prop) → Prop
  | [], _, s, h, Q => Q [⟨s, h⟩] s h
  | o :: l, i, s, h, Q => bif wanted ⟨s, h⟩ o.guard then
      (match vop ⟨s, h⟩ (nmA base i o.op h) o.op with
      | .val v h' => EvMC c base l (i + 1) (setd s o.dst v) h' fun tr => Q (⟨s, h⟩ :: tr)
      | .fail => False
      | .enter f args => OK P f args h (c f args h).1 (c f args h).2 ∧ EvMC c base l (i + 1) (setd s o.dst (c f args h).1) (c f args h).2 fun tr => Q (⟨s, h⟩ :: tr))
    else EvMC c base l (i + 1) (setd s o.dst .undef) h fun tr => Q (⟨s, h⟩ :: tr)
end
section
variable {P : Program}
theorem EvC.trace {c : Nat → List AV → Heap → AV × Heap} : ∀ {l : List VO} {s : T AV} {h : Heap} {Q : List St → T AV → Heap → Prop}, EvC P c l s h Q → ∃ tr s' h', vtrace (XC P c) l ⟨s, h⟩ = some tr ∧ tr.getLast? = some ⟨s', h'⟩ ∧ Q tr s' h'
  | [], s, h, Q, e => ⟨_, s, h, rfl, rfl, e⟩
  | o :: l, s, h, Q, e => by
    have last : ∀ {tr : List St} {x y : St}, tr.getLast? = some y → (x :: tr).getLast? = some y := by
      intro tr x y hy
      cases tr with
      | nil => cases hy
      | cons a b => simpa [List.getLast?_cons_cons] using hy
    rw [EvC] at e
    cases hw : wanted ⟨s, h⟩ o.guard with
    | false =>
      rw [hw, cond_false] at e
      obtain ⟨tr, s', h', e1, e2, q⟩ := EvC.trace e
      refine ⟨⟨s, h⟩ :: tr, s', h', ?_, last e2, q⟩
      simp only [vtrace, vdo, hw, cond_false, put_eq, e1, Option.map_some]
    | true =>
      rw [hw, cond_true] at e
      cases hv : vop ⟨s, h⟩ h.next o.op with
      | fail => rw [hv] at e; exact e.elim
      | val v h1 =>
        rw [hv] at e
        obtain ⟨tr, s', h', e1, e2, q⟩ := EvC.trace e
        refine ⟨⟨s, h⟩ :: tr, s', h', ?_, last e2, q⟩
        simp only [vtrace, vdo, hw, cond_true, hv, put_eq, e1, Option.map_some]
      | enter f args =>
        rw [hv] at e
        obtain ⟨hok, e⟩ := e
        obtain ⟨tr, s', h', e1, e2, q⟩ := EvC.trace e
        refine ⟨⟨s, h⟩ :: tr, s', h', ?_, last e2, q⟩
        simp only [vtrace, vdo, hw, cond_true, hv, xc_eq P hok, put_eq, e1, Option.map_some]
/-- a region whose order is drawn -/
theorem EvD.go (c : Nat → List AV → Heap → AV × Heap) {l : List VO} {loose : List (Nat × List Nat)} {s : T AV} {h : Heap} {Q : T AV → Heap → Prop}
    (e : EvC P c l s h fun tr s' h' => looseOk (XC P c) l tr loose = true ∧ Q s' h') : EvD P l loose s h Q := by
  obtain ⟨tr, s', h', e1, e2, q1, q2⟩ := e.trace
  exact ⟨XC P c, xc_ok P, tr, s', h', e1, q1, e2, q2⟩
theorem EvMC.trace {c : Nat → List AV → Heap → AV × Heap} {base : Nat} : ∀ {l : List VO} {i : Nat} {s : T AV} {h : Heap} {Q : List St → T AV → Heap → Prop}, EvMC P c base l i s h Q → ∃ tr s' h', mtrace (XC P c) base l i ⟨s, h⟩ = some tr ∧ tr.getLast? = some ⟨s', h'⟩ ∧ Q tr s' h'
  | [], i, s, h, Q, e => ⟨_, s, h, rfl, rfl, e⟩
  | o :: l, i, s, h, Q, e => by
    have last : ∀ {tr : List St} {x y : St}, tr.getLast? = some y → (x :: tr).getLast? = some y := by
      intro tr x y hy
      cases tr with
      | nil => cases hy
      | cons a b => simpa [List.getLast?_cons_cons] using hy
    rw [EvMC] at e
    cases hw : wanted ⟨s, h⟩ o.guard with
    | false =>
      rw [hw, cond_false] at e
      obtain ⟨tr, s', h', e1, e2, q⟩ := EvMC.trace e
      refine ⟨⟨s, h⟩ :: tr, s', h', ?_, last e2, q⟩
      simp only [mtrace, nameAt_eq, vdo, hw, cond_false, put_eq, e1, Option.map_some]
    | true =>
      rw [hw, cond_true] at e
      cases hv : vop ⟨s, h⟩ (nmA base i o.op h) o.op with
      | fail => rw [hv] at e; exact e.elim
      | val v h1 =>
        rw [hv] at e
        obtain ⟨tr, s', h', e1, e2, q⟩ := EvMC.trace e
        refine ⟨⟨s, h⟩ :: tr, s', h', ?_, last e2, q⟩
        simp only [mtrace, nameAt_eq, vdo, hw, cond_true, hv, put_eq, e1, Option.map_some]
      | enter f args =>
        rw [hv] at e
        obtain ⟨hok, e⟩ := e
        obtain ⟨tr, s', h', e1, e2, q⟩ := EvMC.trace e
        refine ⟨⟨s, h⟩ :: tr, s', h', ?_, last e2, q⟩
        simp only [mtrace, nameAt_eq, vdo, hw, cond_true, hv, xc_eq P hok, put_eq, e1, Option.map_some]
mutual
theorem AV.eqb_refl : ∀ x : AV, AV.eqb x x = true
  | .undef => rfl
  | .bool b => by cases b <;> rfl
  | .int k n => by simp [AV.eqb]
  | .str s => by simp [AV.eqb]
  | .ptr a b => by simp [AV.eqb]
  | .nilp => rfl
  | .sl .. => by simp [AV.eqb]
  | .nils => rfl
  | .map b => by simp [AV.eqb]
  | .nilm => rfl
  | .fn f l => by simp [AV.eqb, AV.eqbs_refl l]
  | .nilf => rfl
  | .agg l => by simp [AV.eqb, AV.eqbs_refl l]
  | .tup l => by simp [AV.eqb, AV.eqbs_refl l]
  | .rs l n => by simp [AV.eqb, AV.eqbs_refl l]
  | .rp l => by simp [AV.eqb, AV.eqbs_refl l]
  | .yld b => by simp [AV.eqb]
theorem AV.eqbs_refl : ∀ l : List AV, AV.eqbs l l = true
  | [] => rfl
  | x :: l => by simp [AV.eqbs, AV.eqb_refl x, AV.eqbs_refl l]
end
/-- one look that has no place -/
def Lk (si : St) (hk : Heap) (o : VO) (sj : St) : Prop := (if wanted si o.guard = true then (match vop ⟨si.s, hk⟩ hk.next o.op with
    | .val v _ => (match o.dst with | some d => v = sj.get d | none => True)
    | _ => False) else (match o.dst with | some d => AV.undef = sj.get d | none => True))
theorem lk_same {si : St} {o : VO} {sj : St} {X : Told} (e : vdo X si si.h.next o = some sj) (hk : o.op.kind = 1) : Lk si si.h o sj := by
  unfold vdo at e
  unfold Lk
  cases hw : wanted si o.guard with
  | false =>
    rw [hw, cond_false] at e
    rw [if_neg (by simp)]
    cases e
    cases hd : o.dst with
    | none => trivial
    | some d => simp only [St.get_put, if_true]
  | true =>
    rw [hw, cond_true] at e
    rw [if_pos rfl]
    cases hv : vop si si.h.next o.op with
    | fail => rw [hv] at e; cases e
    | val v h =>
      rw [hv] at e
      cases e
      cases hd : o.dst with
      | none => trivial
      | some d => simp only [St.get_put, if_true]
    | enter f args =>
      rcases vop_enter_call hv with ⟨l, e'⟩ | ⟨x, l, e'⟩ <;> rw [e'] at hk <;> simp [VOp.kind] at hk
theorem Lk.ok {X : Told} {si : St} {hk : Heap} {o : VO} {sj : St} (e : Lk si hk o sj) : (match vdo X ⟨si.s, hk⟩ hk.next o with
      | some s' => (match o.dst with
        | some d => AV.eqb (s'.get d) (sj.get d)
        | none => true)
      | none => false) = true := by
  unfold Lk at e
  have hw : wanted ⟨si.s, hk⟩ o.guard = wanted si o.guard := by
    unfold wanted
    cases o.guard <;> rfl
  unfold vdo
  rw [hw]
  cases hg : wanted si o.guard with
  | false =>
    rw [hg, if_neg (by simp)] at e
    rw [cond_false]
    simp only
    cases hd : o.dst with
    | none => rfl
    | some d =>
      rw [hd] at e
      simp only [St.get_put, if_true]
      rw [← e]
      exact AV.eqb_refl _
  | true =>
    rw [hg, if_pos rfl] at e
    rw [cond_true]
    cases hv : vop ⟨si.s, hk⟩ hk.next o.op with
    | fail => rw [hv] at e; exact e.elim
    | enter f args => rw [hv] at e; exact e.elim
    | val v h =>
      rw [hv] at e
      simp only
      cases hd : o.dst with
      | none => rfl
      | some d =>
        rw [hd] at e
        simp only [St.get_put, if_true]
        simp only at e
        rw [e]
        exact AV.eqb_refl _
/-- memory is as it was all along -/
def allH (h : Heap) : List St → Prop
  | [] => True
  | x :: tr => x.h = h ∧ allH h tr
theorem allH_get {h : Heap} : ∀ {tr : List St}, allH h tr → ∀ {i : Nat} {x : St}, tr[i]? = some x → x.h = h
  | [], _, i, x, e => by simp at e
  | _ :: _, ⟨h1, h2⟩, 0, x, e => by simp at e; subst e; exact h1
  | _ :: _, ⟨h1, h2⟩, i + 1, x, e => allH_get h2 (by simpa using e)
theorem vtrace_step {X : Told} : ∀ {l : List VO} {st : St} {tr : List St}, vtrace X l st = some tr → tr.length = l.length + 1 ∧ ∀ (i : Nat) (o : VO) (x y : St), l[i]? = some o → tr[i]? = some x → tr[i + 1]? = some y → vdo X x x.h.next o = some y
  | [], st, tr, e => by cases e; exact ⟨rfl, fun i o x y h => by simp at h⟩
  | o :: l, st, tr, e => by
    simp only [vtrace] at e
    split at e
    · rename_i st1 hd
      obtain ⟨tr', e1, rfl⟩ := Option.map_eq_some_iff.1 e
      obtain ⟨h1, h2⟩ := vtrace_step e1
      refine ⟨by simp [h1], fun i o' x y ho hx hy => ?_⟩
      cases i with
      | zero =>
        simp at ho hx hy
        subst ho hx
        have : tr'[0]? = some st1 := (vtrace_spec e1).2.1
        rw [this] at hy
        cases hy
        exact hd
      | succ i => exact h2 i o' x y (by simpa using ho) (by simpa using hx) (by simpa using hy)
    · cases e
def okL (l : List VO) (loose : List (Nat × List Nat)) : Bool := loose.all fun p => p.2.all (fun k => Nat.ble k l.length) && (match l[p.1]? with
  | some o => Nat.beq o.op.kind 1
  | none => false)
/-- a region that leaves memory as it is -/
theorem EvD.same (c : Nat → List AV → Heap → AV × Heap) {l : List VO} {loose : List (Nat × List Nat)} {s : T AV} {h : Heap} {Q : T AV → Heap → Prop} (hk : okL l loose = true)
    (e : EvC P c l s h fun tr s' h' => allH h tr ∧ Q s' h') : EvD P l loose s h Q := by
  obtain ⟨tr, s', h', e1, e2, q1, q2⟩ := e.trace
  refine ⟨XC P c, xc_ok P, tr, s', h', e1, ?_, e2, q2⟩
  obtain ⟨hl, hst⟩ := vtrace_step e1
  unfold looseOk
  unfold okL at hk
  rw [List.all_eq_true] at hk ⊢
  intro p hp
  have hkp := hk p hp
  rw [Bool.and_eq_true, List.all_eq_true] at hkp
  obtain ⟨h1, h2⟩ := hkp
  rw [List.all_eq_true]
  intro k hkm
  have hkl : k ≤ l.length := by simpa using h1 k hkm
  cases ho : l[p.1]? with
  | none => rw [ho] at h2; cases h2
  | some o =>
    rw [ho] at h2
    have hkind : o.op.kind = 1 := by simpa using h2
    have hil : p.1 < l.length := (List.getElem?_eq_some_iff.1 ho).1
    have a1 : tr[p.1]? = some tr[p.1] := List.getElem?_eq_getElem (by omega)
    have a2 : tr[p.1 + 1]? = some tr[p.1 + 1] := List.getElem?_eq_getElem (by omega)
    have a3 : tr[k]? = some tr[k] := List.getElem?_eq_getElem (by omega)
    simp only [a1, a2, a3]
    have b1 := allH_get q1 a1
    have b3 := allH_get q1 a3
    have hv := hst _ _ _ _ ho a1 a2
    have := (lk_same hv hkind).ok (X := XC P c)
    rw [b1] at this
    rw [b3]
    exact this
def allN (h : Heap) : Nat → List St → Prop
  | 0, _ => True
  | _ + 1, [] => True
  | n + 1, x :: tr => x.h = h ∧ allN h n tr
theorem allN_get {h : Heap} : ∀ {n : Nat} {tr : List St}, allN h n tr → ∀ {i : Nat} {x : St}, i < n → tr[i]? = some x → x.h = h
  | 0, _, _, _, _, hi, _ => by omega
  | _ + 1, [], _, i, x, _, e => by simp at e
  | _ + 1, _ :: _, ⟨h1, h2⟩, 0, x, _, e => by simp at e; subst e; exact h1
  | _ + 1, _ :: _, ⟨h1, h2⟩, i + 1, x, hi, e => allN_get (i := i) h2 (by omega) (by simpa using e)
def okN (l : List VO) (loose : List (Nat × List Nat)) (N : Nat) : Bool := loose.all fun p => p.2.all (fun k => decide (k < N) && Nat.ble k l.length) && decide (p.1 < N) && (match l[p.1]? with
  | some o => Nat.beq o.op.kind 1
  | none => false)
/-- a region that leaves memory as it is, for so many operations as its looks lie in -/
theorem EvD.sameN (N : Nat) (c : Nat → List AV → Heap → AV × Heap) {l : List VO} {loose : List (Nat × List Nat)} {s : T AV} {h : Heap} {Q : T AV → Heap → Prop} (hk : okN l loose N = true)
    (e : EvC P c l s h fun tr s' h' => allN h N tr ∧ Q s' h') : EvD P l loose s h Q := by
  obtain ⟨tr, s', h', e1, e2, q1, q2⟩ := e.trace
  refine ⟨XC P c, xc_ok P, tr, s', h', e1, ?_, e2, q2⟩
  obtain ⟨hl, hst⟩ := vtrace_step e1
  unfold looseOk
  unfold okN at hk
  rw [List.all_eq_true] at hk ⊢
  intro p hp
  have hkp := hk p hp
  rw [Bool.and_eq_true, Bool.and_eq_true, List.all_eq_true] at hkp
  obtain ⟨⟨h1, h3⟩, h2⟩ := hkp
  have h3 : p.1 < N := by simpa using h3
  rw [List.all_eq_true]
  intro k hkm
  have hkl : k < N ∧ k ≤ l.length := by simpa using h1 k hkm
  cases ho : l[p.1]? with
  | none => rw [ho] at h2; cases h2
  | some o =>
    rw [ho] at h2
    have hkind : o.op.kind = 1 := by simpa using h2
    have hil : p.1 < l.length := (List.getElem?_eq_some_iff.1 ho).1
    have a1 : tr[p.1]? = some tr[p.1] := List.getElem?_eq_getElem (by omega)
    have a2 : tr[p.1 + 1]? = some tr[p.1 + 1] := List.getElem?_eq_getElem (by omega)
    have a3 : tr[k]? = some tr[k] := List.getElem?_eq_getElem (by omega)
    simp only [a1, a2, a3]
    have b1 := allN_get q1 h3 a1
    have b3 := allN_get q1 hkl.1 a3
    have hv := hst _ _ _ _ ho a1 a2
    have := (lk_same hv hkind).ok (X := XC P c)
    rw [b1] at this
    rw [b3]
    exact this
theorem allN_zero {h : Heap} {tr : List St} : allN h 0 tr = True := rfl
theorem allN_nil {h : Heap} {n : Nat} : allN h (n + 1) [] = True := rfl
theorem allN_cons {h h' : Heap} {n : Nat} {s : T AV} {tr : List St} : allN h (n + 1) (⟨s, h'⟩ :: tr) = (h' = h ∧ allN h n tr) := rfl
theorem allH_nil {h : Heap} : allH h [] = True := rfl
theorem allH_cons {h h' : Heap} {s : T AV} {tr : List St} : allH h (⟨s, h'⟩ :: tr) = (h' = h ∧ allH h tr) := rfl
/-- the program's functions, by a table -/
structure Pg (P : Program) (F : Nat → Option VFun) : Prop where
  hm : P.follows .mixedOrders = true
  tb : TableOk P F
variable {F : Nat → Option VFun}
theorem Pg.cl (g : Pg P F) {f : Nat} {vf : VFun} (hf : F f = some vf) {args : List AV} (hl : args.length = vf.nargs) {h : Heap} {Q : AV → Heap → Prop}
    (e : Ev P vf.body (argsT args 0 .e) h (Un P [] (Fin vf.res Q))) : Cl P f args h Q :=
  let ⟨hlt, _, h1, h2, h3⟩ := g.tb f vf hf
  Cl.enter g.hm h1 h2 h3 hlt hl e
theorem Pg.pu (g : Pg P F) {f : Nat} {vf : VFun} (hf : F f = some vf) {args : List AV} (hl : args.length = vf.nargs) {R : AV → Prop}
    (e : Ev P vf.body (argsT args 0 .e) ⟨0, .e⟩ (Un P [] (Fin vf.res fun v h' => Tl h' v R))) : Pu P f args R := Pu.of (g.cl hf hl e)
theorem Pg.lp (g : Pg P F) {b : VCode} {s : T AV} {h : Heap} {k : List Fr} {Q : Ex → T AV → Heap → Prop} (e : Ev P b s h (Un P (.lp b :: k) Q)) : Lp P b s h (Un P k Q) := Lp.go g.hm e
theorem Pg.lpe (g : Pg P F) {b b' : VCode} (hb : b = b') {s : T AV} {h : Heap} {k : List Fr} {Q : Ex → T AV → Heap → Prop} (e : Ev P b' s h (Un P (.lp b :: k) Q)) : Lp P b s h (Un P k Q) := Lp.go g.hm (hb.symm ▸ e)
/-- a call that comes to one value -/
theorem Pu.exact {f : Nat} {args : List AV} {v : AV} (p : Pu P f args fun x => x = v) (ha : AV.tolds args = true) {h : Heap} : OK P f args h v h :=
  let ⟨_, _, _, o, hf, q⟩ := p
  q ▸ o.pure (Fzs.refl ha) hf
theorem Pu.go {f : Nat} {args : List AV} {R : AV → Prop} (p : Pu P f args R) (ha : AV.tolds args = true) {h : Heap} {Q : AV → Heap → Prop} (k : ∀ v, R v → Q v h) : Cl P f args h Q := p.cl (Fzs.refl ha) k
theorem tl_tup_ii {h : Heap} {kk k2 : IntKind} {n m : Int} {R : AV → Prop} : Tl h (.tup [.int kk n, .int k2 m]) R = R (.tup [.int kk n, .int k2 m]) :=
  propext ⟨fun ⟨_, f, r⟩ => by cases f with | tup t => cases t with | cons f t => cases f; cases t with | cons f t => cases f; cases t; exact r, fun r => ⟨_, .tup (.cons (.int kk n) (.cons (.int k2 m) .nil)), r⟩⟩
theorem tl_tup_si {h : Heap} {k2 : IntKind} {n : List Nat} {m : Int} {R : AV → Prop} : Tl h (.tup [.str n, .int k2 m]) R = R (.tup [.str n, .int k2 m]) :=
  propext ⟨fun ⟨_, f, r⟩ => by cases f with | tup t => cases t with | cons f t => cases f; cases t with | cons f t => cases f; cases t; exact r, fun r => ⟨_, .tup (.cons (.str n) (.cons (.int k2 m) .nil)), r⟩⟩
/-- it is a truth: of this -/
def IsB (p : Prop) (v : AV) : Prop := ∃ b : Bool, v = .bool b ∧ (b = true ↔ p)
theorem isB_bool {p : Prop} {b : Bool} : IsB p (.bool b) = (b = true ↔ p) := propext ⟨fun ⟨_, e, h⟩ => by cases e; exact h, fun h => ⟨b, rfl, h⟩⟩
def Nc (P : Program) (c : Nat → List AV → Heap → AV × Heap) (d : Option Nat) (l : List VO) (s : T AV) (h : Heap) (Q : List St → T AV → Heap → Prop) : Out → Prop
  | .val v h' => EvC P c l (setd s d v) h' Q
  | .fail => False
  | .enter f args => OK P f args h (c f args h).1 (c f args h).2 ∧ EvC P c l (setd s d (c f args h).1) (c f args h).2 Q
def Qc (x : St) (Q : List St → T AV → Heap → Prop) : List St → T AV → Heap → Prop := fun tr => Q (x :: tr)
def Gc (P : Program) (c : Nat → List AV → Heap → AV × Heap) (x : AV) (w : Bool) (d : Option Nat) (op : VOp) (l : List VO) (s : T AV) (h : Heap) (Q : List St → T AV → Heap → Prop) : Prop := match x with
  | .bool b => if b = w then Nc P c d l s h Q (vop ⟨s, h⟩ h.next op) else EvC P c l (setd s d .undef) h Q
  | _ => EvC P c l (setd s d .undef) h Q
def Nm (P : Program) (c : Nat → List AV → Heap → AV × Heap) (base i : Nat) (d : Option Nat) (l : List VO) (s : T AV) (h : Heap) (Q : List St → T AV → Heap → Prop) : Out → Prop
  | .val v h' => EvMC P c base l i (setd s d v) h' Q
  | .fail => False
  | .enter f args => OK P f args h (c f args h).1 (c f args h).2 ∧ EvMC P c base l i (setd s d (c f args h).1) (c f args h).2 Q
def Gm (P : Program) (c : Nat → List AV → Heap → AV × Heap) (base i : Nat) (x : AV) (w : Bool) (d : Option Nat) (op : VOp) (l : List VO) (s : T AV) (h : Heap) (Q : List St → T AV → Heap → Prop) : Prop := match x with
  | .bool b => if b = w then Nm P c base (i + 1) d l s h Q (vop ⟨s, h⟩ (nmA base i op h) op) else EvMC P c base l (i + 1) (setd s d .undef) h Q
  | _ => EvMC P c base l (i + 1) (setd s d .undef) h Q
variable {c : Nat → List AV → Heap → AV × Heap} {l : List VO} {s : T AV} {h : Heap} {Q : List St → T AV → Heap → Prop} {d : Option Nat}
variable {base i : Nat}
theorem evmc_nil : EvMC P c base [] i s h Q = Q [⟨s, h⟩] s h := by rw [EvMC]
theorem evmc_go {op : VOp} : EvMC P c base (⟨d, none, op⟩ :: l) i s h Q = Nm P c base (i + 1) d l s h (Qc ⟨s, h⟩ Q) (vop ⟨s, h⟩ (nmA base i op h) op) := by
  rw [EvMC]
  show (bif true then _ else _) = _
  rw [cond_true]
  cases vop ⟨s, h⟩ (nmA base i op h) op <;> rfl
theorem evmc_gd {t : Nat} {w : Bool} {op : VOp} : EvMC P c base (⟨d, some (t, w), op⟩ :: l) i s h Q = Gm P c base i (sg s t) w d op l s h (Qc ⟨s, h⟩ Q) := by
  rw [EvMC]
  show (bif (match St.get ⟨s, h⟩ t with | .bool b => b == w | _ => false) then _ else _) = _
  rw [stget_eq]
  unfold Gm
  cases sg s t <;> try rfl
  rename_i b
  cases b <;> cases w <;> first | rfl | (simp only [beq_self_eq_true, cond_true, if_true]; cases vop ⟨s, h⟩ (nmA base i op h) op <;> rfl)
theorem gm_tt {op : VOp} : Gm P c base i (.bool true) true d op l s h Q = Nm P c base (i + 1) d l s h Q (vop ⟨s, h⟩ (nmA base i op h) op) := rfl
theorem gm_tf {op : VOp} : Gm P c base i (.bool true) false d op l s h Q = EvMC P c base l (i + 1) (setd s d .undef) h Q := rfl
theorem gm_ft {op : VOp} : Gm P c base i (.bool false) true d op l s h Q = EvMC P c base l (i + 1) (setd s d .undef) h Q := rfl
theorem gm_ff {op : VOp} : Gm P c base i (.bool false) false d op l s h Q = Nm P c base (i + 1) d l s h Q (vop ⟨s, h⟩ (nmA base i op h) op) := rfl
theorem gm_t {p : Prop} [Decidable p] {op : VOp} : Gm P c base i (.bool (decide p)) true d op l s h Q = ((p → Nm P c base (i + 1) d l s h Q (vop ⟨s, h⟩ (nmA base i op h) op)) ∧ (¬ p → EvMC P c base l (i + 1) (setd s d .undef) h Q)) := by
  by_cases e : p <;> simp [Gm, e]
theorem gm_f {p : Prop} [Decidable p] {op : VOp} : Gm P c base i (.bool (decide p)) false d op l s h Q = ((¬ p → Nm P c base (i + 1) d l s h Q (vop ⟨s, h⟩ (nmA base i op h) op)) ∧ (p → EvMC P c base l (i + 1) (setd s d .undef) h Q)) := by
  by_cases e : p <;> simp [Gm, e]
theorem gm_undef {w : Bool} {op : VOp} : Gm P c base i .undef w d op l s h Q = EvMC P c base l (i + 1) (setd s d .undef) h Q := rfl
theorem nm_val {v : AV} {h' : Heap} : Nm P c base i d l s h Q (.val v h') = EvMC P c base l i (setd s d v) h' Q := rfl
theorem nm_fail : Nm P c base i d l s h Q .fail = False := rfl
theorem nm_enter {f : Nat} {args : List AV} : Nm P c base i d l s h Q (.enter f args) = (OK P f args h (c f args h).1 (c f args h).2 ∧ EvMC P c base l i (setd s d (c f args h).1) (c f args h).2 Q) := rfl
theorem nm_ite {p : Prop} [Decidable p] {a b : Out} : Nm P c base i d l s h Q (if p then a else b) = ((p → Nm P c base i d l s h Q a) ∧ (¬ p → Nm P c base i d l s h Q b)) := by by_cases e : p <;> simp [e]
theorem evc_nil : EvC P c [] s h Q = Q [⟨s, h⟩] s h := by rw [EvC]
theorem evc_go {op : VOp} : EvC P c (⟨d, none, op⟩ :: l) s h Q = Nc P c d l s h (Qc ⟨s, h⟩ Q) (vop ⟨s, h⟩ h.next op) := by
  rw [EvC]
  show (bif true then _ else _) = _
  rw [cond_true]
  cases vop ⟨s, h⟩ h.next op <;> rfl
theorem evc_gd {t : Nat} {w : Bool} {op : VOp} : EvC P c (⟨d, some (t, w), op⟩ :: l) s h Q = Gc P c (sg s t) w d op l s h (Qc ⟨s, h⟩ Q) := by
  rw [EvC]
  show (bif (match St.get ⟨s, h⟩ t with | .bool b => b == w | _ => false) then _ else _) = _
  rw [stget_eq]
  unfold Gc
  cases sg s t <;> try rfl
  rename_i b
  cases b <;> cases w <;> first | rfl | (simp only [beq_self_eq_true, cond_true, if_true]; cases vop ⟨s, h⟩ h.next op <;> rfl)
theorem gc_tt {op : VOp} : Gc P c (.bool true) true d op l s h Q = Nc P c d l s h Q (vop ⟨s, h⟩ h.next op) := rfl
theorem gc_tf {op : VOp} : Gc P c (.bool true) false d op l s h Q = EvC P c l (setd s d .undef) h Q := rfl
theorem gc_ft {op : VOp} : Gc P c (.bool false) true d op l s h Q = EvC P c l (setd s d .undef) h Q := rfl
theorem gc_ff {op : VOp} : Gc P c (.bool false) false d op l s h Q = Nc P c d l s h Q (vop ⟨s, h⟩ h.next op) := rfl
theorem gc_t {p : Prop} [Decidable p] {op : VOp} : Gc P c (.bool (decide p)) true d op l s h Q = ((p → Nc P c d l s h Q (vop ⟨s, h⟩ h.next op)) ∧ (¬ p → EvC P c l (setd s d .undef) h Q)) := by
  by_cases e : p <;> simp [Gc, e]
theorem gc_f {p : Prop} [Decidable p] {op : VOp} : Gc P c (.bool (decide p)) false d op l s h Q = ((¬ p → Nc P c d l s h Q (vop ⟨s, h⟩ h.next op)) ∧ (p → EvC P c l (setd s d .undef) h Q)) := by
  by_cases e : p <;> simp [Gc, e]
theorem gc_undef {w : Bool} {op : VOp} : Gc P c .undef w d op l s h Q = EvC P c l (setd s d .undef) h Q := rfl
theorem nc_val {v : AV} {h' : Heap} : Nc P c d l s h Q (.val v h') = EvC P c l (setd s d v) h' Q := rfl
theorem nc_fail : Nc P c d l s h Q .fail = False := rfl
theorem nc_enter {f : Nat} {args : List AV} : Nc P c d l s h Q (.enter f args) = (OK P f args h (c f args h).1 (c f args h).2 ∧ EvC P c l (setd s d (c f args h).1) (c f args h).2 Q) := rfl
theorem nc_ite {p : Prop} [Decidable p] {a b : Out} : Nc P c d l s h Q (if p then a else b) = ((p → Nc P c d l s h Q a) ∧ (¬ p → Nc P c d l s h Q b)) := by by_cases e : p <;> simp [e]
theorem qc_go {x : St} {tr : List St} : Qc x Q tr s h = Q (x :: tr) s h := rfl
def R6 := And.intro @allN_zero <| And.intro @allN_nil <| And.intro @allN_cons <| And.intro @allH_nil (And.intro @allH_cons (And.intro @isB_bool (And.intro @iff_self (And.intro @true_iff (And.intro @false_iff (And.intro @iff_true (And.intro @iff_false (And.intro @tl_tup_ii (And.intro @tl_tup_si (And.intro @evc_nil (And.intro @evc_go (And.intro @evc_gd (And.intro @gc_tt (And.intro @gc_tf (And.intro @gc_ft (And.intro @gc_ff (And.intro @gc_t (And.intro @gc_f (And.intro @gc_undef (And.intro @nc_val (And.intro @nc_fail (And.intro @nc_enter (And.intro @nc_ite @qc_go)))))))))))))))))))))))
def R9 := And.intro @evmc_nil (And.intro @evmc_go (And.intro @evmc_gd (And.intro @gm_tt (And.intro @gm_tf (And.intro @gm_ft (And.intro @gm_ff (And.intro @gm_t (And.intro @gm_f (And.intro @gm_undef (And.intro @nm_val (And.intro @nm_fail (And.intro @nm_enter @nm_ite))))))))))))
end
end Go.Proofs.YtpfpngmfooagiaaGreat.VM
namespace Go.Proofs.YtpfpngmfooagiaaGreat.VM
theorem mod64 {x : Nat} (h : x < 18446744073709551616) : (((x : Int) % 2 ^ IntKind.bits .i64).toNat) = x := by
  have : IntKind.bits .i64 = 64 := rfl
  rw [this]
  omega
/-- any number's low bits -/
theorem and_any (z : Int) {n : Nat} (hn : n ≤ 62) : bitsOf .and .i64 z (((2 ^ n : Nat) : Int) - 1) = (((z % 18446744073709551616).toNat % 2 ^ n : Nat) : Int) := by
  have hp : 0 < 2 ^ n := Nat.two_pow_pos n
  have hle : 2 ^ n ≤ 2 ^ 62 := Nat.pow_le_pow_right (by decide) hn
  have e : (((2 ^ n : Nat) : Int) - 1) = ((2 ^ n - 1 : Nat) : Int) := by omega
  unfold bitsOf
  simp only
  rw [e, mod64 (by omega)]
  have eb : IntKind.bits .i64 = 64 := rfl
  rw [eb]
  have : Nat.land (z % 2 ^ 64).toNat (2 ^ n - 1) = (z % 2 ^ 64).toNat % 2 ^ n := Nat.and_two_pow_sub_one_eq_mod _ n
  rw [this]
  have hlt := Nat.mod_lt (z % 2 ^ 64).toNat hp
  have e2 : (2 : Int) ^ 64 = 18446744073709551616 := rfl
  rw [e2] at hlt ⊢
  exact w64 (by omega) (by omega)
theorem wr_at {h : Heap} {b j : Nat} {l : List AV} {e : TypeId} {ver : Nat} (hg : h.get b = some (.cells l e ver)) (hj : j < l.length) {x : AV} (hx : x.one = true) : writeAt h b j [x] = some (h.put b (.cells (l.set j x) e (ver + 1))) := by
  unfold writeAt
  rw [hg]
  have : Nat.ble (j + 1) l.length = true := by rw [Nat.ble_eq]; exact hj
  have e2 : lsets [x] l j = l.set j x := by
    unfold lsets
    rw [List.set_eq_take_append_cons_drop, if_pos hj]
    simp
  simp only [List.length_cons, List.length_nil, Nat.zero_add, this, List.all_cons, hx, List.all_nil, Bool.and_self, cond_true, e2]
def wrB (h : Heap) (b off : Nat) (vs : List AV) : Option Blk → Option Heap
  | some (.cells l e ver) => if off + vs.length ≤ l.length ∧ vs.all AV.one = true then some (h.put b (.cells (l.take off ++ vs ++ l.drop (off + vs.length)) e (ver + 1))) else none
  | _ => none
theorem writeAt_go {h : Heap} {b off : Nat} {vs : List AV} : writeAt h b off vs = wrB h b off vs (h.get b) := by
  unfold writeAt wrB
  cases h.get b with
  | none => rfl
  | some o =>
    cases o with
    | cells l e ver =>
      simp only [bif_eq, Bool.and_eq_true, Nat.ble_eq]
      rfl
    | _ => rfl
theorem wrB_some {h : Heap} {b off : Nat} {vs l : List AV} {e : TypeId} {ver : Nat} : wrB h b off vs (some (.cells l e ver)) = if off + vs.length ≤ l.length ∧ vs.all AV.one = true then some (h.put b (.cells (l.take off ++ vs ++ l.drop (off + vs.length)) e (ver + 1))) else none := rfl
theorem one_int {k : IntKind} {n : Int} : AV.one (.int k n) = true := rfl
theorem one_bool {b : Bool} : AV.one (.bool b) = true := rfl
theorem one_str {s : List Nat} : AV.one (.str s) = true := rfl
theorem one_nils : AV.one .nils = true := rfl
theorem one_nilp : AV.one .nilp = true := rfl
theorem one_rs {l : List AV} {n : Nat} : AV.one (.rs l n) = true := rfl
theorem one_sl {a b c d e : Nat} : AV.one (.sl a b c d e) = true := rfl
theorem one_ptr {a b : Nat} : AV.one (.ptr a b) = true := rfl
def RW := And.intro @writeAt_go (And.intro @wrB_some (And.intro @one_int (And.intro @one_bool (And.intro @one_str (And.intro @one_nils (And.intro @one_nilp (And.intro @one_rs (And.intro @one_sl (And.intro @one_ptr (And.intro @Bool.and_self (And.intro @Bool.and_true (And.intro @List.all_cons.{0} @List.all_nil.{0}))))))))))))
section
variable {P : Program} {F : Nat → Option VFun}
/-- a closed call, run -/
theorem Pg.run (g : Pg P F) {n f : Nat} {b : Bool} (hv : (vcall F (fun _ _ _ => none) n f [] ⟨0, .e⟩).map (·.1) = some (.bool b)) : Pu P f [] (fun v => v = .bool b) := by
  obtain ⟨⟨v, h'⟩, e1, e2⟩ := Option.map_eq_some_iff.1 hv
  simp only at e2
  subst e2
  exact ⟨_, _, h', (vm_ok (drawn_ok g.hm) g.tb nothing_told n).2.2 f [] _ _ _ e1, .bool b, rfl⟩
/-- a value told without memory, computed -/
def fz (r : Bool) (h : Heap) : Nat → AV → Option AV
  | 0, _ => none
  | n + 1, v => match v with
    | .sl b off len _ sz => bif Nat.beq len 0 then some (.rs [] 0) else match h.get b with
      | some (.cells l _ _) => match cut l off (len * sz) with
        | some cs => (cs.mapM (fz r h n)).map (.rs · len)
        | none => none
      | _ => none
    | .ptr b off => match h.get b with
      | some (.cells l _ _) => ((l.drop off).mapM (fz r h n)).map .rp
      | _ => none
    | .agg l => (l.mapM (fz r h n)).map .agg
    | .tup l => (l.mapM (fz r h n)).map .tup
    | .fn f l => (l.mapM (fz r h n)).map (.fn f)
    | .rs l len => bif Nat.beq len 0 then some (.rs [] 0) else bif r then (l.mapM (fz r h n)).map (.rs · len) else none
    | .rp l => bif r then (l.mapM (fz r h n)).map .rp else none
    | .map _ => none
    | .yld _ => none
    | v => some v
theorem fzs_of {r : Bool} {h : Heap} {n : Nat} (ih : ∀ v v', fz r h n v = some v' → Fz r h v v') : ∀ {l k : List AV}, l.mapM (fz r h n) = some k → Fzs r h l k
  | [], k, e => by simp at e; subst e; exact .nil
  | x :: l, k, e => by
    simp only [List.mapM_cons, Option.bind_eq_bind, Option.bind_eq_some_iff, Option.pure_def, Option.some.injEq] at e
    obtain ⟨b, h1, k', h2, rfl⟩ := e
    exact .cons (ih _ _ h1) (fzs_of ih h2)
theorem fz_ok {r : Bool} {h : Heap} : ∀ (n : Nat) (v v' : AV), fz r h n v = some v' → Fz r h v v'
  | 0, _, _, e => by cases e
  | n + 1, v, v', e => by
    have ih := fz_ok (r := r) (h := h) n
    cases v with
    | undef => cases e; exact .undef
    | bool b => cases e; exact .bool b
    | int k m => cases e; exact .int k m
    | str s => cases e; exact .str s
    | nilp => cases e; exact .nilp
    | nils => cases e; exact .nils
    | nilm => cases e; exact .nilm
    | nilf => cases e; exact .nilf
    | map b => cases e
    | yld b => cases e
    | sl b off len cap sz =>
      simp only [fz, T.beq_dec] at e
      by_cases h0 : len = 0
      · rw [decide_eq_true h0, cond_true] at e
        cases e; subst h0; exact .sl0
      · rw [decide_eq_false h0, cond_false] at e
        split at e
        · rename_i l _ _ hg
          split at e
          · rename_i cs hc
            obtain ⟨k, hk, rfl⟩ := Option.map_eq_some_iff.1 e
            exact .sl (by omega) hg hc (fzs_of ih hk)
          · cases e
        · cases e
    | ptr b off =>
      simp only [fz] at e
      split at e
      · rename_i l _ _ hg
        obtain ⟨k, hk, rfl⟩ := Option.map_eq_some_iff.1 e
        exact .ptr hg (fzs_of ih hk)
      · cases e
    | agg l => simp only [fz] at e; obtain ⟨k, hk, rfl⟩ := Option.map_eq_some_iff.1 e; exact .agg (fzs_of ih hk)
    | tup l => simp only [fz] at e; obtain ⟨k, hk, rfl⟩ := Option.map_eq_some_iff.1 e; exact .tup (fzs_of ih hk)
    | fn f l => simp only [fz] at e; obtain ⟨k, hk, rfl⟩ := Option.map_eq_some_iff.1 e; exact .fn (fzs_of ih hk)
    | rs l len =>
      simp only [fz, T.beq_dec] at e
      by_cases h0 : len = 0
      · rw [decide_eq_true h0, cond_true] at e
        cases e; subst h0; exact .rs0
      · rw [decide_eq_false h0, cond_false] at e
        cases r with
        | false => cases e
        | true => obtain ⟨k, hk, rfl⟩ := Option.map_eq_some_iff.1 e; exact .rs rfl (fzs_of ih hk)
    | rp l =>
      simp only [fz] at e
      cases r with
      | false => cases e
      | true => obtain ⟨k, hk, rfl⟩ := Option.map_eq_some_iff.1 e; exact .rp rfl (fzs_of ih hk)
/-- a call with one argument, which is told first -/
theorem Pu.one {P : Program} {f : Nat} {a a' : AV} {R : AV → Prop} (p : Pu P f [a'] R) {h : Heap} (e : fz true h 40 a = some a') {Q : AV → Heap → Prop} (k : ∀ v, R v → Q v h) : Cl P f [a] h Q := p.cl (.cons (fz_ok _ _ _ e) .nil) k
/-- numbers, truths, texts alone -/
def scal1 : AV → Bool
  | .bool _ | .int .. | .str _ => true
  | _ => false
theorem scal1_fz {r : Bool} {h : Heap} : ∀ {x : AV}, scal1 x = true → Fz r h x x
  | .bool b, _ => .bool b
  | .int k n, _ => .int k n
  | .str s, _ => .str s
  | .undef, e | .ptr .., e | .nilp, e | .sl .., e | .nils, e | .map _, e | .nilm, e | .fn .., e | .nilf, e | .agg _, e | .tup _, e | .rs .., e | .rp _, e | .yld _, e => by cases e
theorem scals_fz {r : Bool} {h : Heap} : ∀ {l : List AV}, l.all scal1 = true → Fzs r h l l
  | [], _ => .nil
  | x :: l, e => by
    rw [List.all_cons, Bool.and_eq_true] at e
    exact .cons (scal1_fz e.1) (scals_fz e.2)
end
theorem avc_agg {l : List AV} : AV.cells (.agg l) = some l := rfl
theorem avc_int {k : IntKind} {n : Int} : AV.cells (.int k n) = some [.int k n] := rfl
theorem avc_bool {b : Bool} : AV.cells (.bool b) = some [.bool b] := rfl
theorem avc_str {t : List Nat} : AV.cells (.str t) = some [.str t] := rfl
theorem avc_nils  : AV.cells .nils = some [.nils] := rfl
theorem avc_nilp  : AV.cells .nilp = some [.nilp] := rfl
theorem avc_nilm  : AV.cells .nilm = some [.nilm] := rfl
theorem avc_nilf  : AV.cells .nilf = some [.nilf] := rfl
theorem avc_sl {a b c d e : Nat} : AV.cells (.sl a b c d e) = some [.sl a b c d e] := rfl
theorem avc_ptr {a b : Nat} : AV.cells (.ptr a b) = some [.ptr a b] := rfl
theorem avc_rs {l : List AV} {a : Nat} : AV.cells (.rs l a) = some [.rs l a] := rfl
theorem avc_rp {l : List AV} : AV.cells (.rp l) = some [.rp l] := rfl
theorem avc_map {a : Nat} : AV.cells (.map a) = some [.map a] := rfl
theorem avc_fn {a : Nat} {l : List AV} : AV.cells (.fn a l) = some [.fn a l] := rfl
def R10 := And.intro @avc_agg (And.intro @avc_int (And.intro @avc_bool (And.intro @avc_str (And.intro @avc_nils (And.intro @avc_nilp (And.intro @avc_nilm (And.intro @avc_nilf (And.intro @avc_sl (And.intro @avc_ptr (And.intro @avc_rs (And.intro @avc_rp (And.intro @avc_map @avc_fn))))))))))))
/-- all of them, and what lists and truths want besides -/
def RX := And.intro R0 (And.intro R1 (And.intro R2 (And.intro R3 (And.intro R4 (And.intro R5 (And.intro R6 (And.intro R7 (And.intro R8 (And.intro R9 (And.intro R10 (And.intro @List.contains_nil.{0} (And.intro @List.contains_cons.{0} (And.intro @beq_iff_eq.{0} (And.intro @List.getElem?_cons_zero.{0} (And.intro @List.getElem?_cons_succ.{0} (And.intro @Option.map_none.{0, 0} and_self))))))))))))))))
end Go.Proofs.YtpfpngmfooagiaaGreat.VM
namespace Go.Proofs.YtpfpngmfooagiaaGreat.VM
open Go.RowKit
/-- The shape of a cell; of a slice: an element's bytes, its cells. -/
inductive Sh where
  | int (k : IntKind)
  | bool
  | str
  | sl (bytes : Nat) (l : List Sh)
section
variable (P : Program)
def shFs (rec : TypeId → Option (List Sh)) : List Field → Nat → Option (List Sh)
  | [], _ => some []
  | f :: fs, n => if f.offset = n then (match rec f.type with
    | some l => if P.cellsOf f.type = l.length then (shFs rec fs (n + l.length)).map (l ++ ·) else none
    | none => none) else none
def shOf : Nat → TypeId → Option (List Sh)
  | 0, _ => none
  | d + 1, t => match P.underlying t with
    | some (.int k) => some [.int k]
    | some .bool => some [.bool]
    | some .string => some [.str]
    | some (.slice e) => match shOf d e with
      | some l => if l.length = P.cellsOf e ∧ 0 < l.length then some [.sl (P.bytesOf e) l] else none
      | none => none
    | some (.struct fs) => match shFs P (shOf d) fs.toList 0 with
      | some l => if l.length = P.cellsOf t then some l else none
      | none => none
    | _ => none
end
mutual
/-- cells of a shape -/
inductive W : Sh → AV → Prop
  | int (k : IntKind) (n : Int) (h : (Lit.int k n).wf = true) : W (.int k) (.int k n)
  | bool (b : Bool) : W .bool (.bool b)
  | str (s : ByteArray) (h : s.size ≤ reachBytes) : W .str (.str (s.data.toList.map fun c => c.toNat))
  | nils (b : Nat) (l : List Sh) : W (.sl b l) .nils
  | rs {b len : Nat} {l : List Sh} {c : List AV} (h : Wn l len c) (hb : len * b ≤ reachBytes) : W (.sl b l) (.rs c len)
inductive Ws : List Sh → List AV → Prop
  | nil : Ws [] []
  | cons {s : Sh} {x : AV} {l : List Sh} {k : List AV} (h : W s x) (t : Ws l k) : Ws (s :: l) (x :: k)
inductive Wn : List Sh → Nat → List AV → Prop
  | nil (l : List Sh) : Wn l 0 []
  | cons {l : List Sh} {c k : List AV} {n : Nat} (h : Ws l c) (t : Wn l n k) : Wn l (n + 1) (c ++ k)
end
theorem Ws.append : ∀ {l l' : List Sh} {k k' : List AV}, Ws l k → Ws l' k' → Ws (l ++ l') (k ++ k')
  | _, _, _, _, .nil, h => h
  | _, _, _, _, .cons h t, h' => .cons h (t.append h')
theorem Ws.length : ∀ {l : List Sh} {k : List AV}, Ws l k → l.length = k.length
  | _, _, .nil => rfl
  | _, _, .cons _ t => by simp [t.length]
theorem VRm.append {φ : Env} {w : World} {B : Nat} : ∀ {l k : List AV} {off : Nat}, VRm φ w l B off → VRm φ w k B (off + l.length) → VRm φ w (l ++ k) B off
  | _, _, _, .nil, h => h
  | _, k, off, .cons (l := l) hc h t, h' => .cons hc h (t.append (by rw [List.length_cons] at h'; rwa [show off + (l.length + 1) = off + 1 + l.length by omega] at h'))
theorem VRs.mem {φ : Env} {w : World} {B : Nat} : ∀ {l : List AV} {vs : List Value} {off : Nat}, VRs φ w l vs → (∀ j u, vs[j]? = some u → w.cell? ⟨B, off + j, none⟩ = some u) → VRm φ w l B off
  | _, _, _, .nil, _ => .nil
  | _, _, off, .cons (u := u) h t, hc => .cons (by simpa using hc 0 u rfl) h (t.mem fun j v hj => by rw [show off + 1 + j = off + (j + 1) by omega]; exact hc (j + 1) v hj)
theorem mapM_get {α β : Type} {f : α → Option β} : ∀ {l : List α} {r : List β}, l.mapM f = some r → r.length = l.length ∧ ∀ (j : Nat) (x : α) (y : β), l[j]? = some x → r[j]? = some y → f x = some y
  | [], r, h => by
    simp at h; subst h
    exact ⟨rfl, fun j x y h => by simp at h⟩
  | a :: l, r, h => by
    simp only [List.mapM_cons, Option.bind_eq_bind, Option.bind_eq_some_iff, Option.pure_def, Option.some.injEq] at h
    obtain ⟨b, h1, r', h2, rfl⟩ := h
    obtain ⟨e1, e2⟩ := mapM_get h2
    refine ⟨by simp [e1], fun j x y hx hy => ?_⟩
    cases j with
    | zero => simp at hx hy; subst hx hy; exact h1
    | succ j => exact e2 j x y (by simpa using hx) (by simpa using hy)
section
variable {H : Type} {enc : TypeId × Value → H} {P : Program} {w : World} {base : Nat} {spare : Nat → Bool} {held : Bool}
def OpenAt (enc : TypeId × Value → H) (P : Program) (w : World) (base : Nat) (spare : Nat → Bool) (held : Bool) (fuel : Nat) : Prop :=
  ∀ (n : Nat) (t : TypeId) (cs : List Value) (x : DataW H × List MemPlace) (shs : List Sh), shOf P n t = some shs → DataW.trod enc P w base spare held fuel t cs = some x → (x.1.weights P t).all (· ≤ reachBytes) = true → ∃ avs, VRs none0 w avs cs ∧ Ws shs avs
theorem open_fs {fuel d : Nat} (ih : OpenAt enc P w base spare held fuel) {cs : List Value} : ∀ (fs : List Field) (n : Nat) (xs : List (DataW H × List MemPlace)) (shs : List Sh), shFs P (shOf P d) fs n = some shs → xs.length = fs.length →
    (∀ (i : Nat) (f : Field), fs[i]? = some f → DataW.trod enc P w base spare held fuel f.type ((cs.drop f.offset).take (P.cellsOf f.type)) = xs[i]?) → (DataW.weightsEach P (fs.map (·.type)) (xs.map (·.1))).all (· ≤ reachBytes) = true →
    ∃ avs, VRs none0 w avs ((cs.drop n).take shs.length) ∧ Ws shs avs
  | [], n, xs, shs, h, _, _, _ => by cases h; exact ⟨[], by simpa using VRs.nil, .nil⟩
  | f :: fs, n, [], shs, h, hl, _, _ => by simp at hl
  | f :: fs, n, x :: xs, shs, h, hl, ht, hw => by
    unfold shFs at h
    split at h
    · rename_i ho
      split at h
      · rename_i l hr
        split at h
        · rename_i hc
          obtain ⟨k, hk, rfl⟩ := Option.map_eq_some_iff.1 h
          simp only [List.map_cons, DataW.weightsEach, List.all_append, Bool.and_eq_true] at hw
          obtain ⟨a1, v1, w1⟩ := ih d f.type _ x l hr (ht 0 f rfl) hw.1
          obtain ⟨a2, v2, w2⟩ := open_fs ih fs (n + l.length) xs k hk (by simpa using hl) (fun i g hg => by simpa using ht (i + 1) g (by simpa using hg)) hw.2
          refine ⟨a1 ++ a2, ?_, w1.append w2⟩
          rw [List.length_append, List.take_add, List.drop_drop]
          rw [ho, hc] at v1
          exact v1.append v2
        · cases h
      · cases h
    · cases h
theorem open_all : ∀ fuel : Nat, OpenAt enc P w base spare held fuel
  | 0 => by intro n t cs x shs _ h _; simp [DataW.trod] at h
  | fuel + 1 => by
    intro n t cs x shs hs h hw
    have ih := open_all fuel
    cases n with
    | zero => cases hs
    | succ d =>
      unfold shOf at hs
      split at hs
      · rename_i k hu
        cases hs
        obtain ⟨n, rfl, rfl, hwf⟩ := DataW.trod_int hu h
        exact ⟨[.int k n], .cons (.int k n) .nil, .cons (.int k n hwf) .nil⟩
      · rename_i hu
        cases hs
        unfold DataW.trod at h
        rw [hu] at h
        split at h <;> simp_all
        rename_i b
        exact ⟨[.bool b], .cons (.bool b) .nil, .cons (.bool b) .nil⟩
      · rename_i hu
        cases hs
        obtain ⟨s, rfl, rfl, hs⟩ := DataW.trod_string hu h
        simp only [DataW.weights, List.all_cons, List.all_nil, Bool.and_true, decide_eq_true_eq] at hw
        exact ⟨[.str (s.data.toList.map fun c => c.toNat)], .cons (.str s) .nil, .cons (.str s (by simpa using hw)) .nil⟩
      · rename_i e hu
        split at hs
        · rename_i l hl
          split at hs
          · rename_i hc
            cases hs
            rcases DataW.trod_slice hu h with ⟨rfl, rfl⟩ | ⟨a, len, cap, elems, rest, m, hm, rfl, rfl, hb, hlc, _, hlen, hel, _, _⟩
            · exact ⟨[.nils], .cons .nils .nil, .cons (.nils _ _) .nil⟩
            · cases hm
              simp only [DataW.weights, hu, List.all_cons, List.all_append, Bool.and_eq_true, decide_eq_true_eq, List.length_map] at hw
              obtain ⟨hw1, hw2, _⟩ := hw
              have hbytes : len * P.bytesOf e ≤ reachBytes := Nat.le_trans (Nat.mul_le_mul_right _ (by omega)) hw1
              cases len with
              | zero => exact ⟨[.rs [] 0], .cons (.rs0 a cap) .nil, .cons (.rs (.nil _) hbytes) .nil⟩
              | succ len' =>
                generalize hL : len' + 1 = len at *
                have hwe : ∀ (i : Nat) (y : DataW H × List MemPlace), elems[i]? = some y → (y.1.weights P e).all (· ≤ reachBytes) = true := by
                  clear hel hlen h hw1 hbytes
                  induction elems with
                  | nil => intro i y hy; simp at hy
                  | cons z zs ihz =>
                    simp only [List.map_cons, DataW.weightsAll, List.all_append, Bool.and_eq_true] at hw2
                    intro i y hy
                    cases i with
                    | zero => simp at hy; subst hy; exact hw2.1
                    | succ i => exact ihz hw2.2 i y (by simpa using hy)
                have each : ∀ i, i < len → ∃ ecs avs, w.cells? base (a.add (i * P.cellsOf e)) (P.cellsOf e) = some ecs ∧ VRs none0 w avs ecs ∧ Ws l avs := by
                  intro i hi
                  have h1 := hel i hi
                  have h2 : elems[i]? = some elems[i] := List.getElem?_eq_getElem (by omega)
                  rw [h2] at h1
                  obtain ⟨ecs, h3, h4⟩ := Option.bind_eq_some_iff.1 h1
                  obtain ⟨avs, h5, h6⟩ := ih d e ecs _ l hl h4 (hwe i _ h2)
                  exact ⟨ecs, avs, h3, h5, h6⟩
                have cellsAt : ∀ {c : Addr} {k : Nat} {ecs : List Value}, w.cells? base c k = some ecs → ecs.length = k ∧ ∀ j u, ecs[j]? = some u → w.cell? (c.add j) = some u := by
                  intro c k ecs hk
                  unfold World.cells? at hk
                  split at hk
                  · obtain ⟨e1, e2⟩ := mapM_get hk
                    rw [List.length_range] at e1
                    refine ⟨e1, fun j u hj => e2 j j u ?_ hj⟩
                    have hjl : j < ecs.length := by
                      rcases Nat.lt_or_ge j ecs.length with h | h
                      · exact h
                      · rw [List.getElem?_eq_none h] at hj; cases hj
                    rw [List.getElem?_range (by omega)]
                  · cases hk
                obtain ⟨B, off, spot⟩ := a
                have hspot : spot = none ∧ B < w.heap.size := by
                  obtain ⟨ecs, avs, h1, h2, h3⟩ := each 0 (by omega)
                  obtain ⟨q1, q2⟩ := cellsAt h1
                  have h0 : 0 < ecs.length := by omega
                  have := q2 0 ecs[0] (List.getElem?_eq_getElem h0)
                  have ha : ((⟨B, off, spot⟩ : Addr).add (0 * P.cellsOf e)).add 0 = ⟨B, off, spot⟩ := by simp [Addr.add]
                  rw [ha] at this
                  unfold World.cell? at this
                  split at this
                  · rename_i c _ _ hh
                    split at this
                    · cases this
                    · rename_i hn
                      refine ⟨by simpa using hn, ?_⟩
                      rcases Nat.lt_or_ge B w.heap.size with h | h
                      · exact h
                      · rw [Array.getElem?_eq_none h] at hh; cases hh
                  · cases this
                obtain ⟨rfl, hB⟩ := hspot
                have all : ∀ k i, i + k = len → ∃ c, Wn l k c ∧ VRm none0 w c B (off + i * P.cellsOf e) := by
                  intro k
                  induction k with
                  | zero => intro i _; exact ⟨[], .nil _, .nil⟩
                  | succ k ihk =>
                    intro i hi
                    obtain ⟨c, c1, c2⟩ := ihk (i + 1) (by omega)
                    obtain ⟨ecs, avs, h1, h2, h3⟩ := each i (by omega)
                    obtain ⟨q1, q2⟩ := cellsAt h1
                    have hal : avs.length = P.cellsOf e := by rw [← h3.length]; exact hc.1
                    refine ⟨avs ++ c, .cons h3 c1, VRm.append (h2.mem fun j u hj => ?_) ?_⟩
                    · have := q2 j u hj
                      rw [add_none, add_none] at this
                      exact this
                    · rw [hal]
                      rw [Nat.add_mul, Nat.one_mul, ← Nat.add_assoc] at c2
                      exact c2
                obtain ⟨c, c1, c2⟩ := all len 0 (by omega)
                rw [Nat.zero_mul, Nat.add_zero] at c2
                exact ⟨[.rs c len], .cons (.rs hlc (fun b p hb => by cases hb) hB c2) .nil, .cons (.rs c1 hbytes) .nil⟩
          · cases hs
        · cases hs
      · rename_i fs hu
        split at hs
        · rename_i l hl
          split at hs
          · rename_i hc
            cases hs
            obtain ⟨xs, m, hm, rfl, hcl, hxl, hx⟩ := DataW.trod_struct hu h
            cases hm
            simp only [DataW.weights, hu] at hw
            obtain ⟨avs, v1, v2⟩ := open_fs ih fs.toList 0 xs _ hl (by simpa using hxl) (fun i f hf => hx i f (by simpa using hf)) hw
            refine ⟨avs, ?_, v2⟩
            rw [List.drop_zero, List.take_of_length_le (by omega)] at v1
            exact v1
          · cases hs
        · cases hs
      · cases hs
/-- an argument, opened -/
theorem open_arg {t : TypeId} {v : Value} {d : DataW H} {ps : List MemPlace} {n : Nat} {shs : List Sh} (hs : shOf P n t = some shs) (h : DataW.Trod enc P w base spare held t v d ps) (hw : (d.weights P t).all (· ≤ reachBytes) = true) :
    ∃ avs, VRs none0 w avs v.cells.toList ∧ Ws shs avs :=
  let ⟨fuel, hf⟩ := h
  open_all fuel n t _ _ shs hs hf hw
end
def I64 (n : Int) : Prop := -9223372036854775808 ≤ n ∧ n ≤ 9223372036854775807
theorem i64_wf {n : Int} (h : (Lit.int .i64 n).wf = true) : I64 n := by
  simp only [Lit.wf, Bool.and_eq_true, decide_eq_true_eq] at h
  exact ⟨h.1, h.2⟩
section
variable {α : Type}
/-- cells of things, one behind the other -/
inductive Cat (R : α → List AV → Prop) : List α → List AV → Prop
  | nil : Cat R [] []
  | cons {a : α} {l : List α} {c k : List AV} (h : R a c) (t : Cat R l k) : Cat R (a :: l) (c ++ k)
/-- a slice of things, each of so many bytes -/
def IsL (b : Nat) (R : α → List AV → Prop) (v : AV) (l : List α) : Prop := l.length * b ≤ reachBytes ∧ ((v = .nils ∧ l = []) ∨ ∃ c, v = .rs c l.length ∧ Cat R l c)
variable {R : α → List AV → Prop} {z b : Nat}
theorem Cat.length (hz : ∀ a c, R a c → c.length = z) : ∀ {l : List α} {c : List AV}, Cat R l c → c.length = l.length * z
  | _, _, .nil => by simp
  | _, _, .cons h t => by rw [List.length_append, hz _ _ h, t.length hz, List.length_cons, Nat.add_mul, Nat.one_mul, Nat.add_comm]
theorem Cat.append : ∀ {l l' : List α} {c c' : List AV}, Cat R l c → Cat R l' c' → Cat R (l ++ l') (c ++ c')
  | _, _, _, _, .nil, h => h
  | _, _, _, _, .cons (c := c) (k := k) h t, h' => by rw [List.append_assoc]; exact .cons h (t.append h')
theorem Cat.at (hz : ∀ a c, R a c → c.length = z) : ∀ {l : List α} {c : List AV}, Cat R l c → ∀ (i : Nat) (hi : i < l.length), ∃ ci r, c.drop (i * z) = ci ++ r ∧ R l[i] ci
  | _, _, .nil, i, hi => by simp at hi
  | _, _, .cons (c := c) (k := k) h t, 0, _ => ⟨c, k, by simp, h⟩
  | _, _, .cons (c := c) (k := k) h t, i + 1, hi => by
    obtain ⟨ci, r, e, hr⟩ := t.at hz i (by simpa using hi)
    refine ⟨ci, r, ?_, hr⟩
    rw [Nat.add_mul, Nat.one_mul, Nat.add_comm, ← List.drop_drop, ← hz _ _ h, List.drop_left]
    rw [hz _ _ h]; exact e
theorem Cat.told (ht : ∀ a c, R a c → AV.tolds c = true) : ∀ {l : List α} {c : List AV}, Cat R l c → AV.tolds c = true
  | _, _, .nil => rfl
  | _, _, .cons h t => by rw [tolds_append, ht _ _ h, t.told ht]; rfl
where tolds_append : ∀ {l k : List AV}, AV.tolds (l ++ k) = (AV.tolds l && AV.tolds k)
  | [], _ => by simp [AV.tolds]
  | x :: l, k => by rw [List.cons_append, AV.tolds, AV.tolds, tolds_append, Bool.and_assoc]
theorem IsL.told (ht : ∀ a c, R a c → AV.tolds c = true) {v : AV} {l : List α} (h : IsL b R v l) : v.told = true := by
  rcases h.2 with ⟨rfl, _⟩ | ⟨c, rfl, hc⟩
  · rfl
  · exact hc.told ht
theorem IsL.len {v : AV} {l : List α} (h : IsL b R v l) (hh : Heap) : lnV hh v = .val (.int .i64 l.length) hh := by
  rcases h.2 with ⟨rfl, rfl⟩ | ⟨c, rfl, _⟩ <;> rfl
theorem IsL.bound {v : AV} {l : List α} (h : IsL b R v l) (hb : 0 < b) : (l.length : Int) ≤ 140737488351232 := by
  have := h.1
  have h2 : l.length ≤ l.length * b := Nat.le_mul_of_pos_right _ hb
  have : l.length ≤ reachBytes := Nat.le_trans h2 this
  have e : reachBytes = 140737488351232 := rfl
  rw [e] at this
  omega
theorem IsL.at {v : AV} {l : List α} (h : IsL b R v l) (hz : ∀ a c, R a c → c.length = z) (i : Nat) (hi : i < l.length) :
    ∃ ci r, R l[i] ci ∧ ∀ (hh : Heap) (kk : IntKind), iaV hh z none v (.int kk (i : Int)) = .val (.rp (ci ++ r)) hh := by
  rcases h.2 with ⟨rfl, rfl⟩ | ⟨c, rfl, hc⟩
  · simp at hi
  · obtain ⟨ci, r, e, hr⟩ := hc.at hz i hi
    refine ⟨ci, r, hr, fun hh kk => ?_⟩
    rw [iaV_rs, if_pos ⟨by omega, by omega⟩]
    rw [Int.toNat_natCast, e]
theorem tolds_drop : ∀ {l : List AV} (i : Nat), AV.tolds l = true → AV.tolds (l.drop i) = true
  | _, 0, h => h
  | [], _ + 1, _ => rfl
  | _ :: l, i + 1, h => by
    simp only [AV.tolds, Bool.and_eq_true] at h
    exact tolds_drop i h.2
theorem IsL.get {v : AV} {l : List α} (h : IsL b R v l) (hz : ∀ a c, R a c → c.length = z) (ht : ∀ a c, R a c → AV.tolds c = true) (i : Nat) (hi : i < l.length) :
    ∃ ci r, R l[i] ci ∧ AV.tolds (ci ++ r) = true ∧ ∀ (hh : Heap) (kk : IntKind), iaV hh z none v (.int kk (i : Int)) = .val (.rp (ci ++ r)) hh := by
  rcases h.2 with ⟨rfl, rfl⟩ | ⟨c, rfl, hc⟩
  · simp at hi
  · obtain ⟨ci, r, e, hr⟩ := hc.at hz i hi
    refine ⟨ci, r, hr, by rw [← e]; exact tolds_drop _ (hc.told ht), fun hh kk => ?_⟩
    rw [iaV_rs, if_pos ⟨by omega, by omega⟩]
    rw [Int.toNat_natCast, e]
theorem isL_nil (b : Nat) (R : α → List AV → Prop) : IsL b R .nils [] := ⟨by simp, .inl ⟨rfl, rfl⟩⟩
theorem isL_rs {b : Nat} {R : α → List AV → Prop} {l : List α} {c : List AV} (h : Cat R l c) (hb : l.length * b ≤ reachBytes) : IsL b R (.rs c l.length) l := ⟨hb, .inr ⟨c, rfl, h⟩⟩
/-- out of what a law is handed -/
theorem Wn.cat {ss : List Sh} (hR : ∀ c, Ws ss c → ∃ a, R a c) : ∀ {n : Nat} {c : List AV}, Wn ss n c → ∃ l : List α, l.length = n ∧ Cat R l c
  | _, _, .nil _ => ⟨[], rfl, .nil⟩
  | _, _, .cons h t => by
    obtain ⟨a, ha⟩ := hR _ h
    obtain ⟨l, e, hl⟩ := Wn.cat hR t
    exact ⟨a :: l, by simp [e], .cons ha hl⟩
theorem W.isL {ss : List Sh} (hR : ∀ c, Ws ss c → ∃ a, R a c) {v : AV} (h : W (.sl b ss) v) : ∃ l, IsL b R v l := by
  cases h with
  | nils => exact ⟨[], isL_nil _ _⟩
  | rs h hb =>
    obtain ⟨l, e, hl⟩ := h.cat hR
    exact ⟨l, by rw [e]; exact hb, .inr ⟨_, by rw [e], hl⟩⟩
end
structure Pt where
  x : Int
  y : Int
structure Feat where
  id : Int
  shape : Int
  rings : List (List Pt)
structure Mp where
  epoch : Int
  starts : List Int
  owners : List Int
structure Op where
  kind : Int
  f : Feat
  id : Int
  m : Mp
instance : DecidableEq Pt := fun a b => if h : a.x = b.x ∧ a.y = b.y then isTrue (by cases a; cases b; simp_all) else isFalse (by rintro rfl; simp at h)
def RInt (n : Int) (c : List AV) : Prop := c = [.int .i64 n] ∧ I64 n
def RPt (p : Pt) (c : List AV) : Prop := c = [.int .i64 p.x, .int .i64 p.y] ∧ I64 p.x ∧ I64 p.y
def RRing (r : List Pt) (c : List AV) : Prop := ∃ v, c = [v] ∧ IsL 16 RPt v r
def RFeat (f : Feat) (c : List AV) : Prop := ∃ v, c = [.int .i64 f.id, .int .i64 f.shape, v] ∧ I64 f.id ∧ I64 f.shape ∧ IsL 24 RRing v f.rings
theorem zInt (a : Int) (c : List AV) (h : RInt a c) : c.length = 1 := by rw [h.1]; rfl
theorem zPt (a : Pt) (c : List AV) (h : RPt a c) : c.length = 2 := by rw [h.1]; rfl
theorem zRing (a : List Pt) (c : List AV) (h : RRing a c) : c.length = 1 := by obtain ⟨v, rfl, _⟩ := h; rfl
theorem tInt (a : Int) (c : List AV) (h : RInt a c) : AV.tolds c = true := by rw [h.1]; rfl
theorem tPt (a : Pt) (c : List AV) (h : RPt a c) : AV.tolds c = true := by rw [h.1]; rfl
theorem tRing (a : List Pt) (c : List AV) (h : RRing a c) : AV.tolds c = true := by
  obtain ⟨v, rfl, h⟩ := h
  simp [AV.tolds, h.told tPt]
theorem tFeat (a : Feat) (c : List AV) (h : RFeat a c) : AV.tolds c = true := by
  obtain ⟨v, rfl, _, _, h⟩ := h
  simp [AV.tolds, AV.told, h.told tRing]
theorem wPt (c : List AV) (h : Ws [.int .i64, .int .i64] c) : ∃ a, RPt a c := by
  cases h with | cons h t => cases t with | cons h' t => cases t; cases h with | int k n hw => cases h' with | int k m hw' => exact ⟨⟨n, m⟩, rfl, i64_wf hw, i64_wf hw'⟩
abbrev shRing : Sh := .sl 16 [.int .i64, .int .i64]
theorem wRing (c : List AV) (h : Ws [shRing] c) : ∃ a, RRing a c := by
  cases h with | cons h t => cases t; obtain ⟨l, hl⟩ := h.isL wPt; exact ⟨l, _, rfl, hl⟩
abbrev shFeat : List Sh := [.int .i64, .int .i64, .sl 24 [shRing]]
theorem wFeat (c : List AV) (h : Ws shFeat c) : ∃ a, RFeat a c := by
  cases h with | cons h1 t => cases t with | cons h2 t => cases t with | cons h3 t =>
    cases t; cases h1 with | int k n hw => cases h2 with | int k m hw' =>
      obtain ⟨l, hl⟩ := h3.isL wRing
      exact ⟨⟨n, m, l⟩, _, rfl, i64_wf hw, i64_wf hw', hl⟩
theorem getP {l : List Pt} {i : Nat} (hi : i < l.length) : l.getD i ⟨0, 0⟩ = l[i] := by simp [List.getD_eq_getElem?_getD, List.getElem?_eq_getElem hi]
end Go.Proofs.YtpfpngmfooagiaaGreat.VM
namespace Go.Proofs.YtpfpngmfooagiaaGreat.VM
open Go.RowKit
/-- nothing of what was there is changed -/
def Ext (h h' : Heap) : Prop := h.next ≤ h'.next ∧ ∀ b, b < h.next → h'.get b = h.get b
theorem Ext.refl (h : Heap) : Ext h h := ⟨Nat.le_refl _, fun _ _ => rfl⟩
theorem Ext.trans {a b c : Heap} (x : Ext a b) (y : Ext b c) : Ext a c := ⟨Nat.le_trans x.1 y.1, fun n hn => (y.2 n (Nat.lt_of_lt_of_le hn x.1)).trans (x.2 n hn)⟩
theorem Ext.mk {h : Heap} (x : Blk) : Ext h (h.mk' h.next x) := ⟨by rw [mk_next]; omega, fun b hb => by rw [Heap.get_mk, if_neg (by omega)]⟩
mutual
/-- A live value, told; the blocks that it reaches, in their row. -/
inductive Fd (h : Heap) : AV → AV → List Nat → Prop
  | told {x : AV} (hx : x.told = true) : Fd h x x []
  | sl {b off len cap sz : Nat} {l cs cs' : List AV} {e : TypeId} {ver : Nat} {D : List Nat} (hl : 0 < len) (hn : b < h.next) (hg : h.get b = some (.cells l e ver)) (hc : cut l off (len * sz) = some cs) (t : Fds h cs cs' D) : Fd h (.sl b off len cap sz) (.rs cs' len) (b :: D)
  | sl0 {b off cap sz : Nat} : Fd h (.sl b off 0 cap sz) (.rs [] 0) []
  | ptr {b off : Nat} {l cs' : List AV} {e : TypeId} {ver : Nat} {D : List Nat} (hn : b < h.next) (hg : h.get b = some (.cells l e ver)) (t : Fds h (l.drop off) cs' D) : Fd h (.ptr b off) (.rp cs') (b :: D)
  | agg {l l' : List AV} {D : List Nat} (t : Fds h l l' D) : Fd h (.agg l) (.agg l') D
  | tup {l l' : List AV} {D : List Nat} (t : Fds h l l' D) : Fd h (.tup l) (.tup l') D
inductive Fds (h : Heap) : List AV → List AV → List Nat → Prop
  | nil : Fds h [] [] []
  | cons {x y : AV} {l k : List AV} {D E : List Nat} (f : Fd h x y D) (t : Fds h l k E) : Fds h (x :: l) (y :: k) (D ++ E)
end
section
variable {h h' : Heap}
theorem Fds.tolds : ∀ {l : List AV}, AV.tolds l = true → Fds h l l []
  | [], _ => .nil
  | x :: l, e => by
    simp only [AV.tolds, Bool.and_eq_true] at e
    exact .cons (D := []) (.told e.1) (Fds.tolds e.2)
theorem Fds.app : ∀ {l l' k k' : List AV} {D E : List Nat}, Fds h l k D → Fds h l' k' E → Fds h (l ++ l') (k ++ k') (D ++ E)
  | _, _, _, _, _, _, .nil, t => t
  | _, _, _, _, _, _, .cons f t, t' => by rw [List.append_assoc]; exact .cons f (t.app t')
theorem Fds.length : ∀ {l k : List AV} {D : List Nat}, Fds h l k D → k.length = l.length
  | _, _, _, .nil => rfl
  | _, _, _, .cons _ t => by simp [t.length]
theorem Fds.cast {l k : List AV} {D E : List Nat} (t : Fds h l k D) (e : D = E) : Fds h l k E := e ▸ t
theorem Fd.cast {l k : AV} {D E : List Nat} (t : Fd h l k D) (e : D = E) : Fd h l k E := e ▸ t
mutual
theorem Fd.fz : ∀ {x y : AV} {D : List Nat}, Fd h x y D → Fz true h x y
  | _, _, _, .told hx => Fz.refl hx
  | _, _, _, .sl hl _ hg hc t => .sl hl hg hc t.fzs
  | _, _, _, .sl0 => .sl0
  | _, _, _, .ptr _ hg t => .ptr hg t.fzs
  | _, _, _, .agg t => .agg t.fzs
  | _, _, _, .tup t => .tup t.fzs
theorem Fds.fzs : ∀ {x y : List AV} {D : List Nat}, Fds h x y D → Fzs true h x y
  | _, _, _, .nil => .nil
  | _, _, _, .cons f t => .cons f.fz t.fzs
end
mutual
theorem Fd.frame (hn : h.next ≤ h'.next) : ∀ {x y : AV} {D : List Nat}, Fd h x y D → (∀ b ∈ D, h'.get b = h.get b) → Fd h' x y D
  | _, _, _, .told hx, _ => .told hx
  | _, _, _, .sl hl hb hg hc t, k => .sl hl (Nat.lt_of_lt_of_le hb hn) ((k _ List.mem_cons_self).trans hg) hc (t.frame hn fun b hb => k b (List.mem_cons_of_mem _ hb))
  | _, _, _, .sl0, _ => .sl0
  | _, _, _, .ptr hb hg t, k => .ptr (Nat.lt_of_lt_of_le hb hn) ((k _ List.mem_cons_self).trans hg) (t.frame hn fun b hb => k b (List.mem_cons_of_mem _ hb))
  | _, _, _, .agg t, k => .agg (t.frame hn k)
  | _, _, _, .tup t, k => .tup (t.frame hn k)
theorem Fds.frame (hn : h.next ≤ h'.next) : ∀ {x y : List AV} {D : List Nat}, Fds h x y D → (∀ b ∈ D, h'.get b = h.get b) → Fds h' x y D
  | _, _, _, .nil, _ => .nil
  | _, _, _, .cons f t, k => .cons (f.frame hn fun b hb => k b (List.mem_append_left _ hb)) (t.frame hn fun b hb => k b (List.mem_append_right _ hb))
end
mutual
theorem Fd.lt : ∀ {x y : AV} {D : List Nat}, Fd h x y D → ∀ b ∈ D, b < h.next
  | _, _, _, .told hx => fun b hb => by simp at hb
  | _, _, _, .sl hl hb hg hc t => fun b h => by rcases List.mem_cons.1 h with rfl | h; exact hb; exact t.lt b h
  | _, _, _, .sl0 => fun b hb => by simp at hb
  | _, _, _, .ptr hb hg t => fun b h => by rcases List.mem_cons.1 h with rfl | h; exact hb; exact t.lt b h
  | _, _, _, .agg t => t.lt
  | _, _, _, .tup t => t.lt
theorem Fds.lt : ∀ {x y : List AV} {D : List Nat}, Fds h x y D → ∀ b ∈ D, b < h.next
  | _, _, _, .nil => fun b hb => by simp at hb
  | _, _, _, .cons f t => fun b h => by rcases List.mem_append.1 h with h | h; exact f.lt b h; exact t.lt b h
end
theorem Fd.ext {x y : AV} {D : List Nat} (f : Fd h x y D) (e : Ext h h') : Fd h' x y D := f.frame e.1 fun b hb => e.2 b (f.lt b hb)
theorem Fds.ext {x y : List AV} {D : List Nat} (f : Fds h x y D) (e : Ext h h') : Fds h' x y D := f.frame e.1 fun b hb => e.2 b (f.lt b hb)
end
mutual
/-- numbers, truths, texts, slices and structs of them: nothing told, no functions, no maps -/
def AV.bare : AV → Bool
  | .undef | .bool _ | .int .. | .str _ | .nilp | .nils | .nilm | .nilf | .ptr .. | .sl .. => true
  | .agg l | .tup l => AV.bares l
  | _ => false
def AV.bares : List AV → Bool
  | [] => true
  | x :: l => x.bare && AV.bares l
end
theorem bares_app : ∀ {l k : List AV}, AV.bares (l ++ k) = (AV.bares l && AV.bares k)
  | [], _ => by simp [AV.bares]
  | x :: l, k => by rw [List.cons_append, AV.bares, AV.bares, bares_app, Bool.and_assoc]
/-- all that is reached is bare, block by block -/
def Own (h : Heap) (D : List Nat) : Prop := ∀ b ∈ D, ∃ l e ver, h.get b = some (.cells l e ver) ∧ AV.bares l = true
mutual
def sh (n : Nat) : AV → AV
  | .ptr b off => .ptr (n + b) off
  | .sl b off len cap sz => .sl (n + b) off len cap sz
  | .agg l => .agg (shs n l)
  | .tup l => .tup (shs n l)
  | x => x
def shs (n : Nat) : List AV → List AV
  | [] => []
  | x :: l => sh n x :: shs n l
end
/-- memory with new blocks behind it -/
def lay (h : Heap) (h0 : Heap) (D : List Nat) : Nat → T Blk
  | 0 => h.t
  | m + 1 => (lay h h0 D m).set (h.next + m) (if m ∈ D then (match h0.get m with
    | some (.cells l e ver) => .cells (shs h.next l) e ver
    | _ => .dead) else .dead)
def blkOf : AV → List Nat
  | .sl b .. => [b]
  | _ => []
/-- a slice over the whole of its block, or none -/
def Row (h : Heap) (v : AV) (sz : Nat) (cs : List AV) (n : Nat) : Prop :=
  (v = .nils ∧ n = 0 ∧ cs = []) ∨ ∃ b e ver, v = .sl b 0 n n sz ∧ 0 < n ∧ b < h.next ∧ cs.length = n * sz ∧ h.get b = some (.cells cs e ver)
theorem Row.nil (h : Heap) (sz : Nat) : Row h .nils sz [] 0 := .inl ⟨rfl, rfl, rfl⟩
theorem Row.len {h : Heap} {v : AV} {sz n : Nat} {cs : List AV} (r : Row h v sz cs n) (hh : Heap) : lnV hh v = .val (.int .i64 n) hh := by
  rcases r with ⟨rfl, rfl, rfl⟩ | ⟨b, e, ver, rfl, _⟩ <;> rfl
theorem Row.one {h : Heap} {v : AV} {sz n : Nat} {cs : List AV} (r : Row h v sz cs n) : v.one = true := by
  rcases r with ⟨rfl, rfl, rfl⟩ | ⟨b, e, ver, rfl, _⟩ <;> rfl
theorem Row.bare {h : Heap} {v : AV} {sz n : Nat} {cs : List AV} (r : Row h v sz cs n) : v.bare = true := by
  rcases r with ⟨rfl, rfl, rfl⟩ | ⟨b, e, ver, rfl, _⟩ <;> rfl
theorem Row.lt {h : Heap} {v : AV} {sz n : Nat} {cs : List AV} (r : Row h v sz cs n) : ∀ b ∈ blkOf v, b < h.next := by
  rcases r with ⟨rfl, rfl, rfl⟩ | ⟨b, e, ver, rfl, _, h1, _⟩
  · intro b hb; simp [blkOf] at hb
  · intro c hc; simp [blkOf] at hc; omega
theorem Row.frame {h h' : Heap} {v : AV} {sz n : Nat} {cs : List AV} (r : Row h v sz cs n) (hn : h.next ≤ h'.next) (hg : ∀ b ∈ blkOf v, h'.get b = h.get b) : Row h' v sz cs n := by
  rcases r with ⟨rfl, rfl, rfl⟩ | ⟨b, e, ver, rfl, h0, h1, h2, h3⟩
  · exact .nil _ _
  · exact .inr ⟨b, e, ver, rfl, h0, by omega, h2, (hg b (by simp [blkOf])).trans h3⟩
theorem Row.ext {h h' : Heap} {v : AV} {sz n : Nat} {cs : List AV} (r : Row h v sz cs n) (e : Ext h h') : Row h' v sz cs n := r.frame e.1 fun b hb => e.2 b (r.lt b hb)
theorem Row.length {h : Heap} {v : AV} {sz n : Nat} {cs : List AV} (r : Row h v sz cs n) : cs.length = n * sz := by
  rcases r with ⟨rfl, rfl, rfl⟩ | ⟨b, e, ver, rfl, _, _, h2, _⟩
  · simp
  · exact h2
theorem cells_of {h : Heap} {b n sz : Nat} {c : List AV} {e : TypeId} {ver : Nat} (hg : h.get b = some (.cells c e ver)) (hl : c.length = n * sz) (cap : Nat) : cellsOf h sz n (.sl b 0 n cap sz) = some c := by
  simp only [cellsOf, Nat.le_refl, if_true, hg, cut_eq, List.drop_zero, ← hl, List.take_length]
/-- elements are put behind -/
theorem Row.append {h : Heap} {v x : AV} {sz n m : Nat} {cs c : List AV} (r : Row h v sz cs n) (hx : cellsOf h sz m x = some c) (hlx : lenV x = some m) (hm : 0 < m) (hl : c.length = m * sz) (ho : c.all AV.one = true) {bytes : Nat} (hb : (n + m) * bytes ≤ most2) (e : TypeId) :
    ∃ h', appendV h sz bytes e v x = some (.sl h.next 0 (n + m) (n + m) sz, h') ∧ Row h' (.sl h.next 0 (n + m) (n + m) sz) sz (cs ++ c) (n + m) ∧ h'.next = h.next + 1 ∧ ∀ b, b ∉ blkOf v → b ≠ h.next → h'.get b = h.get b := by
  rcases r with ⟨rfl, rfl, rfl⟩ | ⟨b, e0, ver, rfl, h0, h1, h2, h3⟩
  · refine ⟨h.mk' h.next (.cells c e 0), ?_, .inr ⟨h.next, e, 0, rfl, by omega, by rw [mk_next]; omega, by rw [List.nil_append, hl, Nat.zero_add], by rw [Heap.get_mk, if_pos rfl, List.nil_append]⟩, by rw [mk_next]; omega, fun b _ hb => by rw [Heap.get_mk, if_neg hb]⟩
    simp only [appendV, hlx, hx, hl, ho, and_self, if_true]
    rw [if_neg (by omega), if_pos (by rwa [Nat.zero_add] at hb), Nat.zero_add]
  · refine ⟨(h.put b .dead).mk' h.next (.cells (cs ++ c) e 0), ?_, .inr ⟨h.next, e, 0, rfl, by omega, ?_, ?_, by rw [Heap.get_mk, if_pos rfl]⟩, ?_, fun b' hb' hb => ?_⟩
    · have hbq : Nat.beq sz sz = true := by rw [Nat.beq_eq]
      simp only [appendV, hlx, hx, hl, ho, and_self, if_true, hbq, cond_true, cells_of h3 h2]
      rw [if_neg (by omega), if_pos hb]
    · rw [mk_next, put_next]; omega
    · rw [List.length_append, h2, hl, Nat.add_mul]
    · rw [mk_next, put_next]; omega
    · rw [Heap.get_mk, if_neg hb, Heap.get_put, if_neg (by simpa [blkOf] using hb')]
/-- one element of a literal -/
theorem Row.push {h : Heap} {v : AV} {sz n nb : Nat} {cs c : List AV} (r : Row h v sz cs n) {eb : TypeId} {vb : Nat} (hg : h.get nb = some (.cells c eb vb)) (hl : c.length = sz) (ho : c.all AV.one = true) {bytes : Nat} (hb : (n + 1) * bytes ≤ most2) (e : TypeId) :
    ∃ h', appendV h sz bytes e v (.sl nb 0 1 1 sz) = some (.sl h.next 0 (n + 1) (n + 1) sz, h') ∧ Row h' (.sl h.next 0 (n + 1) (n + 1) sz) sz (cs ++ c) (n + 1) ∧ h'.next = h.next + 1 ∧ ∀ b, b ∉ blkOf v → b ≠ h.next → h'.get b = h.get b :=
  r.append (cells_of hg (by rw [hl, Nat.one_mul]) 1) rfl (by decide) (by rw [hl, Nat.one_mul]) ho hb e
/-- its cells told -/
theorem Row.fd {h : Heap} {v : AV} {sz n : Nat} {cs cs' : List AV} {D : List Nat} (r : Row h v sz cs n) (t : Fds h cs cs' D) : ∃ v', Fd h v v' (blkOf v ++ D) ∧ ((v' = .nils ∧ n = 0) ∨ v' = .rs cs' n) := by
  rcases r with ⟨rfl, rfl, rfl⟩ | ⟨b, e0, ver, rfl, h0, h1, h2, h3⟩
  · cases t
    exact ⟨_, .told rfl, .inl ⟨rfl, rfl⟩⟩
  · refine ⟨_, .sl h0 h1 h3 (cs := cs) ?_ t, .inr rfl⟩
    rw [cut_eq, List.drop_zero, ← h2, List.take_length, if_pos rfl]
/-- an element of a row, by its place -/
theorem Row.at {h : Heap} {v : AV} {sz n : Nat} {cs : List AV} (r : Row h v sz cs n) {i : Nat} (hi : i < n) : ∃ b e ver, v = .sl b 0 n n sz ∧ h.get b = some (.cells cs e ver) ∧ b < h.next ∧ ∀ (hh : Heap) (kk : IntKind), iaV hh sz none v (.int kk (i : Int)) = .val (.ptr b (i * sz)) hh := by
  rcases r with ⟨rfl, rfl, rfl⟩ | ⟨b, e0, ver, rfl, h0, h1, h2, h3⟩
  · omega
  · refine ⟨b, e0, ver, rfl, h3, h1, fun hh kk => ?_⟩
    rw [iaV_sl, if_pos ⟨by omega, by omega, rfl⟩, Int.toNat_natCast, Nat.zero_add]
end Go.Proofs.YtpfpngmfooagiaaGreat.VM
namespace Go.Proofs.YtpfpngmfooagiaaGreat.VM
theorem Own.frame {h h' : Heap} {D : List Nat} (o : Own h D) (k : ∀ b ∈ D, h'.get b = h.get b) : Own h' D := fun b hb => by
  obtain ⟨l, e, ver, h1, h2⟩ := o b hb
  exact ⟨l, e, ver, (k b hb).trans h1, h2⟩
theorem Own.app {h : Heap} {D E : List Nat} (o : Own h D) (p : Own h E) : Own h (D ++ E) := fun b hb => (List.mem_append.1 hb).elim (o b) (p b)
theorem Own.nil {h : Heap} : Own h [] := fun b hb => by simp at hb
/-- cells, told; all that they reach is bare and lies in B -/
def Lvs (h : Heap) (B : Nat → Prop) (l l' : List AV) : Prop := ∃ D, Fds h l l' D ∧ AV.bares l = true ∧ Own h D ∧ ∀ b ∈ D, B b
def Lv (h : Heap) (B : Nat → Prop) (x y : AV) : Prop := ∃ D, Fd h x y D ∧ x.bare = true ∧ Own h D ∧ ∀ b ∈ D, B b
section
variable {h h' : Heap} {B B' : Nat → Prop}
theorem Lv.frame {x y : AV} (l : Lv h B x y) (hn : h.next ≤ h'.next) (k : ∀ b, B b → b < h.next → h'.get b = h.get b) : Lv h' B x y := by
  obtain ⟨D, f, a, o, i⟩ := l
  exact ⟨D, f.frame hn fun b hb => k b (i b hb) (f.lt b hb), a, o.frame fun b hb => k b (i b hb) (f.lt b hb), i⟩
theorem Lvs.frame {x y : List AV} (l : Lvs h B x y) (hn : h.next ≤ h'.next) (k : ∀ b, B b → b < h.next → h'.get b = h.get b) : Lvs h' B x y := by
  obtain ⟨D, f, a, o, i⟩ := l
  exact ⟨D, f.frame hn fun b hb => k b (i b hb) (f.lt b hb), a, o.frame fun b hb => k b (i b hb) (f.lt b hb), i⟩
theorem Lv.weak {x y : AV} (l : Lv h B x y) (k : ∀ b, B b → b < h.next → B' b) : Lv h B' x y := by
  obtain ⟨D, f, a, o, i⟩ := l
  exact ⟨D, f, a, o, fun b hb => k b (i b hb) (f.lt b hb)⟩
theorem Lvs.weak {x y : List AV} (l : Lvs h B x y) (k : ∀ b, B b → b < h.next → B' b) : Lvs h B' x y := by
  obtain ⟨D, f, a, o, i⟩ := l
  exact ⟨D, f, a, o, fun b hb => k b (i b hb) (f.lt b hb)⟩
theorem Lvs.nil : Lvs h B [] [] := ⟨[], .nil, rfl, Own.nil, fun b hb => by simp at hb⟩
theorem Lvs.cons {x y : AV} {l k : List AV} (a : Lv h B x y) (t : Lvs h B l k) : Lvs h B (x :: l) (y :: k) := by
  obtain ⟨D, f, b, o, i⟩ := a
  obtain ⟨E, f', b', o', i'⟩ := t
  exact ⟨D ++ E, .cons f f', by simp [AV.bares, b, b'], o.app o', fun c hc => (List.mem_append.1 hc).elim (i c) (i' c)⟩
theorem Lvs.app {l k l' k' : List AV} (a : Lvs h B l k) (t : Lvs h B l' k') : Lvs h B (l ++ l') (k ++ k') := by
  obtain ⟨D, f, b, o, i⟩ := a
  obtain ⟨E, f', b', o', i'⟩ := t
  exact ⟨D ++ E, f.app f', by rw [bares_app, b, b']; rfl, o.app o', fun c hc => (List.mem_append.1 hc).elim (i c) (i' c)⟩
theorem Lv.told {x : AV} (a : x.told = true) (b : x.bare = true) : Lv h B x x := ⟨[], .told a, b, Own.nil, fun c hc => by simp at hc⟩
theorem Lvs.tolds {x : List AV} (a : AV.tolds x = true) (b : AV.bares x = true) : Lvs h B x x := ⟨[], Fds.tolds a, b, Own.nil, fun c hc => by simp at hc⟩
theorem Lv.int {k : IntKind} {n : Int} : Lv h B (.int k n) (.int k n) := .told rfl rfl
theorem Lv.bool {n : Bool} : Lv h B (.bool n) (.bool n) := .told rfl rfl
theorem Lv.nils : Lv h B .nils .nils := .told rfl rfl
theorem Lv.agg {l k : List AV} (t : Lvs h B l k) : Lv h B (.agg l) (.agg k) := by
  obtain ⟨D, f, b, o, i⟩ := t
  exact ⟨D, .agg f, b, o, i⟩
theorem Lv.fz {x y : AV} (l : Lv h B x y) : Fz true h x y := let ⟨_, f, _⟩ := l; f.fz
theorem Lvs.fzs {x y : List AV} (l : Lvs h B x y) : Fzs true h x y := let ⟨_, f, _⟩ := l; f.fzs
theorem Lvs.length {x y : List AV} (l : Lvs h B x y) : y.length = x.length := let ⟨_, f, _⟩ := l; f.length
/-- a row's slice, told -/
def cRow (l : List AV) (n : Nat) : AV := if n = 0 then .nils else .rs l n
theorem cRow_s (l : List AV) {n : Nat} (h : 0 < n) : cRow l n = .rs l n := if_neg (by omega)
/-- a row of one's own -/
def LR (h : Heap) (B : Nat → Prop) (v : AV) (sz : Nat) (told : List AV) (n : Nat) : Prop :=
  ∃ cs, Row h v sz cs n ∧ Lvs h (fun b => B b ∧ b ∉ blkOf v) cs told ∧ ∀ b ∈ blkOf v, B b
theorem LR.nil (h : Heap) (B : Nat → Prop) (sz : Nat) : LR h B .nils sz [] 0 := ⟨[], .nil _ _, .nil, fun b hb => by simp [blkOf] at hb⟩
theorem LR.one {v : AV} {sz n : Nat} {t : List AV} (r : LR h B v sz t n) : v.one = true := let ⟨_, r, _⟩ := r; r.one
theorem LR.len {v : AV} {sz n : Nat} {t : List AV} (r : LR h B v sz t n) (hh : Heap) : lnV hh v = .val (.int .i64 n) hh := let ⟨_, r, _⟩ := r; r.len hh
theorem LR.cells {v : AV} {sz n : Nat} {t : List AV} (r : LR h B v sz t n) : v.cells = some [v] := by
  obtain ⟨_, r, _⟩ := r
  rcases r with ⟨rfl, rfl, rfl⟩ | ⟨b, e, ver, rfl, _⟩ <;> rfl
theorem LR.frame {v : AV} {sz n : Nat} {t : List AV} (r : LR h B v sz t n) (hn : h.next ≤ h'.next) (k : ∀ b, B b → b < h.next → h'.get b = h.get b) : LR h' B v sz t n := by
  obtain ⟨cs, r, l, i⟩ := r
  exact ⟨cs, r.frame hn fun b hb => k b (i b hb) (r.lt b hb), l.frame hn fun b hb => k b hb.1, i⟩
theorem LR.weak {v : AV} {sz n : Nat} {t : List AV} (r : LR h B v sz t n) (k : ∀ b, B b → b < h.next → B' b) : LR h B' v sz t n := by
  obtain ⟨cs, r, l, i⟩ := r
  exact ⟨cs, r, l.weak fun b hb hl => ⟨k b hb.1 hl, hb.2⟩, fun b hb => k b (i b hb) (r.lt b hb)⟩
theorem LR.lv {v : AV} {sz n : Nat} {t : List AV} (r : LR h B v sz t n) : Lv h B v (cRow t n) := by
  obtain ⟨cs, r, ⟨D, f, hb0, o, i⟩, j⟩ := r
  obtain ⟨v', f', hv⟩ := r.fd f
  refine ⟨_, ?_, r.bare, ?_, fun b hb => (List.mem_append.1 hb).elim (j b) fun c => (i b c).1⟩
  · rcases hv with ⟨rfl, rfl⟩ | rfl
    · exact f'
    · rcases r with ⟨rfl, rfl, rfl⟩ | ⟨b, e0, ver, rfl, h0, _⟩
      · cases f'
      · rw [cRow_s _ h0]; exact f'
  · refine Own.app (fun b hb => ?_) o
    rcases r with ⟨rfl, rfl, rfl⟩ | ⟨b', e0, ver, rfl, h0, h1, h2, h3⟩
    · simp [blkOf] at hb
    · simp only [blkOf, List.mem_singleton] at hb
      subst hb
      exact ⟨_, _, _, h3, hb0⟩
/-- one more -/
theorem LR.push {v : AV} {sz n : Nat} {t : List AV} (r : LR h B v sz t n) {nb eb vb : Nat} {c t1 : List AV} (hg : h.get nb = some (.cells c eb vb)) (hl : c.length = sz) (ho : c.all AV.one = true) (l : Lvs h (fun b => B b ∧ b ∉ blkOf v) c t1) (hB : B h.next)
    {bytes : Nat} (hb : (n + 1) * bytes ≤ most2) (e : TypeId) :
    ∃ h', appendV h sz bytes e v (.sl nb 0 1 1 sz) = some (.sl h.next 0 (n + 1) (n + 1) sz, h') ∧ LR h' B (.sl h.next 0 (n + 1) (n + 1) sz) sz (t ++ t1) (n + 1) ∧ h'.next = h.next + 1 ∧ ∀ b, b ∉ blkOf v → b ≠ h.next → h'.get b = h.get b := by
  obtain ⟨cs, r, l0, i⟩ := r
  obtain ⟨h', e1, r', hn, k⟩ := r.push hg hl ho hb e
  have key : ∀ {x y : List AV}, Lvs h (fun b => B b ∧ b ∉ blkOf v) x y → Lvs h' (fun b => B b ∧ b ∉ blkOf (.sl h.next 0 (n + 1) (n + 1) sz)) x y := fun q =>
    (q.weak (B' := fun b => (B b ∧ b ∉ blkOf v) ∧ b ≠ h.next) fun b hb hlt => ⟨hb, by omega⟩).frame (by omega) (fun b hb _ => k b hb.1.2 hb.2) |>.weak fun b hb _ => ⟨hb.1.1, by simpa [blkOf] using hb.2⟩
  exact ⟨h', e1, ⟨_, r', (key l0).app (key l), fun b hb => by simp only [blkOf, List.mem_singleton] at hb; rw [hb]; exact hB⟩, hn, k⟩
theorem LR.lt {v : AV} {sz n : Nat} {t : List AV} (r : LR h B v sz t n) : ∀ b ∈ blkOf v, b < h.next := let ⟨_, r, _⟩ := r; r.lt
theorem LR.inB {v : AV} {sz n : Nat} {t : List AV} (r : LR h B v sz t n) : ∀ b ∈ blkOf v, B b := let ⟨_, _, _, i⟩ := r; i
end
/-- all but one block stays -/
def ExtX (x : Nat) (h h' : Heap) : Prop := h.next ≤ h'.next ∧ ∀ b, b < h.next → b ≠ x → h'.get b = h.get b
theorem ExtX.refl {x : Nat} {h : Heap} : ExtX x h h := ⟨Nat.le_refl _, fun _ _ _ => rfl⟩
theorem ExtX.trans {x : Nat} {a b c : Heap} (p : ExtX x a b) (q : ExtX x b c) : ExtX x a c := ⟨Nat.le_trans p.1 q.1, fun n hn hx => (q.2 n (Nat.lt_of_lt_of_le hn p.1) hx).trans (p.2 n hn hx)⟩
theorem ExtX.put {x : Nat} {h : Heap} (o : Blk) : ExtX x h (h.put x o) := ⟨Nat.le_refl _, fun b _ hx => by rw [Heap.get_put, if_neg hx]⟩
theorem Ext.x {x : Nat} {h h' : Heap} (p : Ext h h') : ExtX x h h' := ⟨p.1, fun b hb _ => p.2 b hb⟩
end Go.Proofs.YtpfpngmfooagiaaGreat.VM
namespace Go.Proofs.YtpfpngmfooagiaaGreat.VM
theorem hn_l (n k : Nat) : (n = n + k) = (k = 0) := by rw [eq_iff_iff]; omega
theorem hn_r (n k : Nat) : (n + k = n) = (k = 0) := by rw [eq_iff_iff]; omega
def HN := And.intro @hn_l (And.intro @hn_r @Nat.add_assoc)
theorem Ext.putn {h h' : Heap} (x : Ext h h') {b : Nat} (hb : h.next ≤ b) (o : Blk) : Ext h (h'.put b o) := ⟨x.1, fun c hc => by rw [Heap.get_put, if_neg (by omega)]; exact x.2 c hc⟩
theorem Ext.mkn {h h' : Heap} (x : Ext h h') {b : Nat} (hb : h.next ≤ b) (o : Blk) : Ext h (h'.mk' b o) := ⟨by rw [mk_next]; have := x.1; omega, fun c hc => by rw [Heap.get_mk, if_neg (by omega)]; exact x.2 c hc⟩
section
variable {h h' : Heap} {L : List (Nat × List AV)} {b e v : Nat} {l l' : List AV}
theorem Ext.new {h : Heap} {o o' : Blk} : Ext h ((h.mk' h.next o).put h.next o') := (Ext.mk o).putn (Nat.le_refl _) _
end
/-- clear, of a slice -/
def clS (h : Heap) (z : List AV) : AV → Out
  | .nils => .val (.tup []) h
  | .sl b off len _ _ => if len = 0 then .val (.tup []) h else (match writeAt h b off (List.replicate len z).flatten with
    | some h => .val (.tup []) h
    | none => .fail)
  | _ => .fail
theorem vop_clearS {s : T AV} {h : Heap} {nm : Nat} {z : List AV} {x : Opd} : vop ⟨s, h⟩ nm (.bi (.clearS z) [x]) = clS h z (ev s x) := by
  simp only [vop, List.map_cons, List.map_nil, eval_eq]
  cases ev s x <;> try rfl
  rename_i b off len cap sz
  simp only [clS, T.beq_dec]
  by_cases e : len = 0
  · rw [if_pos e, decide_eq_true e, cond_true]
  · rw [if_neg e, decide_eq_false e, cond_false]
    cases writeAt h b off (List.replicate len z).flatten <;> rfl
theorem clS_go {h h' : Heap} {z : List AV} {b off len cap sz : Nat} (h0 : len ≠ 0) (hw : writeAt h b off (List.replicate len z).flatten = some h') : clS h z (.sl b off len cap sz) = .val (.tup []) h' := by
  simp only [clS, if_neg h0, hw]
theorem eqv_p0 {b o : Nat} : eqv .ptr (.ptr b o) .nilp = some false := rfl
theorem eqv_p1 : eqv .ptr .nilp .nilp = some true := rfl
theorem eqv_s0 {a b c d e : Nat} : eqv .sl (.sl a b c d e) .nils = some false := rfl
theorem eqv_s1 : eqv .sl .nils .nils = some true := rfl
theorem eqv_s2 {l : List AV} {n : Nat} : eqv .sl (.rs l n) .nils = some false := rfl
theorem eqv_b (a b : Bool) : eqv .bool (.bool a) (.bool b) = some (decide (a = b)) := by revert a b; decide
/-- what is compared without memory -/
def HE := And.intro @eqv_p0 (And.intro @eqv_p1 (And.intro @eqv_s0 (And.intro @eqv_s1 (And.intro @eqv_s2 @eqv_b))))
def blk : Nat → VCode → VCode
  | 0, .seq a _ => a
  | n + 1, .seq _ b => blk n b
  | _, x => x
theorem nat_of {k : IntKind} {n y : Nat} (h : n ≤ y) : natOf (.int k (n : Int)) y = some n := by
  show (if 0 ≤ (n : Int) ∧ (n : Int) ≤ (y : Int) then some (n : Int).toNat else none) = some n
  rw [if_pos ⟨by omega, by omega⟩, Int.toNat_natCast]
section
variable {b off len cap sz lo hi mx : Nat} {k1 k2 k3 : IntKind}
theorem slV3 (h1 : lo ≤ hi) (h2 : hi ≤ mx) (h3 : mx ≤ cap) : sliceV sz (.sl b off len cap sz) (some (.int k1 (lo : Int))) (some (.int k2 (hi : Int))) (some (.int k3 (mx : Int))) = some (.sl b (off + lo * sz) (hi - lo) (mx - lo) sz) := by
  simp [sliceV, bounds, nat_of h1, nat_of h2, nat_of h3]
theorem slV2 (h1 : lo ≤ hi) (h2 : hi ≤ cap) : sliceV sz (.sl b off len cap sz) (some (.int k1 (lo : Int))) (some (.int k2 (hi : Int))) none = some (.sl b (off + lo * sz) (hi - lo) (cap - lo) sz) := by
  simp [sliceV, bounds, nat_of h1, nat_of h2]
theorem slVhi (h2 : hi ≤ cap) : sliceV sz (.sl b off len cap sz) none (some (.int k2 (hi : Int))) none = some (.sl b off hi cap sz) := by
  simp [sliceV, bounds, nat_of h2]
theorem slVlo (h1 : lo ≤ len) : sliceV sz (.sl b off len cap sz) (some (.int k1 (lo : Int))) none none = some (.sl b (off + lo * sz) (len - lo) (cap - lo) sz) := by
  simp [sliceV, bounds, nat_of h1]
end
end Go.Proofs.YtpfpngmfooagiaaGreat.VM
namespace Go.Proofs.YtpfpngmfooagiaaGreat.VM
open Go.RowKit Go.Shelf
section
variable {P : Program} {φ φ' : Env} {w w' : World} {H H1 H2 : Heap}
theorem Calls.ret {f : Nat} {us : Array Value} {u : Value} (e : Calls P f us w fun e w1 => e = .returned u ∧ w1 = w') {v : AV} (hv : VR φ' w' v u) (hr : HR φ' w' H2) (hu : UpdH φ w H φ' w' H2) :
    Calls P f us w fun e w' => ∃ φ' u, e = .returned u ∧ VR φ' w' v u ∧ HR φ' w' H2 ∧ UpdH φ w H φ' w' H2 :=
  Calls.mono e (by rintro e w1 ⟨rfl, rfl⟩; exact ⟨φ', u, rfl, hv, hr, hu⟩)
theorem SameH.put2 {H0 : Heap} {nb e v e' v' : Nat} {X Y : Blk} {l : List AV} : SameH (((H0.mk' nb X).put nb Y).put nb (.cells l e v)) (H0.mk' nb (.cells l e' v')) := by
  refine ⟨by rw [put_next, put_next, mk_next, mk_next], fun d => ?_⟩
  by_cases hd : d = nb
  · subst hd
    exact .inr ⟨_, _, _, _, _, by rw [Heap.get_put, if_pos rfl], by rw [Heap.get_mk, if_pos rfl]⟩
  · exact .inl (by rw [Heap.get_put, if_neg hd, Heap.get_put, if_neg hd, Heap.get_mk, if_neg hd, Heap.get_mk, if_neg hd])
end
end Go.Proofs.YtpfpngmfooagiaaGreat.VM
namespace Go.Proofs.YtpfpngmfooagiaaGreat.VM
open Go.RowKit Go.Shelf Go.Sort
section
variable {P : Program} {φ φ' : Env} {w w' : World} {H : Heap}
theorem upd_none_ahead (n : Nat) : Upd none0 w none0 (Sort.ahead w n) := ⟨rfl, rfl, rfl, Nat.le_refl _, fun _ _ h => h, fun _ _ _ h => (by cases h), fun _ _ _ => rfl, fun _ _ h => h, by show w.drawn ≤ w.drawn + n; omega⟩
theorem grow_old (os : Array Obj) {B : Nat} (h : B < w.heap.size) : (grow w os).heap[B]? = w.heap[B]? := by
  show (w.heap ++ os)[B]? = _
  rw [Array.getElem?_append_left h]
theorem upd_none_grow (os : Array Obj) : Upd none0 w none0 (grow w os) := by
  refine ⟨rfl, rfl, rfl, ?_, fun _ _ h => h, fun _ _ _ h => (by cases h), fun B hB _ => grow_old os hB, fun B x hx => ?_, Nat.le_refl _⟩
  · show w.heap.size ≤ (w.heap ++ os).size
    rw [Array.size_append]; omega
  · have hB : B < w.heap.size := by
      rcases Nat.lt_or_ge B w.heap.size with h | h
      · exact h
      · unfold World.shape? at hx; rw [Array.getElem?_eq_none h] at hx; cases hx
    unfold World.shape? at hx ⊢
    rw [grow_old os hB]; exact hx
theorem setMany_all {F0 : Array Value} {vs : List Value} (h : vs.length = F0.size) : setMany F0 0 vs = vs.toArray := by
  refine ext_get! (by simp [h]) fun t ht => ?_
  rw [size_setMany] at ht
  rw [get_setMany _ _ _ _ ht, if_pos ⟨Nat.zero_le _, by omega⟩]
  simp
theorem putRow_id {B o : Nat} {F0 F : Array Value} (h : Holds id w B o F0) (hs : F.size = F0.size) : putRow id w B o F = w.setCells B o F.toList := by
  have e := setCells_putRow w B o F.toList 0 F0 (by simp [hs])
  rw [putRow_self id w B o F0 h, Nat.add_zero, setMany_all (by simp [hs])] at e
  exact e.symm
theorem holds_of {b B o N : Nat} {e' : TypeId} {cs : List AV} {us : List Value} (q3 : VRm φ w cs B o) (u : VRs φ w cs us) (uc : ∀ j v, us[j]? = some v → w.cell? ⟨B, o + j, none⟩ = some v) (q4 : ∀ i, i ≤ N → w.frozen? ⟨B, i, none⟩ = false) (q5 : o + cs.length ≤ N) : Holds id w B o us.toArray := by
  intro j hj
  have hj' : j < us.length := by simpa using hj
  have hl := u.length
  rw [getElem!_pos us.toArray _ hj]
  exact ⟨uc j _ (by simp [List.getElem?_eq_getElem hj']), q4 _ (by omega)⟩
end
end Go.Proofs.YtpfpngmfooagiaaGreat.VM
namespace Go.Proofs.YtpfpngmfooagiaaGreat.VM
open Go.RowKit Go.Shelf Go.Sort
theorem flatn_at {β : Type} {k : Nat} : ∀ {L : List (List β)} {i : Nat} (hi : i < L.length), (∀ l ∈ L, l.length = k) → (L.flatten.drop (i * k)).take k = L[i]
  | l :: L, 0, _, h => by simp [List.take_left' (h l (.head _))]
  | l :: L, i + 1, hi, h => by
    rw [List.flatten_cons, Nat.add_mul, Nat.one_mul, Nat.add_comm, ← List.drop_drop, List.drop_left' (h l (.head _)), flatn_at (by simpa using hi) fun m hm => h m (.tail _ hm)]
    rfl
theorem flatn_len {β : Type} {k : Nat} : ∀ {L : List (List β)}, (∀ l ∈ L, l.length = k) → L.flatten.length = L.length * k
  | [], _ => by simp
  | l :: L, h => by rw [List.flatten_cons, List.length_append, h l (.head _), flatn_len fun m hm => h m (.tail _ hm), List.length_cons, Nat.add_mul, Nat.one_mul, Nat.add_comm]
theorem flatn_get {β : Type} [Inhabited β] {k : Nat} (hk : 0 < k) {L : List (List β)} (h : ∀ l ∈ L, l.length = k) {t : Nat} (ht : t < L.length * k) : L.flatten[t]'(by rw [flatn_len h]; exact ht) = (L[t / k]'(Nat.div_lt_of_lt_mul (by rw [Nat.mul_comm]; exact ht)))[t % k]! := by
  have hi : t / k < L.length := Nat.div_lt_of_lt_mul (by rw [Nat.mul_comm]; exact ht)
  have e := flatn_at hi h
  have hl : (L[t / k]).length = k := h _ (List.getElem_mem _)
  have hm : t % k < k := Nat.mod_lt _ hk
  rw [← e]
  have e2 : t / k * k + t % k = t := by have := Nat.div_add_mod t k; rw [Nat.mul_comm] at this; exact this
  rw [getElem!_pos _ _ (by rw [e, hl]; exact hm)]
  simp only [List.getElem_take, List.getElem_drop, e2]
theorem flatK_list {α : Type} [Inhabited α] {enc : α → List Value} {k : Nat} (hk : 0 < k) (h : ∀ x, (enc x).length = k) (d : Array α) : (flatK enc k d).toList = (d.toList.map enc).flatten := by
  have hl : ∀ l ∈ d.toList.map enc, l.length = k := fun l hl => by obtain ⟨x, _, rfl⟩ := List.mem_map.1 hl; exact h x
  apply List.ext_getElem
  · simp only [Array.length_toList, size_flatK, flatn_len hl, List.length_map]
  · intro t h1 h2
    have h1' : t < d.size * k := by simpa using h1
    have ht : t < (d.toList.map enc).length * k := by simpa using h1'
    have hd : t / k < d.size := Nat.div_lt_of_lt_mul (by rw [Nat.mul_comm]; exact h1')
    rw [flatn_get hk hl ht]
    have := get_flatK enc k d t h1'
    rw [getElem!_pos _ _ (by simpa using h1')] at this
    rw [Array.getElem_toList, this]
    rw [getElem!_pos d (t / k) hd]; simp
section
variable {P : Program} {φ φ' : Env} {w w' : World} {H : Heap}
mutual
theorem Fz.undead {r : Bool} {b : Nat} {X : Blk} : ∀ {x y : AV}, Fz r (H.put b .dead) x y → Fz r (H.put b X) x y
  | _, _, .undef => .undef
  | _, _, .bool b => .bool b
  | _, _, .int k n => .int k n
  | _, _, .str s => .str s
  | _, _, .nilp => .nilp
  | _, _, .nils => .nils
  | _, _, .nilm => .nilm
  | _, _, .nilf => .nilf
  | _, _, .sl (b := c) hl hg hc t => .sl hl (by
      rw [Heap.get_put] at hg ⊢
      by_cases e : c = b
      · rw [if_pos e] at hg; cases hg
      · rw [if_neg e] at hg ⊢; exact hg) hc t.undead
  | _, _, .sl0 => .sl0
  | _, _, .ptr (b := c) hg t => .ptr (by
      rw [Heap.get_put] at hg ⊢
      by_cases e : c = b
      · rw [if_pos e] at hg; cases hg
      · rw [if_neg e] at hg ⊢; exact hg) t.undead
  | _, _, .agg t => .agg t.undead
  | _, _, .tup t => .tup t.undead
  | _, _, .fn t => .fn t.undead
  | _, _, .rs0 => .rs0
  | _, _, .rs hr t => .rs hr t.undead
  | _, _, .rp hr t => .rp hr t.undead
theorem Fzs.undead {r : Bool} {b : Nat} {X : Blk} : ∀ {x y : List AV}, Fzs r (H.put b .dead) x y → Fzs r (H.put b X) x y
  | _, _, .nil => .nil
  | _, _, .cons f t => .cons f.undead t.undead
end
theorem grow_of_upd (u : Upd none0 w φ' w') : ∃ q os, w' = grow (w.drewN q) os := by
  refine ⟨w'.drawn - w.drawn, w'.heap.extract w.heap.size w'.heap.size, ?_⟩
  have hh : w'.heap = w.heap ++ w'.heap.extract w.heap.size w'.heap.size := by
    apply Array.ext_getElem?
    intro i
    rcases Nat.lt_or_ge i w.heap.size with c | c
    · rw [Array.getElem?_append_left c]
      exact u.keep i c fun _ _ e => by cases e
    · rw [Array.getElem?_append_right c, Array.getElem?_extract]
      by_cases d : i < w'.heap.size
      · rw [if_pos (by omega)]; congr 1; omega
      · rw [if_neg (by omega), Array.getElem?_eq_none (by omega)]
  have h1 := u.os; have h2 := u.tape; have h3 := u.output; have h4 := u.drawn
  obtain ⟨heap', tape', drawn', os', output'⟩ := w'
  simp only [grow, World.drewN] at *
  subst h1 h2 h3
  congr 1
  omega
theorem enters_call {g : Nat} (e : Enters P g) : ∀ args w, (callFunc g args).run P w = .ok (.enter g args) w := by
  obtain ⟨fn, h1, h2, h3⟩ := e
  obtain ⟨c, hc⟩ := Option.isSome_iff_exists.1 h2
  exact enters_of h1 (by simpa using h3) hc
theorem permIn_list {α : Type} [Inhabited α] {d d' : Array α} (h : PermIn 0 d.size d d') : d'.toList.Perm d.toList := by
  obtain ⟨h1, _, h3⟩ := h
  have e1 : (d'.extract 0 d.size) = d' := by rw [← h1]; simp
  have e2 : (d.extract 0 d.size) = d := by simp
  rwa [e1, e2] at h3
theorem VRs.flats {cell : Nat → List AV} {encV : Nat → List Value} : ∀ {l : List Nat}, (∀ i ∈ l, VRs φ w (cell i) (encV i)) → VRs φ w (l.map cell).flatten (l.map encV).flatten
  | [], _ => .nil
  | i :: l, h => by
    rw [List.map_cons, List.flatten_cons, List.map_cons, List.flatten_cons]
    exact (h i (.head _)).append (VRs.flats fun j hj => h j (.tail _ hj))
/-- the rows in which the sort lays the elements: by their places -/
structure SortP (n : Nat) (cf : Nat → Nat → Int) (p : List Nat) : Prop where
  perm : p.Perm (List.range n)
  rise : p.Pairwise fun i j => ¬ cf j i < 0
theorem sortF_ok {ρ : Ren} (L : SlLaysF0.n6 P ρ) (hly : ρ.f 6 < YB) {k : Nat} (aE : ∀ w, (isAgg (ρ.t 24)).run P w = .ok true w) (zE : ∀ w, (Go.sizeOf (ρ.t 24)).run P w = .ok k w) (hk : 0 < k) {b n cap e ver : Nat} {cell told : Nat → List AV} (h0 : 0 < n) (hsm : n < 4611686018427387904)
    (hlen : ∀ i, i < n → (cell i).length = k) (hone : ∀ i, i < n → (cell i).all AV.one = true) (hg : H.get b = some (.cells ((List.range n).map cell).flatten e ver)) {g : Nat} (eg : Enters P g) {cf : Nat → Nat → Int}
    (hO : SWO (ltOf fun x y : _root_.Fin n => cf x.1 y.1)) (ht : ∀ i, i < n → Fzs true (H.put b .dead) (cell i) (told i)) (hcmp : ∀ i j, i < n → j < n → Pu P g [.agg (told i), .agg (told j)] (fun v => v = .int .i64 (cf i j))) :
    ∃ p, SortP n cf p ∧ OK P (ρ.f 6) [.sl b 0 n cap k, .fn g []] H (.tup []) (H.put b (.cells (p.map cell).flatten e (ver + 1))) := by
  obtain ⟨m, rfl⟩ : ∃ m, n = m + 1 := ⟨n - 1, by omega⟩
  obtain ⟨D, hD⟩ : ∃ D : Array (_root_.Fin (m + 1)), D = Array.ofFn id := ⟨_, rfl⟩
  have hDs : D.size = m + 1 := by rw [hD]; simp
  have hDl : D.toList.map (·.1) = List.range (m + 1) := by
    rw [hD]
    apply List.ext_getElem
    · simp
    · intro i h1 h2
      rw [List.getElem_map, Array.getElem_toList, Array.getElem_ofFn, List.getElem_range]; rfl
  obtain ⟨R, hR⟩ : ∃ R, R = pdq (ltOf fun x y : _root_.Fin (m + 1) => cf x.1 y.1) D 0 D.size (Lib.bitLen D.size) true true := ⟨_, rfl⟩
  have hps := pdq_sorts (ltOf fun x y : _root_.Fin (m + 1) => cf x.1 y.1) hO D 0 D.size (Lib.bitLen D.size) true true (Nat.zero_le _) (Nat.le_refl _) (Or.inl rfl)
  rw [← hR] at hps
  have hRs : R.size = m + 1 := by rw [hps.1.1, hDs]
  refine ⟨R.toList.map (·.1), ⟨?_, ?_⟩, .inl ⟨hly, ?_, fun φ w us hr hus => ?_⟩⟩
  · rw [← hDl]; exact (permIn_list hps.1).map _
  · rw [List.pairwise_iff_getElem]
    intro i j hi hj hij
    have h1 : j < D.size := by simpa [hRs, hDs] using hj
    have := hps.2 i j (Nat.zero_le _) hij h1
    rw [getElem!_pos R j (by omega), getElem!_pos R i (by omega)] at this
    simpa [ltOf] using this
  · obtain ⟨nm, hn, hf⟩ := L.f6
    refine ⟨_, hf, rfl, fun e => ?_⟩
    rw [show nm = "runtime.NumGoroutine" from e] at hn
    simp at hn
  obtain ⟨B, o, e', N, q1, q2, q3, q4, q5⟩ := hr.cells hg
  cases us with | mk us =>
  simp only at hus
  cases hus with | cons h1 t => cases t with | cons h2 t =>
  cases t
  cases h2 with | fn hgy h2 =>
  rename_i vcap
  have hvc : vcap = #[] := by
    cases vcap with | mk l =>
    simp only at h2
    cases h2
    rfl
  subst hvc
  cases h1 with
  | sl hb1 hc1 hl1 hs1 hr1 =>
    rename_i oB oo c oN oE
    rw [q1] at hb1
    cases hb1
    obtain ⟨vs, v1, v2⟩ := q3.vals
    obtain ⟨encN, hencN⟩ : ∃ encN : Nat → List Value, encN = fun i => (vs.drop (i * k)).take k := ⟨_, rfl⟩
    have hcl : ∀ l ∈ (List.range (m + 1)).map cell, l.length = k := fun l hl => by
      obtain ⟨i, hi, rfl⟩ := List.mem_map.1 hl
      exact hlen i (List.mem_range.1 hi)
    have hV : ∀ i, i < m + 1 → VRs φ w (cell i) (encN i) := fun i hi => by
      have h3 := (v1.drop (i * k)).take k
      rw [flatn_at (by simpa using hi) hcl] at h3
      rw [hencN]
      simpa using h3
    obtain ⟨enc, henc⟩ : ∃ enc : _root_.Fin (m + 1) → List Value, enc = fun i => encN i.1 := ⟨_, rfl⟩
    have hVe : ∀ i : _root_.Fin (m + 1), VRs φ w (cell i.1) (enc i) := fun i => by rw [henc]; exact hV i.1 i.2
    have elen : ∀ i, (enc i).length = k := fun i => by rw [← (hVe i).length]; exact hlen i.1 i.2
    have eone : ∀ i, ∀ v ∈ enc i, v.oneCell' = true := fun i v hv => by
      obtain ⟨j, hj, rfl⟩ := List.getElem_of_mem hv
      exact (hVe i).one (hone i.1 i.2) _ hv
    have hHs : Holds id w B o vs.toArray := holds_of (b := b) (e' := e') q3 v1 v2 q4 q5
    have flatD : ∀ dk : Array (_root_.Fin (m + 1)), dk.size = m + 1 → (flatK enc k dk).size = vs.toArray.size := fun dk hdk => by
      have := v1.length
      rw [flatn_len hcl] at this
      simp [hdk]; simpa using this
    have hVd : ∀ dk : Array (_root_.Fin (m + 1)), VRs φ w ((dk.toList.map (·.1)).map cell).flatten (flatK enc k dk).toList := fun dk => by
      rw [flatK_list hk elen]
      have e1 : dk.toList.map enc = (dk.toList.map (·.1)).map encN := by rw [List.map_map, henc]; rfl
      rw [e1]
      exact VRs.flats fun i hi => by
        obtain ⟨j, _, rfl⟩ := List.mem_map.1 hi
        exact hV j.1 j.2
    have hfD : flatK enc k D = vs.toArray := by
      apply Array.ext'
      rw [flatK_list hk elen]
      have e1 : D.toList.map enc = (List.range (m + 1)).map encN := by rw [← hDl, List.map_map, henc]; rfl
      rw [e1]
      have hvl : vs.length = (m + 1) * k := by rw [← v1.length, flatn_len hcl]; simp
      have el : ∀ l ∈ (List.range (m + 1)).map encN, l.length = k := fun l hl => by
        obtain ⟨i, hi, rfl⟩ := List.mem_map.1 hl
        rw [← (hV i (List.mem_range.1 hi)).length]; exact hlen i (List.mem_range.1 hi)
      apply List.ext_getElem
      · rw [flatn_len el]; simp [hvl]
      · intro t g1 g2
        have ht1 : t < ((List.range (m + 1)).map encN).length * k := by rwa [flatn_len el] at g1
        rw [flatn_get hk el ht1]
        have hdm : t / k * k + t % k = t := by have := Nat.div_add_mod t k; rw [Nat.mul_comm] at this; exact this
        have hm : t % k < k := Nat.mod_lt _ hk
        have htv : t < vs.length := by simpa using g2
        simp only [List.getElem_map, List.getElem_range, hencN]
        rw [getElem!_pos _ _ (by rw [List.length_take, List.length_drop]; omega)]
        simp only [List.getElem_take, List.getElem_drop, hdm]
    have hH : HoldsK enc k w B o D := by
      show Holds id w B o (flatK enc k D)
      rw [hfD]; exact hHs
    -- the worlds of the sort
    have wld : ∀ (q : Nat) (os : Array Obj) (dk : Array (_root_.Fin (m + 1))), dk.size = m + 1 → HR φ (sortWorldK enc k w B o q dk os) (H.put b (.cells ((dk.toList.map (·.1)).map cell).flatten e (ver + 1))) ∧ UpdH φ w H φ (sortWorldK enc k w B o q dk os) (H.put b (.cells ((dk.toList.map (·.1)).map cell).flatten e (ver + 1))) := by
      intro q os dk hdk
      have ep : putRowK enc k (Sort.ahead w q) B o dk = (Sort.ahead w q).setCells B (o + 0) (flatK enc k dk).toList :=
        putRow_id (w := Sort.ahead w q) (F0 := vs.toArray) hHs (flatD dk hdk)
      unfold sortWorldK
      rw [ep]
      obtain ⟨r1, u1⟩ := hr.same (upd_none_ahead (w := w) q)
      have hcl2 : ∀ l ∈ (dk.toList.map (·.1)).map cell, l.length = k := fun l hl => by
        obtain ⟨i, hi, rfl⟩ := List.mem_map.1 hl
        obtain ⟨j, _, rfl⟩ := List.mem_map.1 hi
        exact hlen j.1 j.2
      have hfl : (((dk.toList.map (·.1)).map cell).flatten).length = (((List.range (m + 1)).map cell).flatten).length := by rw [flatn_len hcl, flatn_len hcl2]; simp [hdk]
      have hall : (((dk.toList.map (·.1)).map cell).flatten).all AV.one = true := by
        rw [List.all_eq_true]
        intro x hx
        obtain ⟨l, hl, hx⟩ := List.mem_flatten.1 hx
        obtain ⟨i, hi, rfl⟩ := List.mem_map.1 hl
        obtain ⟨j, _, rfl⟩ := List.mem_map.1 hi
        exact List.all_eq_true.1 (hone j.1 j.2) x hx
      have hd : (((List.range (m + 1)).map cell).flatten).drop (0 + (((dk.toList.map (·.1)).map cell).flatten).length) = [] := List.drop_of_length_le (by rw [hfl]; omega)
      have hw : writeAt H b 0 ((dk.toList.map (·.1)).map cell).flatten = some (H.put b (.cells ((dk.toList.map (·.1)).map cell).flatten e (ver + 1))) := by
        rw [writeAt_go, hg, wrB_some, if_pos ⟨by rw [hfl]; omega, hall⟩, hd, List.take_zero, List.nil_append, List.append_nil]
      have hv0 : VRs φ (Sort.ahead w q) ((dk.toList.map (·.1)).map cell).flatten (flatK enc k dk).toList := (hVd dk).upd u1.toUpd
      obtain ⟨r2, _, _⟩ := hr_write r1 q1 hw hv0
      have u2 := updH_write (w := Sort.ahead w q) (at_ := o + 0) (us := (flatK enc k dk).toList) q1 hw
      obtain ⟨r3, u3⟩ := r2.same (upd_none_grow (w := (Sort.ahead w q).setCells B (o + 0) (flatK enc k dk).toList) os)
      exact ⟨r3, (u1.trans u2).trans u3⟩
    have hC : CmpLays P g #[] enc k (fun x y : _root_.Fin (m + 1) => cf x.1 y.1) B o D.size w := by
      intro q os dk hdk x y
      rw [hDs] at hdk
      obtain ⟨r, u⟩ := wld q os dk hdk
      generalize sortWorldK enc k w B o q dk os = W at *
      obtain ⟨v, v', hp0, ok, hf, rfl⟩ := hcmp x.1 y.1 x.2 y.2
      have told_vr : ∀ i : _root_.Fin (m + 1), VRs none0 W (told i.1) (enc i) := fun i =>
        Fzs.vrs r (fun _ _ _ _ c p e => by cases e) (fun _ _ => rfl) (ht i.1 i.2).undead ((hVe i).upd u.toUpd)
      have hargs : VRs none0 W [.agg (told x.1), .agg (told y.1)] (#[Value.agg (enc x).toArray, Value.agg (enc y).toArray] ++ #[]).toList := .cons (.agg (by simpa using told_vr x)) (.cons (.agg (by simpa using told_vr y)) .nil)
      cases hf
      have C1 := (ok.old (.inl fun r e => by cases e)).2.2 none0 W _ (hr_empty W) hargs
      refine Calls.mono C1 ?_
      rintro en W' ⟨φ', u', rfl, hv, _, hu⟩
      cases hv
      exact ⟨rfl, grow_of_upd hu.toUpd⟩
    have C := AnyQ.slices_SortFunc_eq L k aE zE enc elen eone (fun x y : _root_.Fin (m + 1) => cf x.1 y.1) hO g #[] B o c D w (enters_call eg) hC hH (hr.lt _ _ q1) (by omega)
    rw [← hR, hDs] at C
    refine Calls.mono C ?_
    rintro en w' ⟨rfl, q, os, rfl⟩
    obtain ⟨r, u⟩ := wld q os R hRs
    exact ⟨φ, _, rfl, .tup .nil, r, u⟩
theorem sortF_nil {ρ : Ren} (L : SlLaysF0.n6 P ρ) (hly : ρ.f 6 < YB) {g : Nat} : OK P (ρ.f 6) [.nils, .fn g []] H (.tup []) H := by
  refine .inl ⟨hly, ?_, fun φ w us hr hus => ?_⟩
  · obtain ⟨nm, hn, hf⟩ := L.f6
    refine ⟨_, hf, rfl, fun e => ?_⟩
    rw [show nm = "runtime.NumGoroutine" from e] at hn
    simp at hn
  cases us with | mk us =>
  simp only at hus
  cases hus with | cons h1 t => cases t with | cons h2 t =>
  cases t
  cases h1
  refine Calls.mono (AnyF.slices_SortFunc_none L none 0 _ w) ?_
  rintro en w' ⟨rfl, rfl⟩
  exact ⟨φ, _, rfl, .tup .nil, hr, UpdH.refl _ _ _⟩
end
end Go.Proofs.YtpfpngmfooagiaaGreat.VM
namespace Go.Proofs.YtpfpngmfooagiaaGreat.VM
open Go.RowKit
section
variable {P : Program}
/-- yield's arguments in the loop's slots -/
def setps : List Nat → List AV → T AV → T AV
  | p :: ps, v :: vs, s => setps ps vs (s.set p v)
  | _, _, s => s
theorem setps_ok {φ : Env} {w : World} {nt : Nat} : ∀ {ps : List Nat} {args : List AV} {us : List Value} {s : T AV} {h : Heap} {tm : Array Value}, (∀ p ∈ ps, p < nt) → VRs φ w args us → SR φ w nt ⟨s, h⟩ { tmps := tm, defers := [] } →
    SR φ w nt ⟨setps ps args s, h⟩ { tmps := (ps.zip us).foldl (fun tmps (t, a) => tmps.setIfInBounds t a) tm, defers := [] }
  | [], args, us, s, h, tm, _, _, hs => by
    cases args <;> exact hs
  | p :: ps, [], us, s, h, tm, _, ha, hs => by cases ha; exact hs
  | p :: ps, v :: vs, _ :: us, s, h, tm, hp, .cons hv ht, hs =>
    setps_ok (ps := ps) (fun q hq => hp q (.tail _ hq)) ht (hs.put (d := some p) (by simpa using hp p (.head _)) hv h)
theorem foldl_toList {α β : Type} (f : β → Nat × α → β) (ps : Array Nat) (us : Array α) (b : β) : (ps.zip us).foldl f b = (ps.toList.zip us.toList).foldl f b := by
  rw [← Array.foldl_toList, Array.toList_zip]
def LoopB.busy (r : LoopB) : LoopB := { r with state := 1 }
def LoopB.left (r : LoopB) (ex : Ex) : LoopB := { r with state := 2, pend := some ex }
/-- behind a round -/
def RoundEnd (b : Nat) (r : LoopB) (K : AV → Heap → Prop) (h : Heap) : Ex → Prop
  | .normal => K (.bool true) (h.put b (.loop r))
  | ex => K (.bool false) (h.put b (.loop (r.left ex)))
theorem yield_cl (hm : P.follows .mixedOrders = true) {b : Nat} {r : LoopB} {h : Heap} (hg : h.get b = some (.loop r)) (hP : r.P = P) (h0 : r.state = 0) (hp : r.pend = none) (hf1 : r.asg.flat = true) (hf2 : r.body.flat = true) {args : List AV}
    (hl : args.length = r.ps.length) {K : AV → Heap → Prop}
    (e : Ev P r.asg (setps r.ps args r.s) h (Un P [] fun ex s1 h1 => ex = .normal ∧ h1.get b = some (.loop r) ∧ Ev P r.body s1 (h1.put b (.loop r.busy)) (Un P [] fun ex h2s h2 => h2.get b = some (.loop r.busy) ∧ RoundEnd b r K h2 ex))) : Cl P (yf b) args h K := by
  obtain ⟨ex1, s1, h1, d1, rfl, g1, e⟩ := Ev.det hm e
  obtain ⟨ex2, s2, h2, d2, g2, q⟩ := Ev.det hm e
  have hb : yf b - YB = b := Nat.add_sub_cancel_left _ _
  -- what is handed back, and the record behind it
  obtain ⟨v, r', hv, hr', q⟩ : ∃ v r', v = AV.bool (match ex2 with | .normal => true | _ => false) ∧ r' = (match ex2 with | .normal => r | ex => r.left ex) ∧ K v (h2.put b (.loop r')) := by
    cases ex2 <;> exact ⟨_, _, rfl, rfl, q⟩
  refine ⟨v, h2.put b (.loop r'), .inr ⟨Nat.le_add_right _ _, ⟨r, by rw [hb]; exact hg⟩, fun φ w us hr hus B o rec hφ hh => ?_⟩, q⟩
  rw [hb] at hφ
  have hblk := hr.blk b
  rw [hg] at hblk
  obtain ⟨B', o', rec', b1, b2, b3⟩ := hblk
  rw [hφ] at b1
  obtain ⟨rfl, rfl⟩ : B = B' ∧ o = o' := by simpa using b1
  rw [hh] at b2
  obtain rfl : rec = rec' := by simpa using b2
  obtain ⟨nt, n1, n2, n3, n4⟩ := b3.code
  have hsz : us.size = rec.params.size := by
    rw [← Array.length_toList, ← Array.length_toList, b3.ps, ← hl, hus.length]
  refine ⟨hsz, roundIn_of_wpIn trivial ?_⟩
  rw [hP] at n3 n4
  have hs0 : SR φ w nt ⟨setps r.ps args r.s, h⟩ { tmps := (rec.params.zip us).foldl (fun tmps (t, a) => tmps.setIfInBounds t a) rec.tmps, defers := [] } := by
    rw [foldl_toList, b3.ps]
    exact setps_ok n2 hus ⟨n1, b3.get⟩
  refine d1 (some B) (.inr hf1) nt rec.assign n3 φ w _ _ hs0 hr fun φ1 a1 w1 hs1 hr1 hu1 _ => ?_
  have c1 := hr1.blk b
  rw [show (⟨s1, h1⟩ : St).h.get b = some (.loop r) from g1] at c1
  obtain ⟨B1, o1, rec1, k1, k2, k3⟩ := c1
  have k0 := hu1.ext b (B, o) hφ
  rw [k0] at k1
  obtain ⟨rfl, rfl⟩ : B = B1 ∧ o = o1 := by simpa using k1
  refine ⟨_, run_beginRound k2 (by rw [k3.state, h0]; rfl), ?_⟩
  obtain ⟨m1, m2⟩ := loop_write hr1 g1 k0 k2 (r' := r.busy) (rec' := { rec1 with state := .busy }) ⟨k3.code, k3.get, k3.ps, rfl, k3.pend⟩
  refine d2 (some B) (.inr hf2) nt rec.body n4 φ1 _ a1 _ ⟨hs1.size, fun t => (hs1.get t).upd m2.toUpd⟩ m1 fun φ2 a2 w2 hs2 hr2 hu2 _ => ?_
  have c2 := hr2.blk b
  rw [show (⟨s2, h2⟩ : St).h.get b = some (.loop r.busy) from g2] at c2
  obtain ⟨B2, o2, rec2, l1, l2, l3⟩ := c2
  have l0 := hu2.ext b (B, o) k0
  rw [l0] at l1
  obtain ⟨rfl, rfl⟩ : B = B2 ∧ o = o2 := by simpa using l1
  have fin : ∀ (jump : Option Code), jump = (match ex2 with | .normal => none | ex => some (jumpOf ex)) → ∃ u w', (Instr.endRound B jump).run P w2 = .ok u w' ∧ ∃ φ' u', Ending.returned u = .returned u' ∧ VR φ' w' v u' ∧ HR φ' w' (h2.put b (.loop r')) ∧ UpdH φ w h φ' w' (h2.put b (.loop r')) := by
    intro jump hj
    have hL : LoopR φ2 w2 r' { rec2 with state := if jump.isNone then .ready else .done, pending := jump } := by
      rw [hr', hj]
      cases ex2 with
      | normal => exact ⟨l3.code, l3.get, l3.ps, by rw [h0]; rfl, by rw [hp]; rfl⟩
      | exit i => exact ⟨l3.code, l3.get, l3.ps, rfl, rfl⟩
      | ret => exact ⟨l3.code, l3.get, l3.ps, rfl, rfl⟩
    obtain ⟨p1, p2⟩ := loop_write hr2 g2 l0 l2 hL
    refine ⟨_, _, run_endRound jump l2, φ2, _, rfl, ?_, p1, hu1.trans (m2.trans (hu2.trans p2))⟩
    rw [hv, hj]
    cases ex2 <;> exact .bool _
  cases ex2 with
  | normal => exact fin none rfl
  | exit i => exact fin (some (.exit i)) rfl
  | ret => exact fin (some .ret) rfl
end
end Go.Proofs.YtpfpngmfooagiaaGreat.VM
namespace Go.Proofs.YtpfpngmfooagiaaGreat.VM
open Go.RowKit
section
variable {φ φ' : Env} {w : World}
mutual
theorem VR.down (hx : ∀ b p, φ b = some p → φ' b = some p) : ∀ {x : AV} {u : Value}, x.told = true → VR φ' w x u → VR φ w x u
  | _, _, _, .undef => .undef
  | _, _, _, .bool b => .bool b
  | _, _, _, .int k n => .int k n
  | _, _, _, .str s => .str s
  | _, _, e, .ptr _ => by simp [AV.told] at e
  | _, _, _, .nilp => .nilp
  | _, _, e, .sl .. => by simp [AV.told] at e
  | _, _, e, .sl0 _ => by simp [AV.told] at e
  | _, _, _, .nils => .nils
  | _, _, e, .map _ => by simp [AV.told] at e
  | _, _, _, .nilm => .nilm
  | _, _, e, .fn hf h => .fn hf (VRs.down hx (by simpa [AV.told] using e) h)
  | _, _, _, .nilf => .nilf
  | _, _, e, .agg h => .agg (VRs.down hx (by simpa [AV.told] using e) h)
  | _, _, e, .tup h => .tup (VRs.down hx (by simpa [AV.told] using e) h)
  | _, _, e, .rs hl hB hlt h => .rs hl (fun b p hb => hB b p (hx b p hb)) hlt (VRm.down hx (by simpa [AV.told] using e) h)
  | _, _, _, .rs0 a c => .rs0 a c
  | _, _, e, .yld _ => by simp [AV.told] at e
  | _, _, e, .rp hB hlt h => .rp (fun b p hb => hB b p (hx b p hb)) hlt (VRm.down hx (by simpa [AV.told] using e) h)
theorem VRs.down (hx : ∀ b p, φ b = some p → φ' b = some p) : ∀ {x : List AV} {u : List Value}, AV.tolds x = true → VRs φ' w x u → VRs φ w x u
  | _, _, _, .nil => .nil
  | _, _, e, .cons h t => by
    simp only [AV.tolds, Bool.and_eq_true] at e
    exact .cons (VR.down hx e.1 h) (VRs.down hx e.2 t)
theorem VRm.down (hx : ∀ b p, φ b = some p → φ' b = some p) : ∀ {x : List AV} {B o : Nat}, AV.tolds x = true → VRm φ' w x B o → VRm φ w x B o
  | _, _, _, _, .nil => .nil
  | _, _, _, e, .cons hc h t => by
    simp only [AV.tolds, Bool.and_eq_true] at e
    exact .cons hc (VR.down hx e.1 h) (VRm.down hx e.2 t)
end
variable {h : Heap}
mutual
theorem Fd.vrD (hr : HR φ' w h) (hx : ∀ b p, φ b = some p → φ' b = some p) (hn : ∀ b B o, live (h.get b) = true → φ' b = some (B, o) → ∀ c p, φ c = some p → p.1 ≠ B) : ∀ {x y : AV} {D : List Nat} {u : Value}, Fd h x y D → VR φ' w x u → VR φ w y u
  | _, _, _, _, .told e, v => v.down hx e
  | _, _, _, _, .sl hl _ hg hc t, .sl hb hcap hlen hs hsz => by
    obtain ⟨B', o', e', n, q1, q2, q3, q4, q5⟩ := hr.cells hg
    rw [hb] at q1
    cases q1
    exact .rs (by omega) (hn _ _ _ (by rw [hg]; rfl) hb) (hr.lt _ _ hb) (Fds.vrmD hr hx hn t (q3.cut hc))
  | _, _, _, _, .sl hl _ _ _ _, .sl0 a => absurd hl (by omega)
  | _, _, _, _, .sl0, .sl _ _ _ _ _ => .rs0 _ _
  | _, _, _, _, .sl0, .sl0 a => .rs0 _ _
  | _, _, _, _, .ptr _ hg t, .ptr hb => by
    obtain ⟨B', o', e', n, q1, q2, q3, q4, q5⟩ := hr.cells hg
    rw [hb] at q1
    cases q1
    exact .rp (hn _ _ _ (by rw [hg]; rfl) hb) (hr.lt _ _ hb) (Fds.vrmD hr hx hn t (q3.drop _))
  | _, _, _, _, .agg t, .agg hv => .agg (Fds.vrsD hr hx hn t hv)
  | _, _, _, _, .tup t, .tup hv => .tup (Fds.vrsD hr hx hn t hv)
theorem Fds.vrsD (hr : HR φ' w h) (hx : ∀ b p, φ b = some p → φ' b = some p) (hn : ∀ b B o, live (h.get b) = true → φ' b = some (B, o) → ∀ c p, φ c = some p → p.1 ≠ B) : ∀ {x y : List AV} {D : List Nat} {u : List Value}, Fds h x y D → VRs φ' w x u → VRs φ w y u
  | _, _, _, _, .nil, .nil => .nil
  | _, _, _, _, .cons f t, .cons hv tv => .cons (Fd.vrD hr hx hn f hv) (Fds.vrsD hr hx hn t tv)
theorem Fds.vrmD (hr : HR φ' w h) (hx : ∀ b p, φ b = some p → φ' b = some p) (hn : ∀ b B o, live (h.get b) = true → φ' b = some (B, o) → ∀ c p, φ c = some p → p.1 ≠ B) : ∀ {x y : List AV} {D : List Nat} {B o : Nat}, Fds h x y D → VRm φ' w x B o → VRm φ w y B o
  | _, _, _, _, _, .nil, .nil => .nil
  | _, _, _, _, _, .cons f t, .cons hc hv tv => .cons hc (Fd.vrD hr hx hn f hv) (Fds.vrmD hr hx hn t tv)
end
end
/-- memory of which nothing is known -/
def deadT : Nat → T Blk
  | 0 => .e
  | n + 1 => (deadT n).set n .dead
theorem deadT_get (b : Nat) : ∀ n, (deadT n).get b = if b < n then some .dead else none
  | 0 => by rw [if_neg (by omega)]; rfl
  | n + 1 => by
    rw [deadT, T.get_set, deadT_get b n]
    by_cases e : b = n
    · rw [if_pos e, if_pos (by omega)]
    · rw [if_neg e]
      by_cases l : b < n
      · rw [if_pos l, if_pos (by omega)]
      · rw [if_neg l, if_neg (by omega)]
def deadH (n : Nat) : Heap := ⟨n, deadT n⟩
theorem deadH_get (n b : Nat) : (deadH n).get b = if b < n then some .dead else none := deadT_get b n
theorem deadH_not (n b : Nat) : live ((deadH n).get b) = false := by
  rw [deadH_get]
  split <;> rfl
section
variable {P : Program} {φ : Env} {w : World} {h : Heap}
theorem hr_dead (hr : HR φ w h) : HR φ w (deadH h.next) := by
  refine ⟨fun b => ?_, hr.lt, fun b b' p p' hl => ?_, fun b hb => ?_⟩
  · rw [deadH_get]
    by_cases l : b < h.next
    · rw [if_pos l]; trivial
    · rw [if_neg l]
      have := hr.blk b
      rw [hr.next b (by omega)] at this
      exact this
  · rw [deadH_not] at hl; cases hl
  · rw [deadH_get, if_neg (by have : (deadH h.next).next = h.next := rfl; omega)]
theorem OK.freeze {f : Nat} {args : List AV} {v v' : AV} {h2 : Heap} {D : List Nat} (o : OK P f args (deadH h.next) v h2) (fd : Fd h2 v v' D) : OK P f args h v' h := by
  obtain ⟨hly, he, o⟩ := o.old (.inl fun r e => by rw [deadH_get] at e; split at e <;> cases e)
  refine .inl ⟨hly, he, fun φ w us hr hus => ?_⟩
  refine Calls.mono (o φ w us (hr_dead hr) hus) ?_
  rintro e w' ⟨φ', u, rfl, hvu, hr', hu⟩
  have keep : ∀ B, B < w.heap.size → w'.heap[B]? = w.heap[B]? := fun B hB => hu.keepL B hB fun b p hl => by rw [deadH_not] at hl; cases hl
  have hU : Upd φ w φ w' := ⟨hu.os, hu.tape, hu.output, hu.size, fun _ _ e => e, fun _ _ _ e => .inl ⟨_, _, e⟩, fun B hB _ => keep B hB, hu.shape, hu.drawn⟩
  refine ⟨φ, u, rfl, fd.vrD hr' hu.ext (fun b B o hl hb c p hc e => ?_) hvu, ⟨fun b => ?_, fun b p e => Nat.lt_of_lt_of_le (hr.lt b p e) hu.size, hr.inj, hr.next⟩, UpdH.same _ _ hU keep⟩
  · rcases hu.newL b B o hl hb with ⟨b0, o0, h0, _⟩ | h0
    · rw [deadH_not] at h0; cases h0
    · have := hr.lt c p hc
      omega
  · cases hl : live (h.get b) with
    | true => exact BR.upd hr hU hl fun p hp => keep _ (hr.lt _ _ hp)
    | false =>
      have := hr.blk b
      cases hg : h.get b with
      | none => rw [hg] at this; exact this
      | some o =>
        cases o with
        | dead => trivial
        | _ => rw [hg] at hl; cases hl
/-- what a call makes, told; it may hand on what was told -/
def Ft (P : Program) (f : Nat) (args : List AV) (Q : AV → Prop) : Prop := ∀ n, Cl P f args (deadH n) fun v h' => ∃ v' D, Fd h' v v' D ∧ Q v'
theorem Ft.cl {f : Nat} {args : List AV} {h : Heap} {Q : AV → Prop} (p : Ft P f args Q) {R : AV → Heap → Prop} (k : ∀ v, Q v → R v h) : Cl P f args h R := by
  obtain ⟨v, h2, o, v', D, fd, q⟩ := p h.next
  exact ⟨v', h, o.freeze fd, k v' q⟩
theorem Ft.mono {f : Nat} {args : List AV} {Q R : AV → Prop} (p : Ft P f args Q) (k : ∀ v, Q v → R v) : Ft P f args R := fun n => (p n).mono fun v h' ⟨v', D, fd, q⟩ => ⟨v', D, fd, k v' q⟩
theorem Ft.of {f : Nat} {args : List AV} {Q : AV → Prop} (c : ∀ h, Cl P f args h fun v h' => ∃ v' D, Fd h' v v' D ∧ Q v') : Ft P f args Q := fun n => c _
end
end Go.Proofs.YtpfpngmfooagiaaGreat.VM
namespace Go.Proofs.YtpfpngmfooagiaaGreat.VM
section
variable {α : Type} {R : α → List AV → Prop} {z : Nat} {h h' : Heap} {v : AV} {l : List α}
/-- elements of so many cells, told -/
structure Tr (R : α → List AV → Prop) (z : Nat) : Prop where
  len : ∀ a c, R a c → c.length = z
  one : ∀ a c, R a c → c.all AV.one = true
  told : ∀ a c, R a c → AV.tolds c = true
def RowT (R : α → List AV → Prop) (z : Nat) (h : Heap) (v : AV) (l : List α) : Prop := ∃ cs, Row h v z cs l.length ∧ Cat R l cs
theorem RowT.nil (h : Heap) : RowT R z h .nils [] := ⟨[], .nil _ _, .nil⟩
theorem RowT.len (r : RowT R z h v l) (hh : Heap) : lnV hh v = .val (.int .i64 l.length) hh := let ⟨_, r, _⟩ := r; r.len hh
theorem RowT.one (r : RowT R z h v l) : v.one = true := let ⟨_, r, _⟩ := r; r.one
theorem RowT.cells (r : RowT R z h v l) : v.cells = some [v] := by
  obtain ⟨cs, ⟨rfl, _⟩ | ⟨b, e, ver, rfl, _⟩, _⟩ := r <;> rfl
theorem RowT.lt (r : RowT R z h v l) : ∀ b ∈ blkOf v, b < h.next := let ⟨_, r, _⟩ := r; r.lt
theorem RowT.frame (r : RowT R z h v l) (hn : h.next ≤ h'.next) (hg : ∀ b ∈ blkOf v, h'.get b = h.get b) : RowT R z h' v l := let ⟨cs, r, c⟩ := r; ⟨cs, r.frame hn hg, c⟩
theorem RowT.ext (r : RowT R z h v l) (x : Ext h h') : RowT R z h' v l := let ⟨cs, r, c⟩ := r; ⟨cs, r.ext x, c⟩
/-- one more, in a new block -/
theorem RowT.push (tr : Tr R z) (r : RowT R z h v l) {a : α} {c : List AV} (ha : R a c) {nb eb vb : Nat} (hg : h.get nb = some (.cells c eb vb)) {bytes : Nat} (hb : (l.length + 1) * bytes ≤ most2) (e : TypeId) :
    ∃ h', appendV h z bytes e v (.sl nb 0 1 1 z) = some (.sl h.next 0 (l.length + 1) (l.length + 1) z, h') ∧ RowT R z h' (.sl h.next 0 (l.length + 1) (l.length + 1) z) (l ++ [a]) ∧ h'.next = h.next + 1 ∧ ∀ b, b ∉ blkOf v → b ≠ h.next → h'.get b = h.get b := by
  obtain ⟨cs, r, hc⟩ := r
  obtain ⟨h', e1, r', hn, k⟩ := r.push hg (tr.len _ _ ha) (tr.one _ _ ha) hb e
  refine ⟨h', e1, ⟨cs ++ c, by rw [List.length_append, List.length_singleton]; exact r', ?_⟩, hn, k⟩
  have := hc.append (Cat.cons ha .nil)
  rwa [List.append_nil] at this
/-- told as a whole -/
theorem RowT.fd (tr : Tr R z) (r : RowT R z h v l) {b : Nat} (hb : l.length * b ≤ reachBytes) : ∃ v' D, Fd h v v' D ∧ IsL b R v' l := by
  obtain ⟨cs, r, hc⟩ := r
  obtain ⟨v', f, h1⟩ := r.fd (Fds.tolds (hc.told tr.told))
  refine ⟨v', _, f, ?_⟩
  rcases h1 with ⟨rfl, h0⟩ | rfl
  · have : l = [] := List.eq_nil_of_length_eq_zero h0
    subst this
    exact isL_nil _ _
  · exact isL_rs hc hb
end
end Go.Proofs.YtpfpngmfooagiaaGreat.VM
namespace Go.Proofs.YtpfpngmfooagiaaGreat.VM
open Go.RowKit Go.Shelf Go.Lib
/-- the program holds slices.Insert at a slice type 'ρ.t 22' whose elements are of type e, three cells each -/
structure InsL (P : Program) (ρ : Ren) (e : TypeId) (by' : Nat) (z : Value) (zc : Array Value) (nm : String) (ta : Array TypeId) : Prop where
  mixed : P.follows .mixedOrders = true
  f21 : P.funcs[ρ.f 21]? = some { Body2.n21 ρ with name := nm, targs := ta }
  ov : ∀ (args : Array Value) (w : World), (callFunc (ρ.f 27) args).run P w = ((Extern.SlicesOverlaps.overlaps #[ρ.t 22, ρ.t 22] #[ρ.t 4] args).run P w).andThen fun v w' => .ok (.value v) w'
  t0 : P.underlying (ρ.t 0) = some (TypeDesc.tuple #[])
  a0 : ∀ w, (isAgg (ρ.t 0)).run P w = .ok false w
  z0 : ∀ w, (Go.sizeOf (ρ.t 0)).run P w = .ok 1 w
  v0 : ∀ w, (zeroValue (ρ.t 0)).run P w = .ok (Value.tuple #[]) w
  t3 : P.underlying (ρ.t 3) = some (TypeDesc.int IntKind.i64)
  a3 : ∀ w, (isAgg (ρ.t 3)).run P w = .ok false w
  z3 : ∀ w, (Go.sizeOf (ρ.t 3)).run P w = .ok 1 w
  v3 : ∀ w, (zeroValue (ρ.t 3)).run P w = .ok (Value.int IntKind.i64 0) w
  t4 : P.underlying (ρ.t 4) = some (TypeDesc.bool)
  a4 : ∀ w, (isAgg (ρ.t 4)).run P w = .ok false w
  z4 : ∀ w, (Go.sizeOf (ρ.t 4)).run P w = .ok 1 w
  v4 : ∀ w, (zeroValue (ρ.t 4)).run P w = .ok (Value.bool false) w
  t22 : P.underlying (ρ.t 22) = some (TypeDesc.slice e)
  a22 : ∀ w, (isAgg (ρ.t 22)).run P w = .ok false w
  z22 : ∀ w, (Go.sizeOf (ρ.t 22)).run P w = .ok 1 w
  v22 : ∀ w, (zeroValue (ρ.t 22)).run P w = .ok (Value.slice none 0 0) w
  ze : ∀ w, (Go.sizeOf e).run P w = .ok 3 w
  ie : (P.info? e).map (fun i => (i.zero, i.size, i.bytes)) = some (some z, 3, by')
  zcs : z.cells = zc
  zl : zc.size = 3
variable {P : Program} {ρ : Ren} {e : TypeId} {by' : Nat} {z : Value} {zc : Array Value} {nm : String} {ta : Array TypeId}
theorem run_copy_3 (w : World) (dT sT ty elem : TypeId) (b o dLen dCap : Nat) (a : Addr) (sLen sCap q : Nat) (cs : List Value)
    (hu : P.underlying dT = some (.slice elem)) (hs : (P.info? elem).map (·.size) = some 3) (hq : q = Nat.min sLen dLen) (hn : cs.length = q * 3)
    (hsrc : ∀ j v, cs[j]? = some v → w.cell? (a.add j) = some v) (hc : ∀ j, j < cs.length → (w.cell? ⟨b, o + j, none⟩).isSome = true) (hf : ∀ j, j < cs.length → w.frozen? ⟨b, o + j, none⟩ = false) (h1 : ∀ v ∈ cs, v.oneCell' = true) :
    (Builtin.copy_ #[dT, sT] ty #[.slice (some ⟨b, o, none⟩) dLen dCap, .slice (some a) sLen sCap]).run P w = .ok (goInt q) (w.setCells b o cs) := by
  have hl := run_loadCells_list (P := P) w a cs hsrc
  have hst := run_storeCells_cells (P := P) b o cs 0 w (by simpa using hc) (by simpa using hf) h1
  cases hq' : P.info? elem with
  | none => simp [hq'] at hs
  | some i =>
    have hi : i.size = 3 := by simpa [hq'] using hs
    rw [hn] at hl
    simp [Builtin.copy_, run_underlying hu, Builtin.lenOf, Builtin.firstCells, sizeOf, typeInfo, hq', hi, ← hq, hl, hst]
set_option maxHeartbeats 4000000 in
set_option maxRecDepth 100000 in
/-- THERE IS ROOM, i < len(s): in place. -/
theorem ins3_shift (L : InsL P ρ e by' z zc nm ta) (b off n c i vb voff m vc : Nat) (cs vs : List Value) (w : World) (hi : i < n) (hm : 0 < m) (hroom : n + m ≤ c) (hc63 : c ≤ 9223372036854775807) (hvb : vb ≠ b)
    (hcl : cs.length = n * 3) (hvl : vs.length = m * 3)
    (hcs : ∀ j v, cs[j]? = some v → w.cell? ⟨b, off + j, none⟩ = some v) (hsp : ∀ j, j < (n + m) * 3 → (w.cell? ⟨b, off + j, none⟩).isSome = true) (hfz : ∀ j, j < (n + m) * 3 → w.frozen? ⟨b, off + j, none⟩ = false)
    (hvs : ∀ j v, vs[j]? = some v → w.cell? ⟨vb, voff + j, none⟩ = some v) (h1c : ∀ v ∈ cs, v.oneCell' = true) (h1v : ∀ v ∈ vs, v.oneCell' = true)
    (tA tB : TypeId) (kA kB : Nat) (hsa : w.shape? vb = some (tA, kA)) (hsb : w.shape? b = some (tB, kB)) (hkB : kB ≠ 0) (hfa : w.frozen? ⟨vb, voff, none⟩ = false) (hfe : w.frozen? ⟨vb, kA, none⟩ = false) :
    Calls P (ρ.f 21) #[.slice (some ⟨b, off, none⟩) n c, .int .i64 i, .slice (some ⟨vb, voff, none⟩) m vc] w fun e w' =>
      e = .returned (.slice (some ⟨b, off, none⟩) (n + m) c) ∧ w' = (w.drew.setCells b (off + (i + m) * 3) (cs.drop (i * 3))).setCells b (off + i * 3) vs := by
  have t0 := L.t0; have a0 := L.a0; have z0 := L.z0; have v0 := L.v0; have t3 := L.t3; have a3 := L.a3; have z3 := L.z3; have v3 := L.v3; have t4 := L.t4; have a4 := L.a4; have z4 := L.z4; have v4 := L.v4; have t22 := L.t22; have a22 := L.a22; have z22 := L.z22; have v22 := L.v22; have ze := L.ze
  have u0 := run_underlying L.t0; have u3 := run_underlying L.t3; have u4 := run_underlying L.t4; have u22 := run_underlying L.t22
  have hz1 : ¬ ((m : Int) = 0) := by omega
  have hz2 : ¬ ((i : Int) = (n : Int)) := by omega
  have hsz : (P.info? e).map (·.size) = some 3 := by
    obtain ⟨i0, hi0, h0, h1, h2⟩ := info_parts L.ie
    rw [hi0]; simp [h1]
  have hov : ∀ lb cb, (callFunc (ρ.f 27) #[.slice (some ⟨vb, voff, none⟩) m vc, .slice (some ⟨b, off + (i + m) * 3, none⟩) lb cb]).run P w = .ok (.value (.bool false)) w := fun lb cb => by
    rw [L.ov, Lib.run_overlaps_apart w (ρ.t 22) (ρ.t 4) e L.t22 3 L.ze ⟨vb, voff, none⟩ ⟨b, off + (i + m) * 3, none⟩ m vc lb cb hvb tA tB kA kB hsa hsb hkB hfa hfe]
    rfl
  have hdl : (cs.drop (i * 3)).length = (n - i) * 3 := by rw [List.length_drop, hcl]; omega
  have mixed := L.mixed
  have hw1 : IntKind.i64.wrap ((i : Int) + (m : Int)) = (i : Int) + (m : Int) := by rw [IntKind.wrap_i64]; omega
  have hb1 : (0 : Int) ≤ (i : Int) + (m : Int) := by omega
  have hin : i ≤ n := by omega
  have htn : ((i : Int) + (m : Int)).toNat = i + m := by omega
  have hb2 : ¬ (c = i + m) := by omega
  have hb3 : (i : Int) ≤ (n : Int) + (m : Int) := by omega
  have hb4 : ¬ (c = i) := by omega
  have hcp1 : ∀ ty dc sc, (Builtin.copy_ #[(ρ.t 22), (ρ.t 22)] ty #[.slice (some ⟨b, off + (i + m) * 3, none⟩) (n + m - (i + m)) dc, .slice (some ⟨b, off + i * 3, none⟩) (n + m - i) sc]).run P w.drew = .ok (goInt (n - i : Nat)) (w.drew.setCells b (off + (i + m) * 3) (cs.drop (i * 3))) := fun ty dc sc =>
    run_copy_3 w.drew _ _ ty e b (off + (i + m) * 3) (n + m - (i + m)) dc ⟨b, off + i * 3, none⟩ (n + m - i) sc (n - i) (cs.drop (i * 3)) L.t22 hsz (by simp only [Nat.min_def]; split <;> omega) hdl
      (fun j v hj => by rw [Addr.add_lit, Nat.add_assoc]; exact hcs (i * 3 + j) v (by rwa [List.getElem?_drop] at hj))
      (fun j hj => by rw [Nat.add_assoc]; exact hsp _ (by omega)) (fun j hj => by rw [Nat.add_assoc]; exact hfz _ (by omega)) (fun v hv => h1c v (List.mem_of_mem_drop hv))
  obtain ⟨W1, hW1⟩ : ∃ W1, W1 = w.drew.setCells b (off + (i + m) * 3) (cs.drop (i * 3)) := ⟨_, rfl⟩
  have hsp1 : ∀ k, k < (n + m) * 3 → (W1.cell? ⟨b, off + k, none⟩).isSome = true := fun k hk => by
    rw [hW1]
    exact isSome_setCells b _ _ _ (fun j hj => by rw [Nat.add_assoc]; exact hsp _ (by omega)) _ (hsp k hk)
  have hcp2 : ∀ (W : World), (∀ x, W.cell? x = W1.cell? x) → (∀ x, W.frozen? x = W1.frozen? x) → ∀ ty dc, (Builtin.copy_ #[(ρ.t 22), (ρ.t 22)] ty #[.slice (some ⟨b, off + i * 3, none⟩) (n + m - i) dc, .slice (some ⟨vb, voff, none⟩) m vc]).run P W = .ok (goInt m) (W.setCells b (off + i * 3) vs) := fun W hWc hWf ty dc =>
    run_copy_3 W _ _ ty e b (off + i * 3) (n + m - i) dc ⟨vb, voff, none⟩ m vc m vs L.t22 hsz (by simp only [Nat.min_def]; split <;> omega) hvl
      (fun j v hj => by
        rw [Addr.add_lit, hWc, hW1, World.cell?_setCells_out b _ _ _ _ (fun h _ => absurd h hvb)]
        exact hvs j v hj)
      (fun j hj => by rw [hWc, Nat.add_assoc]; exact hsp1 _ (by omega)) (fun j hj => by rw [hWf, hW1, World.frozen?_setCells, Nat.add_assoc]; exact hfz _ (by omega)) h1v
  rw [← hW1] at hcp1
  go_enter L.f21, Body2.n21_ntmps ρ
  go_wp2_with (simp only [hov])
  go_region_law_o (refine step_copy_runI rfl _ _ (ρ.t 22) (ρ.t 22) rfl _ _ (by simp [Act.eval, Act.put]) (by simp [Act.eval, Act.put]) (hcp1 _ _ _) ?_)
  go_wp2_with (at_builtin; refine wpList_copy_runI _ rfl _ _ (ρ.t 22) (ρ.t 22) rfl _ _ rfl rfl (hcp2 _ (fun _ => rfl) (fun _ => rfl) _ _) ?_)
  go_ret
  first | exact ⟨rfl, rfl⟩ | exact ⟨rfl, by rw [hW1]⟩
set_option maxHeartbeats 4000000 in
set_option maxRecDepth 100000 in
/-- AT THE END, THERE IS ROOM. -/
theorem ins3_end_room (L : InsL P ρ e by' z zc nm ta) (b off n c vb voff m vc : Nat) (vs : List Value) (w : World) (hm : 0 < m) (hroom : n + m ≤ c) (hc63 : c ≤ 9223372036854775807)
    (hvl : vs.length = m * 3) (hsp : ∀ j, j < m * 3 → (w.cell? ⟨b, off + n * 3 + j, none⟩).isSome = true) (hfz : ∀ j, j < m * 3 → w.frozen? ⟨b, off + n * 3 + j, none⟩ = false)
    (hvs : ∀ j v, vs[j]? = some v → w.cell? ⟨vb, voff + j, none⟩ = some v) (h1v : ∀ v ∈ vs, v.oneCell' = true) :
    Calls P (ρ.f 21) #[.slice (some ⟨b, off, none⟩) n c, .int .i64 n, .slice (some ⟨vb, voff, none⟩) m vc] w fun e w' =>
      e = .returned (.slice (some ⟨b, off, none⟩) (n + m) c) ∧ w' = w.setCells b (off + n * 3) vs := by
  have t0 := L.t0; have a0 := L.a0; have z0 := L.z0; have v0 := L.v0; have t3 := L.t3; have a3 := L.a3; have z3 := L.z3; have v3 := L.v3; have t4 := L.t4; have a4 := L.a4; have z4 := L.z4; have v4 := L.v4; have t22 := L.t22; have a22 := L.a22; have z22 := L.z22; have v22 := L.v22; have ze := L.ze
  have u0 := run_underlying L.t0; have u3 := run_underlying L.t3; have u4 := run_underlying L.t4; have u22 := run_underlying L.t22
  have mixed := L.mixed
  have hz1 : ¬ ((m : Int) = 0) := by omega
  obtain ⟨i0, hi0, hz0, hzs, hzb⟩ := info_parts L.ie
  have hsrc : Src P i0.size (ρ.t 22) (.slice (some ⟨vb, voff, none⟩) m vc) m vs w := by
    rw [hzs]
    exact Src.ofSlice w L.t22 ⟨vb, voff, none⟩ m vc vs hvl (fun j u hj => by rw [Addr.add_lit]; exact hvs j u hj) h1v
  have hrun : ∀ ty, (Builtin.append_ #[(ρ.t 22), (ρ.t 22)] ty #[.slice (some ⟨b, off, none⟩) n c, .slice (some ⟨vb, voff, none⟩) m vc]).run P w = .ok (.slice (some ⟨b, off, none⟩) (n + m) c) (w.setCells b (off + n * 3) vs) := fun ty => by
    have h := run_append_room_src w (ρ.t 22) (ρ.t 22) ty e i0 L.t22 hi0 b off n c _ m vs hsrc hroom (by rw [hzs, hvl]; exact hsp) (by rw [hzs, hvl]; exact hfz)
    rw [hzs] at h
    exact h
  go_enter L.f21, Body2.n21_ntmps ρ
  go_wp2_with (at_builtin; refine Lib.wpList_append_run _ rfl _ _ _ _ rfl _ _ rfl rfl _ _ (hrun _) ?_)
  go_ret
  exact ⟨rfl, rfl⟩
set_option maxHeartbeats 4000000 in
set_option maxRecDepth 100000 in
/-- AT THE END, NO ROOM (the nil slice among these): a new row. -/
theorem ins3_end_grow (L : InsL P ρ e by' z zc nm ta) (base : Option Addr) (n c vb voff m vc : Nat) (cs vs : List Value) (w : World) (hm : 0 < m) (hnc : n ≤ c) (hroom : c < n + m) (hbig : (n + m + (n + m) / 4 + 192) * by' ≤ 281474976710656)
    (hn63 : n + m ≤ 9223372036854775807) (hcl : cs.length = n * 3) (hvl : vs.length = m * 3) (hnil : base = none → n = 0)
    (hcs : ∀ a, base = some a → ∀ j v, cs[j]? = some v → w.cell? (a.add j) = some v)
    (hvs : ∀ j v, vs[j]? = some v → w.cell? ⟨vb, voff + j, none⟩ = some v) (h1v : ∀ v ∈ vs, v.oneCell' = true) :
    Calls P (ρ.f 21) #[.slice base n c, .int .i64 n, .slice (some ⟨vb, voff, none⟩) m vc] w fun ex w' =>
      ex = .returned (.slice (some ⟨w.heap.size, 0, none⟩) (n + m) (grownCap w (n + m) c e)) ∧
      w' = w.drew.alloc (.cells ((cs ++ vs).toArray ++ Builtin.zeroCells zc (grownCap w (n + m) c e - (n + m))) e) := by
  have t0 := L.t0; have a0 := L.a0; have z0 := L.z0; have v0 := L.v0; have t3 := L.t3; have a3 := L.a3; have z3 := L.z3; have v3 := L.v3; have t4 := L.t4; have a4 := L.a4; have z4 := L.z4; have v4 := L.v4; have t22 := L.t22; have a22 := L.a22; have z22 := L.z22; have v22 := L.v22; have ze := L.ze
  have u0 := run_underlying L.t0; have u3 := run_underlying L.t3; have u4 := run_underlying L.t4; have u22 := run_underlying L.t22
  have mixed := L.mixed
  obtain ⟨i0, hi0, hz0, hzs, hzb⟩ := info_parts L.ie
  have hz1 : ¬ ((m : Int) = 0) := by omega
  have hsrc : Src P i0.size (ρ.t 22) (.slice (some ⟨vb, voff, none⟩) m vc) m vs w := by
    rw [hzs]
    exact Src.ofSlice w L.t22 ⟨vb, voff, none⟩ m vc vs hvl (fun j u hj => by rw [Addr.add_lit]; exact hvs j u hj) h1v
  have hold : (Builtin.firstCells i0.size n (.slice base n c)).run P w.drew = .ok cs.toArray w.drew := by
    rw [hzs]
    cases base with
    | none =>
      have h0 := hnil rfl
      subst h0
      rw [List.length_eq_zero_iff.1 (hcl.trans (Nat.zero_mul _))]
      exact run_firstCells_none w.drew 3 0 0 c
    | some a => exact run_firstCells_some w.drew 3 n a n c cs (by omega) (fun j v hj => hcs a rfl j v hj)
  have hrun : ∀ ty, (Builtin.append_ #[(ρ.t 22), (ρ.t 22)] ty #[.slice base n c, .slice (some ⟨vb, voff, none⟩) m vc]).run P w = .ok (.slice (some ⟨w.heap.size, 0, none⟩) (n + m) (grownCap w (n + m) c e)) (w.drew.alloc (.cells ((cs ++ vs).toArray ++ Builtin.zeroCells zc (grownCap w (n + m) c e - (n + m))) e)) := fun ty => by
    have h := run_append_grow_src w (ρ.t 22) (ρ.t 22) ty e i0 _ L.t22 hi0 hz0 base n c cs hold _ m vs hsrc hroom (by omega) (by rw [hzb]; exact growslice_fits_wide hroom hbig)
    rw [L.zcs] at h
    simpa using h
  go_enter L.f21, Body2.n21_ntmps ρ
  cases base with
  | none =>
    have h0 := hnil rfl
    subst h0
    go_wp2_with (at_builtin; refine Lib.wpList_append_run _ rfl _ _ _ _ rfl _ _ rfl rfl _ _ (hrun _) ?_)
    go_ret
    exact ⟨rfl, rfl⟩
  | some a =>
    obtain ⟨ab, ao, asp⟩ := a
    go_wp2_with (at_builtin; refine Lib.wpList_append_run _ rfl _ _ _ _ rfl _ _ rfl rfl _ _ (hrun _) ?_)
    all_goals (go_ret; exact ⟨rfl, rfl⟩)
set_option maxHeartbeats 4000000 in
set_option maxRecDepth 100000 in
/-- i < len(s), NO ROOM: a new row; s's own cells are as they were. -/
theorem ins3_grow (L : InsL P ρ e by' z zc nm ta) (b off n c i vb voff m vc : Nat) (cs vs : List Value) (w : World) (hi : i < n) (hm : 0 < m) (hnc : n ≤ c) (hroom : c < n + m) (hbig : (n + m + (n + m) / 4 + 192) * by' ≤ 281474976710656) (hby : 0 < by')
    (hcl : cs.length = n * 3) (hvl : vs.length = m * 3)
    (hcs : ∀ j v, cs[j]? = some v → w.cell? ⟨b, off + j, none⟩ = some v)
    (hvs : ∀ j v, vs[j]? = some v → w.cell? ⟨vb, voff + j, none⟩ = some v) (h1c : ∀ v ∈ cs, v.oneCell' = true) (h1v : ∀ v ∈ vs, v.oneCell' = true) :
    Calls P (ρ.f 21) #[.slice (some ⟨b, off, none⟩) n c, .int .i64 i, .slice (some ⟨vb, voff, none⟩) m vc] w fun ex w' =>
      ex = .returned (.slice (some ⟨w.heap.size, 0, none⟩) (n + m) (grownCap w (n + m) c e)) ∧
      w' = (((w.alloc (.cells ((cs.take (i * 3)).toArray ++ Builtin.zeroCells zc (n + m - i) ++ Builtin.zeroCells zc (grownCap w (n + m) c e - (n + m))) e)).drew.setCells w.heap.size (i * 3) vs).drew).setCells w.heap.size ((i + m) * 3) (cs.drop (i * 3)) := by
  have t0 := L.t0; have a0 := L.a0; have z0 := L.z0; have v0 := L.v0; have t3 := L.t3; have a3 := L.a3; have z3 := L.z3; have v3 := L.v3; have t4 := L.t4; have a4 := L.a4; have z4 := L.z4; have v4 := L.v4; have t22 := L.t22; have a22 := L.a22; have z22 := L.z22; have v22 := L.v22; have ze := L.ze
  have u0 := run_underlying L.t0; have u3 := run_underlying L.t3; have u4 := run_underlying L.t4; have u22 := run_underlying L.t22
  have mixed := L.mixed
  obtain ⟨i0, hi0, hz0, hzs, hzb⟩ := info_parts L.ie
  have hnb : n + m ≤ 281474976710656 := by have := Nat.le_trans (Nat.le_mul_of_pos_right _ hby) hbig; omega
  have hmb : (n + m - i) * by' ≤ 281474976710656 := Nat.le_trans (Nat.mul_le_mul_right _ (by omega)) hbig
  have hz1 : ¬ ((m : Int) = 0) := by omega
  have hz2 : ¬ ((i : Int) = (n : Int)) := by omega
  have hz3 : (c : Int) < (n : Int) + (m : Int) := by omega
  have hsz : (P.info? e).map (·.size) = some 3 := by rw [hi0]; simp [hzs]
  have hbw : b < w.heap.size := block_lt_of_cell (hcs 0 _ (List.getElem?_eq_getElem (by omega)))
  have hvw : vb < w.heap.size := block_lt_of_cell (hvs 0 _ (List.getElem?_eq_getElem (by omega)))
  have hkk : (n : Int) + (m : Int) - (i : Int) = ((n + m - i : Nat) : Int) := by omega
  have hik : i + (n + m - i) = n + m := by omega
  have hold : (Builtin.firstCells i0.size i (.slice (some ⟨b, off, none⟩) i c)).run P w.drew = .ok (cs.take (i * 3)).toArray w.drew := by
    rw [hzs]
    exact run_firstCells_some w.drew 3 i ⟨b, off, none⟩ i c (cs.take (i * 3)) (by rw [List.length_take]; omega) (fun j v hj => by
      rw [Addr.add_lit]
      rw [List.getElem?_take] at hj
      split at hj
      · exact hcs j v hj
      · cases hj)
  have hrz : ∀ ty, (Builtin.append_ #[(ρ.t 22), (ρ.t 3)] ty #[.slice (some ⟨b, off, none⟩) i c, .int .i64 ((n : Int) + (m : Int) - (i : Int))]).run P w =
      .ok (.slice (some ⟨w.heap.size, 0, none⟩) (n + m) (grownCap w (n + m) c e)) (w.drew.alloc (.cells ((cs.take (i * 3)).toArray ++ Builtin.zeroCells zc (n + m - i) ++ Builtin.zeroCells zc (grownCap w (n + m) c e - (n + m))) e)) := fun ty => by
    have h := Lib.run_append_grow_zeros w (ρ.t 22) (ρ.t 3) ty e i0 _ .i64 .i64 L.t22 L.t3 hi0 hz0 (some ⟨b, off, none⟩) i c (cs.take (i * 3)) hold (n + m - i) (by omega) (by omega) (by omega) (by omega) (by rw [hzb]; omega) (by rw [hzb, hik]; exact growslice_fits_wide hroom hbig)
    rw [hik, L.zcs] at h
    rw [hkk]
    exact h
  obtain ⟨G, hG⟩ : ∃ G, G = grownCap w (n + m) c e := ⟨_, rfl⟩
  obtain ⟨ROW, hROW⟩ : ∃ ROW : Array Value, ROW = (cs.take (i * 3)).toArray ++ Builtin.zeroCells zc (n + m - i) ++ Builtin.zeroCells zc (G - (n + m)) := ⟨_, rfl⟩
  rw [← hG] at hrz ⊢
  rw [← hROW] at hrz ⊢
  have hRl : (n + m) * 3 ≤ ROW.size := by
    rw [hROW]
    simp [Builtin.zeroCells, L.zl]
    omega
  obtain ⟨W1, hW1⟩ : ∃ W1, W1 = w.drew.alloc (.cells ROW e) := ⟨_, rfl⟩
  rw [← hW1] at hrz
  have hN : ∀ j, j < (n + m) * 3 → (W1.cell? ⟨w.heap.size, j, none⟩).isSome = true := fun j hj => by
    rw [hW1, World.cell?_alloc_at (w := w.drew) ROW _ w.heap.size j rfl, Array.getElem?_eq_getElem (by omega)]; rfl
  have hNf : ∀ j, W1.frozen? ⟨w.heap.size, j, none⟩ = false := fun j => by rw [hW1]; exact World.frozen?_alloc_at (w := w.drew) ROW _ w.heap.size j rfl
  have hOb : ∀ j v, w.cell? ⟨b, j, none⟩ = some v → W1.cell? ⟨b, j, none⟩ = some v := fun j v h => by rw [hW1, World.cell?_alloc_past (w := w.drew) _ b j hbw]; exact h
  have hOv : ∀ j v, w.cell? ⟨vb, j, none⟩ = some v → W1.cell? ⟨vb, j, none⟩ = some v := fun j v h => by rw [hW1, World.cell?_alloc_past (w := w.drew) _ vb j hvw]; exact h
  have hcpA : ∀ (W : World), (∀ x, W.cell? x = W1.cell? x) → (∀ x, W.frozen? x = W1.frozen? x) → ∀ ty dc, (Builtin.copy_ #[(ρ.t 22), (ρ.t 22)] ty #[.slice (some ⟨w.heap.size, i * 3, none⟩) (n + m - i) dc, .slice (some ⟨vb, voff, none⟩) m vc]).run P W = .ok (goInt m) (W.setCells w.heap.size (i * 3) vs) := fun W hWc hWf ty dc =>
    run_copy_3 W _ _ ty e w.heap.size (i * 3) (n + m - i) dc ⟨vb, voff, none⟩ m vc m vs L.t22 hsz (by simp only [Nat.min_def]; split <;> omega) hvl
      (fun j v hj => by rw [Addr.add_lit, hWc]; exact hOv _ v (hvs j v hj))
      (fun j hj => by rw [hWc]; exact hN _ (by omega)) (fun j hj => by rw [hWf]; exact hNf _) h1v
  have hGn : n + m ≤ G := by rw [hG]; exact grownCap_ge w _ _ _
  have hG63 : G ≤ 9223372036854775807 := by
    have := grownCap_le_maxLen w (n + m) c e (by unfold maxLen; omega)
    rw [← hG] at this
    unfold maxLen at this
    omega
  have hGi : ¬ (G = i) := by omega
  have hGim : ¬ (G = i + m) := by omega
  have hci : ¬ (c = i) := by omega
  have hbN : b ≠ w.heap.size := by omega
  have hdl : (cs.drop (i * 3)).length = (n - i) * 3 := by rw [List.length_drop, hcl]; omega
  have hcpB : ∀ (W : World), (∀ x, W.cell? x = (W1.setCells w.heap.size (i * 3) vs).cell? x) → (∀ x, W.frozen? x = (W1.setCells w.heap.size (i * 3) vs).frozen? x) → ∀ ty dc sc, (Builtin.copy_ #[(ρ.t 22), (ρ.t 22)] ty #[.slice (some ⟨w.heap.size, (i + m) * 3, none⟩) (n + m - (i + m)) dc, .slice (some ⟨b, off + i * 3, none⟩) (n - i) sc]).run P W = .ok (goInt (n - i : Nat)) (W.setCells w.heap.size ((i + m) * 3) (cs.drop (i * 3))) := fun W hWc hWf ty dc sc =>
    run_copy_3 W _ _ ty e w.heap.size ((i + m) * 3) (n + m - (i + m)) dc ⟨b, off + i * 3, none⟩ (n - i) sc (n - i) (cs.drop (i * 3)) L.t22 hsz (by simp only [Nat.min_def]; split <;> omega) hdl
      (fun j v hj => by
        rw [Addr.add_lit, hWc, World.cell?_setCells_out _ _ _ _ _ (fun h _ => absurd h hbN), Nat.add_assoc]
        exact hOb _ v (hcs (i * 3 + j) v (by rwa [List.getElem?_drop] at hj)))
      (fun j hj => by rw [hWc]; exact isSome_setCells _ _ _ _ (fun t ht => hN _ (by omega)) _ (hN _ (by omega)))
      (fun j hj => by rw [hWf, World.frozen?_setCells]; exact hNf _) (fun v hv => h1c v (List.mem_of_mem_drop hv))
  subst hW1
  have hE1 : ∀ x, ((w.alloc (.cells ROW e)).drew).cell? x = (w.drew.alloc (.cells ROW e)).cell? x := fun x => rfl
  have hE2 : ∀ x, ((w.alloc (.cells ROW e)).drew).frozen? x = (w.drew.alloc (.cells ROW e)).frozen? x := fun x => rfl
  have hF1 : ∀ x, (((w.alloc (.cells ROW e)).drew.setCells w.heap.size (i * 3) vs).drew).cell? x = ((w.drew.alloc (.cells ROW e)).setCells w.heap.size (i * 3) vs).cell? x := fun x => rfl
  have hF2 : ∀ x, (((w.alloc (.cells ROW e)).drew.setCells w.heap.size (i * 3) vs).drew).frozen? x = ((w.drew.alloc (.cells ROW e)).setCells w.heap.size (i * 3) vs).frozen? x := fun x => rfl
  have hw1 : IntKind.i64.wrap ((i : Int) + (m : Int)) = (i : Int) + (m : Int) := by rw [IntKind.wrap_i64]; omega
  have hb1 : (0 : Int) ≤ (i : Int) + (m : Int) := by omega
  have hin : i ≤ n := by omega
  have htn : ((i : Int) + (m : Int)).toNat = i + m := by omega
  have hb3 : (i : Int) ≤ (n : Int) := by omega
  clear hkk hik hold hROW hG hRl
  go_enter L.f21, Body2.n21_ntmps ρ
  go_wp2_with (first
    | (at_builtin; refine Lib.wpList_append_run _ rfl _ _ _ _ rfl _ _ rfl rfl _ _ (hrz _) ?_)
    | (at_builtin; refine wpList_copy_runI _ rfl _ _ (ρ.t 22) (ρ.t 22) rfl _ _ rfl rfl (hcpA _ hE1 hE2 _ _) ?_)
    | (at_builtin; refine wpList_copy_runI _ rfl _ _ (ρ.t 22) (ρ.t 22) rfl _ _ rfl rfl (hcpB _ (fun _ => rfl) (fun _ => rfl) _ _ _) ?_))
  go_region_law_o (refine step_copy_runI rfl _ _ (ρ.t 22) (ρ.t 22) rfl (.slice (some ⟨w.heap.size, (i + m) * 3, none⟩) (n + m - (i + m)) (G - (i + m))) (.slice (some ⟨b, off + i * 3, none⟩) (n - i) (c - i)) (by simp [Act.eval, Act.put]) (by simp [Act.eval, Act.put]) (hcpB _ hF1 hF2 (ρ.t 3) (G - (i + m)) (c - i)) ?_)
  go_wp2
  go_ret
  exact ⟨rfl, rfl⟩
end Go.Proofs.YtpfpngmfooagiaaGreat.VM
namespace Go.Proofs.YtpfpngmfooagiaaGreat.VM
open Go.RowKit Go.Shelf
section
variable {P : Program} {φ φ' : Env} {w w' : World} {H H1 H2 : Heap}
theorem zc_flat {zc : Array Value} (hz : zc.size = 3) (k : Nat) : Builtin.zeroCells zc k = (List.replicate k zc.toList).flatten.toArray := by
  apply Array.ext'
  have := zeros_list k zc.toList (by simp [hz])
  simp only [Builtin.zeroCells, List.toList_toArray]
  rw [← this, Array.toList_map, Array.toList_range, show zc.toList.length = zc.size by simp]
  apply List.map_congr_left
  intro j _
  rw [getBang zc j (by omega)]
  simp
theorem flat_len3 {α : Type} {l : List α} {n : Nat} (h : l.length = 3) : (List.replicate n l).flatten.length = n * 3 := by simp [h]
theorem list_a {α : Type} {cs x : List α} {i : Nat} (hx : x.length = 3) (hi : i * 3 + 3 ≤ cs.length) : (cs.take (i * 3 + 3) ++ cs.drop (i * 3)).take (i * 3) ++ x ++ (cs.take (i * 3 + 3) ++ cs.drop (i * 3)).drop (i * 3 + x.length) = cs.take (i * 3) ++ x ++ cs.drop (i * 3) := by
  have h1 : (cs.take (i * 3 + 3)).length = i * 3 + 3 := by rw [List.length_take]; omega
  rw [hx, List.take_append_of_le_length (by omega), List.take_take, Nat.min_eq_left (by omega), List.drop_left' h1]
theorem list_b {α : Type} {cs zs x : List α} {i : Nat} (hx : x.length = 3) (hi : i * 3 ≤ cs.length) (hz : zs.length = cs.length + 3 - i * 3) : ((cs.take (i * 3) ++ zs).take (i * 3) ++ x ++ (cs.take (i * 3) ++ zs).drop (i * 3 + x.length)).take ((i + 1) * 3) ++ cs.drop (i * 3) ++ ((cs.take (i * 3) ++ zs).take (i * 3) ++ x ++ (cs.take (i * 3) ++ zs).drop (i * 3 + x.length)).drop ((i + 1) * 3 + (cs.drop (i * 3)).length) = cs.take (i * 3) ++ x ++ cs.drop (i * 3) := by
  have h1 : (cs.take (i * 3)).length = i * 3 := by rw [List.length_take]; omega
  have h2 : (cs.take (i * 3) ++ zs).take (i * 3) = cs.take (i * 3) := List.take_left' h1
  rw [h2]
  have h3 : (cs.take (i * 3) ++ x).length = (i + 1) * 3 := by rw [List.length_append, h1, hx]; omega
  rw [List.take_left' h3]
  have h4 : (cs.take (i * 3) ++ x ++ (cs.take (i * 3) ++ zs).drop (i * 3 + x.length)).drop ((i + 1) * 3 + (cs.drop (i * 3)).length) = [] := by
    apply List.drop_of_length_le
    simp only [List.length_append, List.length_drop, h1, hz, hx]
    omega
  rw [h4, List.append_nil]
theorem insert3_ok {ρ : Ren} {e3 : TypeId} {by' : Nat} {z : Value} {zc : Array Value} {nm : String} {ta : Array TypeId} (L : InsL P ρ e3 by' z zc nm ta) (hly : ρ.f 21 < YB) (hnm : nm ≠ "runtime.NumGoroutine") (hb8 : 0 < by') {zl : List AV} (hzl : ∀ (φ : Env) (w : World), VRs φ w zl zc.toList)
    {b n cap i vb : Nat} {C : List AV} {e e2 ver ver2 : Nat} {x : List AV} (hg : H.get b = some (.cells C e ver)) (hl : n * 3 ≤ C.length) (ho : C.all AV.one = true) (hxl : x.length = 3) (hx : x.all AV.one = true) (hi : i ≤ n) (hgv : H.get vb = some (.cells x e2 ver2)) (hne : vb ≠ b) (hbig : (n + 1 + (n + 1) / 4 + 192) * by' ≤ 281474976710656) :
    OK P (ρ.f 21) [.sl b 0 n cap 3, .int .i64 i, .sl vb 0 1 1 3] H (.sl H.next 0 (n + 1) (n + 1) 3) ((H.put b .dead).mk' H.next (.cells ((C.take (n * 3)).take (i * 3) ++ x ++ (C.take (n * 3)).drop (i * 3)) e3 0)) := by
  refine .inl ⟨hly, ⟨_, L.f21, rfl, fun e => hnm e⟩, fun φ w us hr hus => ?_⟩
  obtain ⟨B, o, e', N, q1, q2, q3', q4, q5⟩ := hr.cells hg
  obtain ⟨B2, o2, e2', N2, p1, p2, p3, p4, p5⟩ := hr.cells hgv
  have hBB : B2 ≠ B := fun e => hne (hr.inj vb b _ _ (by rw [hgv]; rfl) (by rw [hg]; rfl) p1 q1 e)
  have hzsz := L.zl
  have q3 := q3'.take (n * 3)
  have ho' : (C.take (n * 3)).all AV.one = true := List.all_eq_true.2 fun y hy => List.all_eq_true.1 ho y (List.mem_of_mem_take hy)
  have cl : (C.take (n * 3)).length = n * 3 := by rw [List.length_take]; omega
  have qn : o + n * 3 ≤ N := by omega
  clear ho hl q3'
  generalize hcs' : C.take (n * 3) = cs at *
  cases us with | mk us =>
  simp only at hus
  cases hus with | cons h1 t => cases t with | cons h2 t => cases t with | cons h3 t =>
  cases t
  cases h2
  obtain ⟨vs, v1, v2⟩ := p3.vals
  obtain ⟨us, u1, u2⟩ := q3.vals
  have vl : vs.length = 1 * 3 := by rw [← v1.length]; exact hxl
  have ul : us.length = n * 3 := by rw [← u1.length]; exact cl
  have oc := u1.one ho'
  have ov := v1.one hx
  have hnx := hr.next H.next (Nat.le_refl _)
  have hlive : ∃ y, H.get b = some y := ⟨_, hg⟩
  have hsm : n + 1 ≤ 281474976710656 := by have := Nat.le_trans (Nat.le_mul_of_pos_right _ hb8) hbig; omega
  cases h3 with
  | sl hb3 hc3 hl3 hs3 hr3 =>
    rename_i vB vo vc vN vE
    rw [p1] at hb3
    cases hb3
    rw [p2] at hs3
    cases hs3
    simp only [Nat.add_zero] at *
    have hnext : (H.put b .dead).next = H.next := rfl
    have hk : ∀ c, c ≠ b → (H.put b .dead).get c = H.get c := fun c hc => by rw [Heap.get_put, if_neg hc]
    have hbn : b ≠ H.next := fun e => by rw [e, hnx] at hg; cases hg
    have hnx2 : (H.put b .dead).get H.next = none := by rw [hk _ (Ne.symm hbn)]; exact hnx
    have hz0 : ∀ k, Builtin.zeroCells zc k = (List.replicate k zc.toList).flatten.toArray := zc_flat hzsz
    have hzf : ∀ k, (List.replicate k zc.toList).flatten.length = k * 3 := fun k => flat_len3 (by simpa using hzsz)
    have zl3 : zl.length = 3 := by rw [(hzl φ w).length]; simpa using hzsz
    have endgrow : ∀ (base : Option Addr) (c : Nat), i = n → n ≤ c → c < n + 1 → (base = none → n = 0) → (∀ a, base = some a → ∀ j v, us[j]? = some v → w.cell? (a.add j) = some v) →
        Calls P (ρ.f 21) #[.slice base n c, .int .i64 (i : Int), .slice (some ⟨B2, o2, none⟩) 1 vc] w (fun e w' => ∃ φ' u, e = .returned u ∧ VR φ' w' (.sl H.next 0 (n + 1) (n + 1) 3) u ∧ HR φ' w' ((H.put b .dead).mk' H.next (.cells (cs.take (i * 3) ++ x ++ cs.drop (i * 3)) e3 0)) ∧ UpdH φ w H φ' w' ((H.put b .dead).mk' H.next (.cells (cs.take (i * 3) ++ x ++ cs.drop (i * 3)) e3 0))) := by
      intro base c hin h1 h2 h3 h4
      subst hin
      have C := ins3_end_grow L base i c B2 o2 1 vc us vs w (by decide) h1 h2 hbig (by omega) ul vl h3 h4 v2 ov
      have hs := (hr_drew hr)
      have hk1 := kill_ok hs hlive
      have hφ : φ H.next = none := by have := hr.blk H.next; rw [hnx] at this; exact this
      have hl' : VRs φ w.drew (cs.take (i * 3) ++ x ++ cs.drop (i * 3)) (us ++ vs) := by
        rw [List.take_of_length_le (by omega), List.drop_of_length_le (by omega), List.append_nil]
        exact (u1.upd upd_drew).append (v1.upd upd_drew)
      have ea : (us ++ vs).toArray ++ Builtin.zeroCells zc (grownCap w (i + 1) c e3 - (i + 1)) = (us ++ vs ++ (Builtin.zeroCells zc (grownCap w (i + 1) c e3 - (i + 1))).toList).toArray := by simp
      rw [ea] at C
      have hcap : i + 1 ≤ grownCap w (i + 1) c e3 := grownCap_ge _ _ _ _
      refine Calls.ret C ?_ (hr_alloc hk1 hnx2 (br_new' (w := w.drew) hl' hφ e3 e3 0)) (((updH_drew H).trans (updH_kill hlive)).trans (updH_alloc hk1 hnx2 _ _))
      refine .sl (o := 0) (at_self _ _) hcap (Nat.le_refl _) (shape_new _ _) ⟨?_, ?_⟩
      · rw [hz0]
        simp only [List.toList_toArray, List.size_toArray, List.length_append, ul, vl, hzf]
        omega
      · have := grownCap_le_maxLen w (i + 1) c e3 (by unfold maxLen; omega)
        unfold maxLen at this; omega
    cases h1 with
    | sl hb1 hc1 hl1 hs1 hr1 =>
      rename_i oB oo c oN oE
      rw [q1] at hb1
      cases hb1
      rw [q2] at hs1
      cases hs1
      have hcs : ∀ j v, us[j]? = some v → w.cell? ⟨B, o + j, none⟩ = some v := u2
      have hcell : ∀ j, j < N → (w.cell? ⟨B, j, none⟩).isSome = true := fun j hj => cell_some q2 hj
      by_cases hroom : n + 1 ≤ c
      · by_cases hin : i = n
        · subst hin
          have C := ins3_end_room L B o i c B2 o2 1 vc vs w (by decide) hroom hr1.2 vl (fun j hj => hcell _ (by omega)) (fun j hj => q4 _ (by omega)) v2 ov
          obtain ⟨r1, r2⟩ := regrow (e0 := e') (o := o) (off := 0) hr hg q1 q2 (old := cs) (new := x) (us := vs) (at_ := o + i * 3) q3 (by omega) v1 (by omega) e3
          rw [show cs.take (i * 3) ++ x ++ cs.drop (i * 3) = cs ++ x by rw [List.take_of_length_le (by omega), List.drop_of_length_le (by omega), List.append_nil]]
          refine Calls.ret C ?_ r1 r2
          exact VR.sl (o := o) (off := 0) (at_self _ _) hroom (Nat.le_refl _) (r2.shape _ _ q2) ⟨by omega, hr1.2⟩
        · have hlt : i < n := by omega
          have C := ins3_shift L B o n c i B2 o2 1 vc us vs w hlt (by decide) hroom hr1.2 hBB ul vl hcs (fun j hj => hcell _ (by omega)) (fun j hj => q4 _ (by omega)) v2 oc ov _ _ _ _ p2 q2 (by omega) (p4 _ (by omega)) (p4 _ (Nat.le_refl _))
          have hrd := hr_drew hr
          obtain ⟨r1, r2⟩ := regrow (e0 := e') (o := o) (off := 0) hrd hg q1 ((upd_drew (φ := φ) (w := w)).shape _ _ q2) (old := cs.take (i * 3 + 3)) (new := cs.drop (i * 3)) (us := us.drop (i * 3)) (at_ := o + (i + 1) * 3) ((q3.upd upd_drew rfl).take (i * 3 + 3)) (by rw [List.length_take]; omega) ((u1.upd upd_drew).drop (i * 3)) (by rw [List.length_drop]; omega) e3
          have u2' := (updH_drew H).trans r2
          have g1 : ((H.put b .dead).mk' H.next (.cells (cs.take (i * 3 + 3) ++ cs.drop (i * 3)) e3 0)).get H.next = some (.cells (cs.take (i * 3 + 3) ++ cs.drop (i * 3)) e3 0) := by rw [Heap.get_mk, if_pos rfl]
          have ll : (cs.take (i * 3 + 3) ++ cs.drop (i * 3)).length = (n + 1) * 3 := by rw [List.length_append, List.length_take, List.length_drop]; omega
          have hw : writeAt ((H.put b .dead).mk' H.next (.cells (cs.take (i * 3 + 3) ++ cs.drop (i * 3)) e3 0)) H.next (i * 3) x = some (((H.put b .dead).mk' H.next (.cells (cs.take (i * 3 + 3) ++ cs.drop (i * 3)) e3 0)).put H.next (.cells (cs.take (i * 3) ++ x ++ cs.drop (i * 3)) e3 1)) := by
            rw [writeAt_go, g1, wrB_some, if_pos ⟨by omega, hx⟩, list_a hxl (by omega)]
          obtain ⟨w1, _, _⟩ := hr_write r1 (at_self _ _) hw (v1.upd u2'.toUpd)
          have uw := updH_write (w := w.drew.setCells B (o + (i + 1) * 3) (us.drop (i * 3))) (at_ := o + i * 3) (us := vs) (at_self (φ := φ) H.next (B, o + 0)) hw
          have sm : SameH (((H.put b .dead).mk' H.next (.cells (cs.take (i * 3 + 3) ++ cs.drop (i * 3)) e3 0)).put H.next (.cells (cs.take (i * 3) ++ x ++ cs.drop (i * 3)) e3 1)) ((H.put b .dead).mk' H.next (.cells (cs.take (i * 3) ++ x ++ cs.drop (i * 3)) e3 0)) := by
            refine ⟨by rw [put_next, mk_next, mk_next], fun d => ?_⟩
            by_cases hd : d = H.next
            · subst hd
              exact .inr ⟨_, _, _, _, _, by rw [Heap.get_put, if_pos rfl], by rw [Heap.get_mk, if_pos rfl]⟩
            · exact .inl (by rw [Heap.get_put, if_neg hd, Heap.get_mk, if_neg hd, Heap.get_mk, if_neg hd])
          refine Calls.ret C ?_ (w1.congr sm) ((u2'.trans uw).congr sm)
          exact VR.sl (o := o) (off := 0) (at_self _ _) hroom (Nat.le_refl _) (uw.shape _ _ (r2.shape _ _ ((upd_drew (φ := φ) (w := w)).shape _ _ q2))) ⟨by omega, hr1.2⟩
      · by_cases hin : i = n
        · exact endgrow (some ⟨B, o, none⟩) c hin (by omega) (by omega) (fun c => by cases c) (fun a ha j v hj => by cases ha; rw [add_none]; exact hcs j v hj)
        · have hlt : i < n := by omega
          have C := ins3_grow L B o n c i B2 o2 1 vc us vs w hlt (by decide) (by omega) (by omega) hbig hb8 ul vl hcs v2 oc ov
          have hk1 := kill_ok hr hlive
          have hφ : φ H.next = none := by have := hr.blk H.next; rw [hnx] at this; exact this
          obtain ⟨Z, hZe⟩ : ∃ Z, Z = (List.replicate (n + 1 - i) zl).flatten := ⟨_, rfl⟩
          obtain ⟨Y, hYe⟩ : ∃ Y, Y = (List.replicate (n + 1 - i) zc.toList).flatten := ⟨_, rfl⟩
          obtain ⟨R, hRe⟩ : ∃ R, R = (List.replicate (grownCap w (n + 1) c e3 - (n + 1)) zc.toList).flatten := ⟨_, rfl⟩
          have hZl : Z.length = (n + 1 - i) * 3 := by rw [hZe]; exact flat_len3 zl3
          have hYl : Y.length = (n + 1 - i) * 3 := by rw [hYe]; exact hzf _
          have hRl : R.length = (grownCap w (n + 1) c e3 - (n + 1)) * 3 := by rw [hRe]; exact hzf _
          have hZ : VRs φ w (cs.take (i * 3) ++ Z) (us.take (i * 3) ++ Y) := (u1.take (i * 3)).append (by rw [hZe, hYe]; exact (hzl φ w).flat _)
          have ea : (us.take (i * 3)).toArray ++ Builtin.zeroCells zc (n + 1 - i) ++ Builtin.zeroCells zc (grownCap w (n + 1) c e3 - (n + 1)) = (us.take (i * 3) ++ Y ++ R).toArray := by rw [hz0, hz0, hYe, hRe]; simp
          rw [ea] at C
          have a1 := hr_alloc hk1 hnx2 (br_new' (w := w) (rest := R) hZ hφ e3 e3 0)
          have b1 := (updH_kill (φ := φ) (w := w) hlive).trans (updH_alloc hk1 hnx2 (.cells (us.take (i * 3) ++ Y ++ R).toArray e3) (.cells (cs.take (i * 3) ++ Z) e3 0))
          have a2 := hr_drew a1
          have b2 := b1.trans (updH_drew _)
          have Zl : (cs.take (i * 3) ++ Z).length = (n + 1) * 3 := by rw [List.length_append, List.length_take, hZl]; omega
          have g1 : ((H.put b .dead).mk' (H.put b .dead).next (.cells (cs.take (i * 3) ++ Z) e3 0)).get H.next = some (.cells (cs.take (i * 3) ++ Z) e3 0) := by rw [hnext, Heap.get_mk, if_pos rfl]
          have hw1 := writeAt_go (h := (H.put b .dead).mk' (H.put b .dead).next (.cells (cs.take (i * 3) ++ Z) e3 0)) (b := H.next) (off := i * 3) (vs := x)
          rw [g1, wrB_some, if_pos ⟨by omega, hx⟩] at hw1
          obtain ⟨a3, _, _⟩ := hr_write (b := H.next) a2 (at_self (φ := φ) H.next (w.heap.size, 0)) hw1 (v1.upd b2.toUpd)
          have b3 := b2.trans (updH_write (b := H.next) (at_ := i * 3) (us := vs) (at_self (φ := φ) H.next (w.heap.size, 0)) hw1)
          have a4 := hr_drew a3
          have b4 := b3.trans (updH_drew _)
          obtain ⟨M, hM⟩ : ∃ M, M = (cs.take (i * 3) ++ Z).take (i * 3) ++ x ++ (cs.take (i * 3) ++ Z).drop (i * 3 + x.length) := ⟨_, rfl⟩
          have Ml : M.length = (n + 1) * 3 := by
            rw [hM]
            simp only [List.length_append, List.length_take, List.length_drop, hZl, hxl]; omega
          have hMM : M.take ((i + 1) * 3) ++ cs.drop (i * 3) ++ M.drop ((i + 1) * 3 + (cs.drop (i * 3)).length) = cs.take (i * 3) ++ x ++ cs.drop (i * 3) := by
            rw [hM]
            exact list_b hxl (by omega) (by omega)
          rw [← hM] at a4 b4
          have g2 : (((H.put b .dead).mk' (H.put b .dead).next (.cells (cs.take (i * 3) ++ Z) e3 0)).put H.next (.cells M e3 (0 + 1))).get H.next = some (.cells M e3 (0 + 1)) := by rw [Heap.get_put, if_pos rfl]
          have hw2 := writeAt_go (h := ((H.put b .dead).mk' (H.put b .dead).next (.cells (cs.take (i * 3) ++ Z) e3 0)).put H.next (.cells M e3 (0 + 1))) (b := H.next) (off := (i + 1) * 3) (vs := cs.drop (i * 3))
          have od : (cs.drop (i * 3)).all AV.one = true := List.all_eq_true.2 fun y hy => List.all_eq_true.1 ho' y (List.mem_of_mem_drop hy)
          rw [g2, wrB_some, if_pos ⟨by rw [List.length_drop]; omega, od⟩, hMM] at hw2
          have b4u := b4.toUpd
          obtain ⟨a5, _, _⟩ := hr_write (b := H.next) a4 (at_self (φ := φ) H.next (w.heap.size, 0)) hw2 ((u1.drop (i * 3)).upd (by simpa using b4u))
          have b5 := b4.trans (updH_write (b := H.next) (at_ := (i + 1) * 3) (us := us.drop (i * 3)) (at_self (φ := φ) H.next (w.heap.size, 0)) hw2)
          simp only [Nat.zero_add] at a5 b5
          have s1 := shape_new (w := w) (us.take (i * 3) ++ Y ++ R).toArray e3
          have sh : ∀ {W : World} {q : Nat × TypeId × Nat} (k : Nat) (z : List Value), W.shape? w.heap.size = some q.2 → (W.drew.setCells w.heap.size k z).shape? w.heap.size = some q.2 := fun {W q} k z h => (upd_setCells (φ := φ.at H.next (w.heap.size, 0)) (b := H.next) (at_self _ _) k z).shape _ _ ((upd_drew (φ := φ) (w := W)).shape _ _ h)
          have s3 := sh (q := (0, _)) ((i + 1) * 3) (us.drop (i * 3)) (sh (q := (0, _)) (i * 3) vs s1)
          refine Calls.ret (H2 := (H.put b .dead).mk' H.next (.cells (cs.take (i * 3) ++ x ++ cs.drop (i * 3)) e3 0)) C ?_ (a5.congr (SameH.put2 (l := cs.take (i * 3) ++ x ++ cs.drop (i * 3)))) (b5.congr (SameH.put2 (l := cs.take (i * 3) ++ x ++ cs.drop (i * 3))))
          refine VR.sl (o := 0) (off := 0) (at_self _ _) (grownCap_ge _ _ _ _) (Nat.le_refl _) s3 ⟨?_, ?_⟩
          · simp only [List.size_toArray, List.length_append, List.length_take, ul, hYl, hRl]
            have := grownCap_ge w (n + 1) c e3; omega
          · have := grownCap_le_maxLen w (n + 1) c e3 (by unfold maxLen; omega)
            unfold maxLen at this; omega
    | sl0 a =>
      have hi0 : i = 0 := by omega
      subst hi0
      refine endgrow (some a) 0 rfl (Nat.le_refl _) (by omega) (fun c => by cases c) (fun a' ha j v hj => ?_)
      have : us = [] := List.eq_nil_of_length_eq_zero (by omega)
      rw [this] at hj
      simp at hj
theorem insert3_nil_ok {ρ : Ren} {e3 : TypeId} {by' : Nat} {z : Value} {zc : Array Value} {nm : String} {ta : Array TypeId} (L : InsL P ρ e3 by' z zc nm ta) (hly : ρ.f 21 < YB) (hnm : nm ≠ "runtime.NumGoroutine") (hb8 : 0 < by')
    {vb : Nat} {e2 ver2 : Nat} {x : List AV} (hxl : x.length = 3) (hx : x.all AV.one = true) (hgv : H.get vb = some (.cells x e2 ver2)) (hbig : 193 * by' ≤ 281474976710656) :
    OK P (ρ.f 21) [.nils, .int .i64 0, .sl vb 0 1 1 3] H (.sl H.next 0 1 1 3) (H.mk' H.next (.cells x e3 0)) := by
  refine .inl ⟨hly, ⟨_, L.f21, rfl, fun e => hnm e⟩, fun φ w us hr hus => ?_⟩
  obtain ⟨B2, o2, e2', N2, p1, p2, p3, p4, p5⟩ := hr.cells hgv
  have hzsz := L.zl
  cases us with | mk us =>
  simp only at hus
  cases hus with | cons h1 t => cases t with | cons h2 t => cases t with | cons h3 t =>
  cases t
  cases h2
  cases h1
  obtain ⟨vs, v1, v2⟩ := p3.vals
  have vl : vs.length = 1 * 3 := by rw [← v1.length]; exact hxl
  have ov := v1.one hx
  have hnx := hr.next H.next (Nat.le_refl _)
  cases h3 with
  | sl hb3 hc3 hl3 hs3 hr3 =>
    rename_i vB vo vc vN vE
    rw [p1] at hb3
    cases hb3
    rw [p2] at hs3
    cases hs3
    simp only [Nat.add_zero] at *
    have C := ins3_end_grow L none 0 0 B2 o2 1 vc [] vs w (by decide) (by decide) (by decide) (by omega) (by decide) rfl vl (fun _ => rfl) (fun a ha => by cases ha) v2 ov
    have hs := (hr_drew hr)
    have hφ : φ H.next = none := by have := hr.blk H.next; rw [hnx] at this; exact this
    have hl' : VRs φ w.drew x vs := v1.upd upd_drew
    have ea : ([] ++ vs).toArray ++ Builtin.zeroCells zc (grownCap w (0 + 1) 0 e3 - (0 + 1)) = (vs ++ (Builtin.zeroCells zc (grownCap w (0 + 1) 0 e3 - (0 + 1))).toList).toArray := by simp
    rw [ea] at C
    have hcap : 0 + 1 ≤ grownCap w (0 + 1) 0 e3 := grownCap_ge _ _ _ _
    refine Calls.ret C ?_ (hr_alloc hs hnx (br_new' (w := w.drew) hl' hφ e3 e3 0)) ((updH_drew H).trans (updH_alloc hs hnx _ _))
    refine .sl (o := 0) (at_self _ _) hcap (Nat.le_refl _) (shape_new _ _) ⟨?_, ?_⟩
    · rw [zc_flat hzsz]
      simp only [List.toList_toArray, List.size_toArray, List.length_append, vl, flat_len3 (show zc.toList.length = 3 by simpa using hzsz)]
      omega
    · have := grownCap_le_maxLen w (0 + 1) 0 e3 (by unfold maxLen; omega)
      unfold maxLen at this; omega
/-- what the walk asks of slices.Insert -/
def InsF (P : Program) (f e3 : Nat) : Prop := ∀ {H : Heap} {vb e2 ver2 : Nat} {x : List AV}, x.length = 3 → x.all AV.one = true → H.get vb = some (.cells x e2 ver2) →
  OK P f [.nils, .int .i64 0, .sl vb 0 1 1 3] H (.sl H.next 0 1 1 3) (H.mk' H.next (.cells x e3 0)) ∧
  ∀ {b n cap i e ver : Nat} {C : List AV}, H.get b = some (.cells C e ver) → n * 3 ≤ C.length → C.all AV.one = true → i ≤ n → vb ≠ b → n ≤ 4000000000000 →
    OK P f [.sl b 0 n cap 3, .int .i64 i, .sl vb 0 1 1 3] H (.sl H.next 0 (n + 1) (n + 1) 3) ((H.put b .dead).mk' H.next (.cells ((C.take (n * 3)).take (i * 3) ++ x ++ (C.take (n * 3)).drop (i * 3)) e3 0))
end
end Go.Proofs.YtpfpngmfooagiaaGreat.VM
