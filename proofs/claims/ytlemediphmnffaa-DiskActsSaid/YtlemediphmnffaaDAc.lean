/- Part of a proof: what stands for the program, and its walk. No condition. -/
import Derived.Below
import Derived.ChangeArms
import Derived.ChangeMaps5
import Derived.Deep.DeepAppendWide
import Derived.Laws.Cells
import Derived.Laws.IdiomCopy
import Derived.Lib.SlKeysI
import Derived.MapKept
import Derived.Maps.RangeRun
import Derived.OrdersIn
import Derived.RangeFuncLeaves
import Derived.RangeFuncRecord
import Derived.Shelf.GgSortFunc.RowK
import Derived.Shelf.SlIterI.Sorted
import Derived.Shelf.SlLaysZI
import Derived.Shelf.SortM.Plain
import Derived.Shelf.SortM.SortNone
import Derived.SizedLaws
import Derived.WalkKit
import Derived.WalkLawsBesides
import GoSem.Claim
import Derived.Test.YtlemediphmnffaaDAb
set_option linter.unusedSimpArgs false
set_option linter.unusedVariables false
set_option linter.defProp false
set_option maxHeartbeats 1000000
namespace Go.Proofs.Ytlemediphmnffaa.VM
open Go.RowKit
section
variable (P : Program)
open Classical in
/-- calls told by a function, where they come to that -/
noncomputable def XC (c : Nat → List AV → Heap → AV × Heap) : Told := fun f args h => if OK P f args h (c f args h).1 (c f args h).2 then some (c f args h) else none
theorem xc_ok {c : Nat → List AV → Heap → AV × Heap} : CallOk P (XC P c) := by
  intro f args h v h' e
  unfold XC at e
  split at e
  · rename_i o
    have : c f args h = (v, h') := by simpa using e
    rw [this] at o
    exact o
  · cases e
theorem xc_eq {c : Nat → List AV → Heap → AV × Heap} {f : Nat} {args : List AV} {h : Heap} (o : OK P f args h (c f args h).1 (c f args h).2) : XC P c f args h = some (c f args h) := if_pos o
/-- operations, their calls told by a function, with the states that they came through -/
def EvC (c : Nat → List AV → Heap → AV × Heap) : List VO → T AV → Heap → (List St → T AV → Heap → Prop) → Prop
  | [], s, h, Q => Q [⟨s, h⟩] s h
  | o :: l, s, h, Q => bif wanted ⟨s, h⟩ o.guard then
      (match vop ⟨s, h⟩ h.next o.op with
      | .val v h' => EvC c l (setd s o.dst v) h' fun tr => Q (⟨s, h⟩ :: tr)
      | .fail => False
      | .enter f args => OK P f args h (c f args h).1 (c f args h).2 ∧ EvC c l (setd s o.dst (c f args h).1) (c f args h).2 fun tr => Q (⟨s, h⟩ :: tr))
    else EvC c l (setd s o.dst .undef) h fun tr => Q (⟨s, h⟩ :: tr)
/-- operations, their calls told by a function, with the states that they came through -/
def EvMC (c : Nat → List AV → Heap → AV × Heap) (base : Nat) : List VO → Nat → T AV → Heap → (List St → T AV → Heap → Prop) → Prop
  | [], _, s, h, Q => Q [⟨s, h⟩] s h
  | o :: l, i, s, h, Q => bif wanted ⟨s, h⟩ o.guard then
      (match vop ⟨s, h⟩ (nmA base i o.op h) o.op with
      | .val v h' => EvMC c base l (i + 1) (setd s o.dst v) h' fun tr => Q (⟨s, h⟩ :: tr)
      | .fail => False
      | .enter f args => OK P f args h (c f args h).1 (c f args h).2 ∧ EvMC c base l (i + 1) (setd s o.dst (c f args h).1) (c f args h).2 fun tr => Q (⟨s, h⟩ :: tr))
    else EvMC c base l (i + 1) (setd s o.dst .undef) h fun tr => Q (⟨s, h⟩ :: tr)
end
section
variable {P : Program}
theorem EvC.trace {c : Nat → List AV → Heap → AV × Heap} : ∀ {l : List VO} {s : T AV} {h : Heap} {Q : List St → T AV → Heap → Prop}, EvC P c l s h Q → ∃ tr s' h', vtrace (XC P c) l ⟨s, h⟩ = some tr ∧ tr.getLast? = some ⟨s', h'⟩ ∧ Q tr s' h'
  | [], s, h, Q, e => ⟨_, s, h, rfl, rfl, e⟩
  | o :: l, s, h, Q, e => by
    have last : ∀ {tr : List St} {x y : St}, tr.getLast? = some y → (x :: tr).getLast? = some y := by
      intro tr x y hy
      cases tr with
      | nil => cases hy
      | cons a b => simpa [List.getLast?_cons_cons] using hy
    rw [EvC] at e
    cases hw : wanted ⟨s, h⟩ o.guard with
    | false =>
      rw [hw, cond_false] at e
      obtain ⟨tr, s', h', e1, e2, q⟩ := EvC.trace e
      refine ⟨⟨s, h⟩ :: tr, s', h', ?_, last e2, q⟩
      simp only [vtrace, vdo, hw, cond_false, put_eq, e1, Option.map_some]
    | true =>
      rw [hw, cond_true] at e
      cases hv : vop ⟨s, h⟩ h.next o.op with
      | fail => rw [hv] at e; exact e.elim
      | val v h1 =>
        rw [hv] at e
        obtain ⟨tr, s', h', e1, e2, q⟩ := EvC.trace e
        refine ⟨⟨s, h⟩ :: tr, s', h', ?_, last e2, q⟩
        simp only [vtrace, vdo, hw, cond_true, hv, put_eq, e1, Option.map_some]
      | enter f args =>
        rw [hv] at e
        obtain ⟨hok, e⟩ := e
        obtain ⟨tr, s', h', e1, e2, q⟩ := EvC.trace e
        refine ⟨⟨s, h⟩ :: tr, s', h', ?_, last e2, q⟩
        simp only [vtrace, vdo, hw, cond_true, hv, xc_eq P hok, put_eq, e1, Option.map_some]
/-- a region whose order is drawn -/
theorem EvD.go (c : Nat → List AV → Heap → AV × Heap) {l : List VO} {loose : List (Nat × List Nat)} {s : T AV} {h : Heap} {Q : T AV → Heap → Prop}
    (e : EvC P c l s h fun tr s' h' => looseOk (XC P c) l tr loose = true ∧ Q s' h') : EvD P l loose s h Q := by
  obtain ⟨tr, s', h', e1, e2, q1, q2⟩ := e.trace
  exact ⟨XC P c, xc_ok P, tr, s', h', e1, q1, e2, q2⟩
theorem EvMC.trace {c : Nat → List AV → Heap → AV × Heap} {base : Nat} : ∀ {l : List VO} {i : Nat} {s : T AV} {h : Heap} {Q : List St → T AV → Heap → Prop}, EvMC P c base l i s h Q → ∃ tr s' h', mtrace (XC P c) base l i ⟨s, h⟩ = some tr ∧ tr.getLast? = some ⟨s', h'⟩ ∧ Q tr s' h'
  | [], i, s, h, Q, e => ⟨_, s, h, rfl, rfl, e⟩
  | o :: l, i, s, h, Q, e => by
    have last : ∀ {tr : List St} {x y : St}, tr.getLast? = some y → (x :: tr).getLast? = some y := by
      intro tr x y hy
      cases tr with
      | nil => cases hy
      | cons a b => simpa [List.getLast?_cons_cons] using hy
    rw [EvMC] at e
    cases hw : wanted ⟨s, h⟩ o.guard with
    | false =>
      rw [hw, cond_false] at e
      obtain ⟨tr, s', h', e1, e2, q⟩ := EvMC.trace e
      refine ⟨⟨s, h⟩ :: tr, s', h', ?_, last e2, q⟩
      simp only [mtrace, nameAt_eq, vdo, hw, cond_false, put_eq, e1, Option.map_some]
    | true =>
      rw [hw, cond_true] at e
      cases hv : vop ⟨s, h⟩ (nmA base i o.op h) o.op with
      | fail => rw [hv] at e; exact e.elim
      | val v h1 =>
        rw [hv] at e
        obtain ⟨tr, s', h', e1, e2, q⟩ := EvMC.trace e
        refine ⟨⟨s, h⟩ :: tr, s', h', ?_, last e2, q⟩
        simp only [mtrace, nameAt_eq, vdo, hw, cond_true, hv, put_eq, e1, Option.map_some]
      | enter f args =>
        rw [hv] at e
        obtain ⟨hok, e⟩ := e
        obtain ⟨tr, s', h', e1, e2, q⟩ := EvMC.trace e
        refine ⟨⟨s, h⟩ :: tr, s', h', ?_, last e2, q⟩
        simp only [mtrace, nameAt_eq, vdo, hw, cond_true, hv, xc_eq P hok, put_eq, e1, Option.map_some]
mutual
theorem AV.eqb_refl : ∀ x : AV, AV.eqb x x = true
  | .undef => rfl
  | .bool b => by cases b <;> rfl
  | .int k n => by simp [AV.eqb]
  | .str s => by simp [AV.eqb]
  | .ptr a b => by simp [AV.eqb]
  | .nilp => rfl
  | .sl .. => by simp [AV.eqb]
  | .nils => rfl
  | .map b => by simp [AV.eqb]
  | .nilm => rfl
  | .fn f l => by simp [AV.eqb, AV.eqbs_refl l]
  | .nilf => rfl
  | .agg l => by simp [AV.eqb, AV.eqbs_refl l]
  | .tup l => by simp [AV.eqb, AV.eqbs_refl l]
  | .rs l n => by simp [AV.eqb, AV.eqbs_refl l]
  | .rp l => by simp [AV.eqb, AV.eqbs_refl l]
  | .yld b => by simp [AV.eqb]
theorem AV.eqbs_refl : ∀ l : List AV, AV.eqbs l l = true
  | [] => rfl
  | x :: l => by simp [AV.eqbs, AV.eqb_refl x, AV.eqbs_refl l]
end
/-- one look that has no place -/
def Lk (si : St) (hk : Heap) (o : VO) (sj : St) : Prop := (if wanted si o.guard = true then (match vop ⟨si.s, hk⟩ hk.next o.op with
    | .val v _ => (match o.dst with | some d => v = sj.get d | none => True)
    | _ => False) else (match o.dst with | some d => AV.undef = sj.get d | none => True))
theorem lk_same {si : St} {o : VO} {sj : St} {X : Told} (e : vdo X si si.h.next o = some sj) (hk : o.op.kind = 1) : Lk si si.h o sj := by
  unfold vdo at e
  unfold Lk
  cases hw : wanted si o.guard with
  | false =>
    rw [hw, cond_false] at e
    rw [if_neg (by simp)]
    cases e
    cases hd : o.dst with
    | none => trivial
    | some d => simp only [St.get_put, if_true]
  | true =>
    rw [hw, cond_true] at e
    rw [if_pos rfl]
    cases hv : vop si si.h.next o.op with
    | fail => rw [hv] at e; cases e
    | val v h =>
      rw [hv] at e
      cases e
      cases hd : o.dst with
      | none => trivial
      | some d => simp only [St.get_put, if_true]
    | enter f args =>
      rcases vop_enter_call hv with ⟨l, e'⟩ | ⟨x, l, e'⟩ <;> rw [e'] at hk <;> simp [VOp.kind] at hk
theorem Lk.ok {X : Told} {si : St} {hk : Heap} {o : VO} {sj : St} (e : Lk si hk o sj) : (match vdo X ⟨si.s, hk⟩ hk.next o with
      | some s' => (match o.dst with
        | some d => AV.eqb (s'.get d) (sj.get d)
        | none => true)
      | none => false) = true := by
  unfold Lk at e
  have hw : wanted ⟨si.s, hk⟩ o.guard = wanted si o.guard := by
    unfold wanted
    cases o.guard <;> rfl
  unfold vdo
  rw [hw]
  cases hg : wanted si o.guard with
  | false =>
    rw [hg, if_neg (by simp)] at e
    rw [cond_false]
    simp only
    cases hd : o.dst with
    | none => rfl
    | some d =>
      rw [hd] at e
      simp only [St.get_put, if_true]
      rw [← e]
      exact AV.eqb_refl _
  | true =>
    rw [hg, if_pos rfl] at e
    rw [cond_true]
    cases hv : vop ⟨si.s, hk⟩ hk.next o.op with
    | fail => rw [hv] at e; exact e.elim
    | enter f args => rw [hv] at e; exact e.elim
    | val v h =>
      rw [hv] at e
      simp only
      cases hd : o.dst with
      | none => rfl
      | some d =>
        rw [hd] at e
        simp only [St.get_put, if_true]
        simp only at e
        rw [e]
        exact AV.eqb_refl _
/-- all looks that have no place, one by one -/
def LkAll (l : List VO) (tr : List St) : List (Nat × List Nat) → Prop
  | [] => True
  | (i, ks) :: r => LkEach i ks ∧ LkAll l tr r
where LkEach (i : Nat) : List Nat → Prop
  | [] => True
  | k :: ks => (match l[i]?, tr[i]?, tr[k]?, tr[i + 1]? with
    | some o, some si, some sk, some sj => Lk si sk.h o sj
    | _, _, _, _ => False) ∧ LkEach i ks
theorem LkEach.ok {X : Told} {l : List VO} {tr : List St} {i : Nat} : ∀ {ks : List Nat}, LkAll.LkEach l tr i ks → (ks.all fun k => match l[i]?, tr[i]?, tr[k]?, tr[i + 1]? with
    | some o, some si, some sk, some sj => (match vdo X ⟨si.s, sk.h⟩ sk.h.next o with
      | some s' => (match o.dst with
        | some d => AV.eqb (s'.get d) (sj.get d)
        | none => true)
      | none => false)
    | _, _, _, _ => false) = true
  | [], _ => rfl
  | k :: ks, ⟨h1, h2⟩ => by
    rw [List.all_cons, Bool.and_eq_true]
    refine ⟨?_, LkEach.ok h2⟩
    split at h1
    · exact h1.ok
    · exact h1.elim
theorem LkAll.ok {X : Told} {l : List VO} {tr : List St} : ∀ {loose : List (Nat × List Nat)}, LkAll l tr loose → looseOk X l tr loose = true
  | [], _ => rfl
  | (i, ks) :: r, ⟨h1, h2⟩ => by
    unfold looseOk
    rw [List.all_cons, Bool.and_eq_true]
    exact ⟨LkEach.ok h1, LkAll.ok h2⟩
/-- a region whose order is drawn, its looks one by one -/
theorem EvD.lk (c : Nat → List AV → Heap → AV × Heap) {l : List VO} {loose : List (Nat × List Nat)} {s : T AV} {h : Heap} {Q : T AV → Heap → Prop}
    (e : EvC P c l s h fun tr s' h' => LkAll l tr loose ∧ Q s' h') : EvD P l loose s h Q := by
  obtain ⟨tr, s', h', e1, e2, q1, q2⟩ := e.trace
  exact ⟨XC P c, xc_ok P, tr, s', h', e1, q1.ok, e2, q2⟩
/-- the same, new blocks out of their row -/
theorem EvMD.lk (c : Nat → List AV → Heap → AV × Heap) {l : List VO} {loose : List (Nat × List Nat)} {s : T AV} {h : Heap} {Q : T AV → Heap → Prop}
    (e : EvMC P c h.next l 0 s (reserve h.next l 0 h) fun tr s' h' => LkAll l tr loose ∧ Q s' h') : EvMD P l loose s h Q := by
  obtain ⟨tr, s', h', e1, e2, q1, q2⟩ := e.trace
  exact ⟨XC P c, xc_ok P, tr, s', h', e1, q1.ok, e2, q2⟩
/-- memory is as it was all along -/
def allH (h : Heap) : List St → Prop
  | [] => True
  | x :: tr => x.h = h ∧ allH h tr
theorem allH_get {h : Heap} : ∀ {tr : List St}, allH h tr → ∀ {i : Nat} {x : St}, tr[i]? = some x → x.h = h
  | [], _, i, x, e => by simp at e
  | _ :: _, ⟨h1, h2⟩, 0, x, e => by simp at e; subst e; exact h1
  | _ :: _, ⟨h1, h2⟩, i + 1, x, e => allH_get h2 (by simpa using e)
theorem vtrace_step {X : Told} : ∀ {l : List VO} {st : St} {tr : List St}, vtrace X l st = some tr → tr.length = l.length + 1 ∧ ∀ (i : Nat) (o : VO) (x y : St), l[i]? = some o → tr[i]? = some x → tr[i + 1]? = some y → vdo X x x.h.next o = some y
  | [], st, tr, e => by cases e; exact ⟨rfl, fun i o x y h => by simp at h⟩
  | o :: l, st, tr, e => by
    simp only [vtrace] at e
    split at e
    · rename_i st1 hd
      obtain ⟨tr', e1, rfl⟩ := Option.map_eq_some_iff.1 e
      obtain ⟨h1, h2⟩ := vtrace_step e1
      refine ⟨by simp [h1], fun i o' x y ho hx hy => ?_⟩
      cases i with
      | zero =>
        simp at ho hx hy
        subst ho hx
        have : tr'[0]? = some st1 := (vtrace_spec e1).2.1
        rw [this] at hy
        cases hy
        exact hd
      | succ i => exact h2 i o' x y (by simpa using ho) (by simpa using hx) (by simpa using hy)
    · cases e
def okL (l : List VO) (loose : List (Nat × List Nat)) : Bool := loose.all fun p => p.2.all (fun k => Nat.ble k l.length) && (match l[p.1]? with
  | some o => Nat.beq o.op.kind 1
  | none => false)
/-- a region that leaves memory as it is -/
theorem EvD.same (c : Nat → List AV → Heap → AV × Heap) {l : List VO} {loose : List (Nat × List Nat)} {s : T AV} {h : Heap} {Q : T AV → Heap → Prop} (hk : okL l loose = true)
    (e : EvC P c l s h fun tr s' h' => allH h tr ∧ Q s' h') : EvD P l loose s h Q := by
  obtain ⟨tr, s', h', e1, e2, q1, q2⟩ := e.trace
  refine ⟨XC P c, xc_ok P, tr, s', h', e1, ?_, e2, q2⟩
  obtain ⟨hl, hst⟩ := vtrace_step e1
  unfold looseOk
  unfold okL at hk
  rw [List.all_eq_true] at hk ⊢
  intro p hp
  have hkp := hk p hp
  rw [Bool.and_eq_true, List.all_eq_true] at hkp
  obtain ⟨h1, h2⟩ := hkp
  rw [List.all_eq_true]
  intro k hkm
  have hkl : k ≤ l.length := by simpa using h1 k hkm
  cases ho : l[p.1]? with
  | none => rw [ho] at h2; cases h2
  | some o =>
    rw [ho] at h2
    have hkind : o.op.kind = 1 := by simpa using h2
    have hil : p.1 < l.length := (List.getElem?_eq_some_iff.1 ho).1
    have a1 : tr[p.1]? = some tr[p.1] := List.getElem?_eq_getElem (by omega)
    have a2 : tr[p.1 + 1]? = some tr[p.1 + 1] := List.getElem?_eq_getElem (by omega)
    have a3 : tr[k]? = some tr[k] := List.getElem?_eq_getElem (by omega)
    simp only [a1, a2, a3]
    have b1 := allH_get q1 a1
    have b3 := allH_get q1 a3
    have hv := hst _ _ _ _ ho a1 a2
    have := (lk_same hv hkind).ok (X := XC P c)
    rw [b1] at this
    rw [b3]
    exact this
def allN (h : Heap) : Nat → List St → Prop
  | 0, _ => True
  | _ + 1, [] => True
  | n + 1, x :: tr => x.h = h ∧ allN h n tr
theorem allN_zero {h : Heap} {tr : List St} : allN h 0 tr = True := rfl
theorem allN_nil {h : Heap} {n : Nat} : allN h (n + 1) [] = True := rfl
theorem allN_cons {h h' : Heap} {n : Nat} {s : T AV} {tr : List St} : allN h (n + 1) (⟨s, h'⟩ :: tr) = (h' = h ∧ allN h n tr) := rfl
theorem allH_nil {h : Heap} : allH h [] = True := rfl
theorem allH_cons {h h' : Heap} {s : T AV} {tr : List St} : allH h (⟨s, h'⟩ :: tr) = (h' = h ∧ allH h tr) := rfl
/-- the program's functions, by a table -/
structure Pg (P : Program) (F : Nat → Option VFun) : Prop where
  hm : P.follows .mixedOrders = true
  tb : TableOk P F
variable {F : Nat → Option VFun}
theorem Pg.cl (g : Pg P F) {f : Nat} {vf : VFun} (hf : F f = some vf) {args : List AV} (hl : args.length = vf.nargs) {h : Heap} {Q : AV → Heap → Prop}
    (e : Ev P vf.body (argsT args 0 .e) h (Un P [] (Fin vf.res Q))) : Cl P f args h Q :=
  let ⟨hlt, _, h1, h2, h3⟩ := g.tb f vf hf
  Cl.enter g.hm h1 h2 h3 hlt hl e
theorem Pg.pu (g : Pg P F) {f : Nat} {vf : VFun} (hf : F f = some vf) {args : List AV} (hl : args.length = vf.nargs) {R : AV → Prop}
    (e : Ev P vf.body (argsT args 0 .e) ⟨0, .e⟩ (Un P [] (Fin vf.res fun v h' => Tl h' v R))) : Pu P f args R := Pu.of (g.cl hf hl e)
theorem Pg.lpe (g : Pg P F) {b b' : VCode} (hb : b = b') {s : T AV} {h : Heap} {k : List Fr} {Q : Ex → T AV → Heap → Prop} (e : Ev P b' s h (Un P (.lp b :: k) Q)) : Lp P b s h (Un P k Q) := Lp.go g.hm (hb.symm ▸ e)
/-- a call that comes to one value -/
theorem Pu.exact {f : Nat} {args : List AV} {v : AV} (p : Pu P f args fun x => x = v) (ha : AV.tolds args = true) {h : Heap} : OK P f args h v h :=
  let ⟨_, _, _, o, hf, q⟩ := p
  q ▸ o.pure (Fzs.refl ha) hf
theorem Pu.go {f : Nat} {args : List AV} {R : AV → Prop} (p : Pu P f args R) (ha : AV.tolds args = true) {h : Heap} {Q : AV → Heap → Prop} (k : ∀ v, R v → Q v h) : Cl P f args h Q := p.cl (Fzs.refl ha) k
theorem tl_tup_ii {h : Heap} {kk k2 : IntKind} {n m : Int} {R : AV → Prop} : Tl h (.tup [.int kk n, .int k2 m]) R = R (.tup [.int kk n, .int k2 m]) :=
  propext ⟨fun ⟨_, f, r⟩ => by cases f with | tup t => cases t with | cons f t => cases f; cases t with | cons f t => cases f; cases t; exact r, fun r => ⟨_, .tup (.cons (.int kk n) (.cons (.int k2 m) .nil)), r⟩⟩
theorem tl_tup_si {h : Heap} {k2 : IntKind} {n : List Nat} {m : Int} {R : AV → Prop} : Tl h (.tup [.str n, .int k2 m]) R = R (.tup [.str n, .int k2 m]) :=
  propext ⟨fun ⟨_, f, r⟩ => by cases f with | tup t => cases t with | cons f t => cases f; cases t with | cons f t => cases f; cases t; exact r, fun r => ⟨_, .tup (.cons (.str n) (.cons (.int k2 m) .nil)), r⟩⟩
/-- it is a truth: of this -/
def IsB (p : Prop) (v : AV) : Prop := ∃ b : Bool, v = .bool b ∧ (b = true ↔ p)
theorem isB_bool {p : Prop} {b : Bool} : IsB p (.bool b) = (b = true ↔ p) := propext ⟨fun ⟨_, e, h⟩ => by cases e; exact h, fun h => ⟨b, rfl, h⟩⟩
def Nc (P : Program) (c : Nat → List AV → Heap → AV × Heap) (d : Option Nat) (l : List VO) (s : T AV) (h : Heap) (Q : List St → T AV → Heap → Prop) : Out → Prop
  | .val v h' => EvC P c l (setd s d v) h' Q
  | .fail => False
  | .enter f args => OK P f args h (c f args h).1 (c f args h).2 ∧ EvC P c l (setd s d (c f args h).1) (c f args h).2 Q
def Qc (x : St) (Q : List St → T AV → Heap → Prop) : List St → T AV → Heap → Prop := fun tr => Q (x :: tr)
def Gc (P : Program) (c : Nat → List AV → Heap → AV × Heap) (x : AV) (w : Bool) (d : Option Nat) (op : VOp) (l : List VO) (s : T AV) (h : Heap) (Q : List St → T AV → Heap → Prop) : Prop := match x with
  | .bool b => if b = w then Nc P c d l s h Q (vop ⟨s, h⟩ h.next op) else EvC P c l (setd s d .undef) h Q
  | _ => EvC P c l (setd s d .undef) h Q
def Nm (P : Program) (c : Nat → List AV → Heap → AV × Heap) (base i : Nat) (d : Option Nat) (l : List VO) (s : T AV) (h : Heap) (Q : List St → T AV → Heap → Prop) : Out → Prop
  | .val v h' => EvMC P c base l i (setd s d v) h' Q
  | .fail => False
  | .enter f args => OK P f args h (c f args h).1 (c f args h).2 ∧ EvMC P c base l i (setd s d (c f args h).1) (c f args h).2 Q
def Gm (P : Program) (c : Nat → List AV → Heap → AV × Heap) (base i : Nat) (x : AV) (w : Bool) (d : Option Nat) (op : VOp) (l : List VO) (s : T AV) (h : Heap) (Q : List St → T AV → Heap → Prop) : Prop := match x with
  | .bool b => if b = w then Nm P c base (i + 1) d l s h Q (vop ⟨s, h⟩ (nmA base i op h) op) else EvMC P c base l (i + 1) (setd s d .undef) h Q
  | _ => EvMC P c base l (i + 1) (setd s d .undef) h Q
variable {c : Nat → List AV → Heap → AV × Heap} {l : List VO} {s : T AV} {h : Heap} {Q : List St → T AV → Heap → Prop} {d : Option Nat}
variable {base i : Nat}
theorem evmc_nil : EvMC P c base [] i s h Q = Q [⟨s, h⟩] s h := by rw [EvMC]
theorem evmc_go {op : VOp} : EvMC P c base (⟨d, none, op⟩ :: l) i s h Q = Nm P c base (i + 1) d l s h (Qc ⟨s, h⟩ Q) (vop ⟨s, h⟩ (nmA base i op h) op) := by
  rw [EvMC]
  show (bif true then _ else _) = _
  rw [cond_true]
  cases vop ⟨s, h⟩ (nmA base i op h) op <;> rfl
theorem evmc_gd {t : Nat} {w : Bool} {op : VOp} : EvMC P c base (⟨d, some (t, w), op⟩ :: l) i s h Q = Gm P c base i (sg s t) w d op l s h (Qc ⟨s, h⟩ Q) := by
  rw [EvMC]
  show (bif (match St.get ⟨s, h⟩ t with | .bool b => b == w | _ => false) then _ else _) = _
  rw [stget_eq]
  unfold Gm
  cases sg s t <;> try rfl
  rename_i b
  cases b <;> cases w <;> first | rfl | (simp only [beq_self_eq_true, cond_true, if_true]; cases vop ⟨s, h⟩ (nmA base i op h) op <;> rfl)
theorem gm_tt {op : VOp} : Gm P c base i (.bool true) true d op l s h Q = Nm P c base (i + 1) d l s h Q (vop ⟨s, h⟩ (nmA base i op h) op) := rfl
theorem gm_tf {op : VOp} : Gm P c base i (.bool true) false d op l s h Q = EvMC P c base l (i + 1) (setd s d .undef) h Q := rfl
theorem gm_ft {op : VOp} : Gm P c base i (.bool false) true d op l s h Q = EvMC P c base l (i + 1) (setd s d .undef) h Q := rfl
theorem gm_ff {op : VOp} : Gm P c base i (.bool false) false d op l s h Q = Nm P c base (i + 1) d l s h Q (vop ⟨s, h⟩ (nmA base i op h) op) := rfl
theorem gm_t {p : Prop} [Decidable p] {op : VOp} : Gm P c base i (.bool (decide p)) true d op l s h Q = ((p → Nm P c base (i + 1) d l s h Q (vop ⟨s, h⟩ (nmA base i op h) op)) ∧ (¬ p → EvMC P c base l (i + 1) (setd s d .undef) h Q)) := by
  by_cases e : p <;> simp [Gm, e]
theorem gm_f {p : Prop} [Decidable p] {op : VOp} : Gm P c base i (.bool (decide p)) false d op l s h Q = ((¬ p → Nm P c base (i + 1) d l s h Q (vop ⟨s, h⟩ (nmA base i op h) op)) ∧ (p → EvMC P c base l (i + 1) (setd s d .undef) h Q)) := by
  by_cases e : p <;> simp [Gm, e]
theorem gm_undef {w : Bool} {op : VOp} : Gm P c base i .undef w d op l s h Q = EvMC P c base l (i + 1) (setd s d .undef) h Q := rfl
theorem nm_val {v : AV} {h' : Heap} : Nm P c base i d l s h Q (.val v h') = EvMC P c base l i (setd s d v) h' Q := rfl
theorem nm_fail : Nm P c base i d l s h Q .fail = False := rfl
theorem nm_enter {f : Nat} {args : List AV} : Nm P c base i d l s h Q (.enter f args) = (OK P f args h (c f args h).1 (c f args h).2 ∧ EvMC P c base l i (setd s d (c f args h).1) (c f args h).2 Q) := rfl
theorem nm_ite {p : Prop} [Decidable p] {a b : Out} : Nm P c base i d l s h Q (if p then a else b) = ((p → Nm P c base i d l s h Q a) ∧ (¬ p → Nm P c base i d l s h Q b)) := by by_cases e : p <;> simp [e]
theorem evc_nil : EvC P c [] s h Q = Q [⟨s, h⟩] s h := by rw [EvC]
theorem evc_go {op : VOp} : EvC P c (⟨d, none, op⟩ :: l) s h Q = Nc P c d l s h (Qc ⟨s, h⟩ Q) (vop ⟨s, h⟩ h.next op) := by
  rw [EvC]
  show (bif true then _ else _) = _
  rw [cond_true]
  cases vop ⟨s, h⟩ h.next op <;> rfl
theorem evc_gd {t : Nat} {w : Bool} {op : VOp} : EvC P c (⟨d, some (t, w), op⟩ :: l) s h Q = Gc P c (sg s t) w d op l s h (Qc ⟨s, h⟩ Q) := by
  rw [EvC]
  show (bif (match St.get ⟨s, h⟩ t with | .bool b => b == w | _ => false) then _ else _) = _
  rw [stget_eq]
  unfold Gc
  cases sg s t <;> try rfl
  rename_i b
  cases b <;> cases w <;> first | rfl | (simp only [beq_self_eq_true, cond_true, if_true]; cases vop ⟨s, h⟩ h.next op <;> rfl)
theorem gc_tt {op : VOp} : Gc P c (.bool true) true d op l s h Q = Nc P c d l s h Q (vop ⟨s, h⟩ h.next op) := rfl
theorem gc_tf {op : VOp} : Gc P c (.bool true) false d op l s h Q = EvC P c l (setd s d .undef) h Q := rfl
theorem gc_ft {op : VOp} : Gc P c (.bool false) true d op l s h Q = EvC P c l (setd s d .undef) h Q := rfl
theorem gc_ff {op : VOp} : Gc P c (.bool false) false d op l s h Q = Nc P c d l s h Q (vop ⟨s, h⟩ h.next op) := rfl
theorem gc_t {p : Prop} [Decidable p] {op : VOp} : Gc P c (.bool (decide p)) true d op l s h Q = ((p → Nc P c d l s h Q (vop ⟨s, h⟩ h.next op)) ∧ (¬ p → EvC P c l (setd s d .undef) h Q)) := by
  by_cases e : p <;> simp [Gc, e]
theorem gc_f {p : Prop} [Decidable p] {op : VOp} : Gc P c (.bool (decide p)) false d op l s h Q = ((¬ p → Nc P c d l s h Q (vop ⟨s, h⟩ h.next op)) ∧ (p → EvC P c l (setd s d .undef) h Q)) := by
  by_cases e : p <;> simp [Gc, e]
theorem gc_undef {w : Bool} {op : VOp} : Gc P c .undef w d op l s h Q = EvC P c l (setd s d .undef) h Q := rfl
theorem nc_val {v : AV} {h' : Heap} : Nc P c d l s h Q (.val v h') = EvC P c l (setd s d v) h' Q := rfl
theorem nc_fail : Nc P c d l s h Q .fail = False := rfl
theorem nc_enter {f : Nat} {args : List AV} : Nc P c d l s h Q (.enter f args) = (OK P f args h (c f args h).1 (c f args h).2 ∧ EvC P c l (setd s d (c f args h).1) (c f args h).2 Q) := rfl
theorem nc_ite {p : Prop} [Decidable p] {a b : Out} : Nc P c d l s h Q (if p then a else b) = ((p → Nc P c d l s h Q a) ∧ (¬ p → Nc P c d l s h Q b)) := by by_cases e : p <;> simp [e]
theorem qc_go {x : St} {tr : List St} : Qc x Q tr s h = Q (x :: tr) s h := rfl
def R6 := And.intro @allN_zero <| And.intro @allN_nil <| And.intro @allN_cons <| And.intro @allH_nil (And.intro @allH_cons (And.intro @isB_bool (And.intro @iff_self (And.intro @true_iff (And.intro @false_iff (And.intro @iff_true (And.intro @iff_false (And.intro @tl_tup_ii (And.intro @tl_tup_si (And.intro @evc_nil (And.intro @evc_go (And.intro @evc_gd (And.intro @gc_tt (And.intro @gc_tf (And.intro @gc_ft (And.intro @gc_ff (And.intro @gc_t (And.intro @gc_f (And.intro @gc_undef (And.intro @nc_val (And.intro @nc_fail (And.intro @nc_enter (And.intro @nc_ite @qc_go)))))))))))))))))))))))
def R9 := And.intro @evmc_nil (And.intro @evmc_go (And.intro @evmc_gd (And.intro @gm_tt (And.intro @gm_tf (And.intro @gm_ft (And.intro @gm_ff (And.intro @gm_t (And.intro @gm_f (And.intro @gm_undef (And.intro @nm_val (And.intro @nm_fail (And.intro @nm_enter @nm_ite))))))))))))
end
end Go.Proofs.Ytlemediphmnffaa.VM
namespace Go.Proofs.Ytlemediphmnffaa.VM
theorem mod64 {x : Nat} (h : x < 18446744073709551616) : (((x : Int) % 2 ^ IntKind.bits .i64).toNat) = x := by
  have : IntKind.bits .i64 = 64 := rfl
  rw [this]
  omega
/-- any number's low bits -/
theorem and_any (z : Int) {n : Nat} (hn : n ≤ 62) : bitsOf .and .i64 z (((2 ^ n : Nat) : Int) - 1) = (((z % 18446744073709551616).toNat % 2 ^ n : Nat) : Int) := by
  have hp : 0 < 2 ^ n := Nat.two_pow_pos n
  have hle : 2 ^ n ≤ 2 ^ 62 := Nat.pow_le_pow_right (by decide) hn
  have e : (((2 ^ n : Nat) : Int) - 1) = ((2 ^ n - 1 : Nat) : Int) := by omega
  unfold bitsOf
  simp only
  rw [e, mod64 (by omega)]
  have eb : IntKind.bits .i64 = 64 := rfl
  rw [eb]
  have : Nat.land (z % 2 ^ 64).toNat (2 ^ n - 1) = (z % 2 ^ 64).toNat % 2 ^ n := Nat.and_two_pow_sub_one_eq_mod _ n
  rw [this]
  have hlt := Nat.mod_lt (z % 2 ^ 64).toNat hp
  have e2 : (2 : Int) ^ 64 = 18446744073709551616 := rfl
  rw [e2] at hlt ⊢
  exact w64 (by omega) (by omega)
theorem wr_at {h : Heap} {b j : Nat} {l : List AV} {e : TypeId} {ver : Nat} (hg : h.get b = some (.cells l e ver)) (hj : j < l.length) {x : AV} (hx : x.one = true) : writeAt h b j [x] = some (h.put b (.cells (l.set j x) e (ver + 1))) := by
  unfold writeAt
  rw [hg]
  have : Nat.ble (j + 1) l.length = true := by rw [Nat.ble_eq]; exact hj
  have e2 : lsets [x] l j = l.set j x := by
    unfold lsets
    rw [List.set_eq_take_append_cons_drop, if_pos hj]
    simp
  simp only [List.length_cons, List.length_nil, Nat.zero_add, this, List.all_cons, hx, List.all_nil, Bool.and_self, cond_true, e2]
def wrB (h : Heap) (b off : Nat) (vs : List AV) : Option Blk → Option Heap
  | some (.cells l e ver) => if off + vs.length ≤ l.length ∧ vs.all AV.one = true then some (h.put b (.cells (l.take off ++ vs ++ l.drop (off + vs.length)) e (ver + 1))) else none
  | _ => none
theorem writeAt_go {h : Heap} {b off : Nat} {vs : List AV} : writeAt h b off vs = wrB h b off vs (h.get b) := by
  unfold writeAt wrB
  cases h.get b with
  | none => rfl
  | some o =>
    cases o with
    | cells l e ver =>
      simp only [bif_eq, Bool.and_eq_true, Nat.ble_eq]
      rfl
    | _ => rfl
theorem wrB_some {h : Heap} {b off : Nat} {vs l : List AV} {e : TypeId} {ver : Nat} : wrB h b off vs (some (.cells l e ver)) = if off + vs.length ≤ l.length ∧ vs.all AV.one = true then some (h.put b (.cells (l.take off ++ vs ++ l.drop (off + vs.length)) e (ver + 1))) else none := rfl
theorem one_int {k : IntKind} {n : Int} : AV.one (.int k n) = true := rfl
theorem one_bool {b : Bool} : AV.one (.bool b) = true := rfl
theorem one_str {s : List Nat} : AV.one (.str s) = true := rfl
theorem one_nils : AV.one .nils = true := rfl
theorem one_nilp : AV.one .nilp = true := rfl
theorem one_rs {l : List AV} {n : Nat} : AV.one (.rs l n) = true := rfl
theorem one_sl {a b c d e : Nat} : AV.one (.sl a b c d e) = true := rfl
theorem one_ptr {a b : Nat} : AV.one (.ptr a b) = true := rfl
def RW := And.intro @writeAt_go (And.intro @wrB_some (And.intro @one_int (And.intro @one_bool (And.intro @one_str (And.intro @one_nils (And.intro @one_nilp (And.intro @one_rs (And.intro @one_sl (And.intro @one_ptr (And.intro @Bool.and_self (And.intro @Bool.and_true (And.intro @List.all_cons.{0} @List.all_nil.{0}))))))))))))
section
variable {P : Program} {F : Nat → Option VFun}
/-- a closed call, run -/
theorem Pg.run (g : Pg P F) {n f : Nat} {b : Bool} (hv : (vcall F (fun _ _ _ => none) n f [] ⟨0, .e⟩).map (·.1) = some (.bool b)) : Pu P f [] (fun v => v = .bool b) := by
  obtain ⟨⟨v, h'⟩, e1, e2⟩ := Option.map_eq_some_iff.1 hv
  simp only at e2
  subst e2
  exact ⟨_, _, h', (vm_ok (drawn_ok g.hm) g.tb nothing_told n).2.2 f [] _ _ _ e1, .bool b, rfl⟩
/-- a value told without memory, computed -/
def fz (r : Bool) (h : Heap) : Nat → AV → Option AV
  | 0, _ => none
  | n + 1, v => match v with
    | .sl b off len _ sz => bif Nat.beq len 0 then some (.rs [] 0) else match h.get b with
      | some (.cells l _ _) => match cut l off (len * sz) with
        | some cs => (cs.mapM (fz r h n)).map (.rs · len)
        | none => none
      | _ => none
    | .ptr b off => match h.get b with
      | some (.cells l _ _) => ((l.drop off).mapM (fz r h n)).map .rp
      | _ => none
    | .agg l => (l.mapM (fz r h n)).map .agg
    | .tup l => (l.mapM (fz r h n)).map .tup
    | .fn f l => (l.mapM (fz r h n)).map (.fn f)
    | .rs l len => bif Nat.beq len 0 then some (.rs [] 0) else bif r then (l.mapM (fz r h n)).map (.rs · len) else none
    | .rp l => bif r then (l.mapM (fz r h n)).map .rp else none
    | .map _ => none
    | .yld _ => none
    | v => some v
theorem fzs_of {r : Bool} {h : Heap} {n : Nat} (ih : ∀ v v', fz r h n v = some v' → Fz r h v v') : ∀ {l k : List AV}, l.mapM (fz r h n) = some k → Fzs r h l k
  | [], k, e => by simp at e; subst e; exact .nil
  | x :: l, k, e => by
    simp only [List.mapM_cons, Option.bind_eq_bind, Option.bind_eq_some_iff, Option.pure_def, Option.some.injEq] at e
    obtain ⟨b, h1, k', h2, rfl⟩ := e
    exact .cons (ih _ _ h1) (fzs_of ih h2)
theorem fz_ok {r : Bool} {h : Heap} : ∀ (n : Nat) (v v' : AV), fz r h n v = some v' → Fz r h v v'
  | 0, _, _, e => by cases e
  | n + 1, v, v', e => by
    have ih := fz_ok (r := r) (h := h) n
    cases v with
    | undef => cases e; exact .undef
    | bool b => cases e; exact .bool b
    | int k m => cases e; exact .int k m
    | str s => cases e; exact .str s
    | nilp => cases e; exact .nilp
    | nils => cases e; exact .nils
    | nilm => cases e; exact .nilm
    | nilf => cases e; exact .nilf
    | map b => cases e
    | yld b => cases e
    | sl b off len cap sz =>
      simp only [fz, T.beq_dec] at e
      by_cases h0 : len = 0
      · rw [decide_eq_true h0, cond_true] at e
        cases e; subst h0; exact .sl0
      · rw [decide_eq_false h0, cond_false] at e
        split at e
        · rename_i l _ _ hg
          split at e
          · rename_i cs hc
            obtain ⟨k, hk, rfl⟩ := Option.map_eq_some_iff.1 e
            exact .sl (by omega) hg hc (fzs_of ih hk)
          · cases e
        · cases e
    | ptr b off =>
      simp only [fz] at e
      split at e
      · rename_i l _ _ hg
        obtain ⟨k, hk, rfl⟩ := Option.map_eq_some_iff.1 e
        exact .ptr hg (fzs_of ih hk)
      · cases e
    | agg l => simp only [fz] at e; obtain ⟨k, hk, rfl⟩ := Option.map_eq_some_iff.1 e; exact .agg (fzs_of ih hk)
    | tup l => simp only [fz] at e; obtain ⟨k, hk, rfl⟩ := Option.map_eq_some_iff.1 e; exact .tup (fzs_of ih hk)
    | fn f l => simp only [fz] at e; obtain ⟨k, hk, rfl⟩ := Option.map_eq_some_iff.1 e; exact .fn (fzs_of ih hk)
    | rs l len =>
      simp only [fz, T.beq_dec] at e
      by_cases h0 : len = 0
      · rw [decide_eq_true h0, cond_true] at e
        cases e; subst h0; exact .rs0
      · rw [decide_eq_false h0, cond_false] at e
        cases r with
        | false => cases e
        | true => obtain ⟨k, hk, rfl⟩ := Option.map_eq_some_iff.1 e; exact .rs rfl (fzs_of ih hk)
    | rp l =>
      simp only [fz] at e
      cases r with
      | false => cases e
      | true => obtain ⟨k, hk, rfl⟩ := Option.map_eq_some_iff.1 e; exact .rp rfl (fzs_of ih hk)
/-- a call with one argument, which is told first -/
theorem Pu.one {P : Program} {f : Nat} {a a' : AV} {R : AV → Prop} (p : Pu P f [a'] R) {h : Heap} (e : fz true h 40 a = some a') {Q : AV → Heap → Prop} (k : ∀ v, R v → Q v h) : Cl P f [a] h Q := p.cl (.cons (fz_ok _ _ _ e) .nil) k
end
theorem avc_agg {l : List AV} : AV.cells (.agg l) = some l := rfl
theorem avc_int {k : IntKind} {n : Int} : AV.cells (.int k n) = some [.int k n] := rfl
theorem avc_bool {b : Bool} : AV.cells (.bool b) = some [.bool b] := rfl
theorem avc_str {t : List Nat} : AV.cells (.str t) = some [.str t] := rfl
theorem avc_nils  : AV.cells .nils = some [.nils] := rfl
theorem avc_nilp  : AV.cells .nilp = some [.nilp] := rfl
theorem avc_nilm  : AV.cells .nilm = some [.nilm] := rfl
theorem avc_nilf  : AV.cells .nilf = some [.nilf] := rfl
theorem avc_sl {a b c d e : Nat} : AV.cells (.sl a b c d e) = some [.sl a b c d e] := rfl
theorem avc_ptr {a b : Nat} : AV.cells (.ptr a b) = some [.ptr a b] := rfl
theorem avc_rs {l : List AV} {a : Nat} : AV.cells (.rs l a) = some [.rs l a] := rfl
theorem avc_rp {l : List AV} : AV.cells (.rp l) = some [.rp l] := rfl
theorem avc_map {a : Nat} : AV.cells (.map a) = some [.map a] := rfl
theorem avc_fn {a : Nat} {l : List AV} : AV.cells (.fn a l) = some [.fn a l] := rfl
def R10 := And.intro @avc_agg (And.intro @avc_int (And.intro @avc_bool (And.intro @avc_str (And.intro @avc_nils (And.intro @avc_nilp (And.intro @avc_nilm (And.intro @avc_nilf (And.intro @avc_sl (And.intro @avc_ptr (And.intro @avc_rs (And.intro @avc_rp (And.intro @avc_map @avc_fn))))))))))))
/-- all of them, and what lists and truths want besides -/
def RX := And.intro R0 (And.intro R1 (And.intro R2 (And.intro R3 (And.intro R4 (And.intro R5 (And.intro R6 (And.intro R7 (And.intro R8 (And.intro R9 (And.intro R10 (And.intro @List.contains_nil.{0} (And.intro @List.contains_cons.{0} (And.intro @beq_iff_eq.{0} (And.intro @List.getElem?_cons_zero.{0} (And.intro @List.getElem?_cons_succ.{0} (And.intro @Option.map_none.{0, 0} and_self))))))))))))))))
end Go.Proofs.Ytlemediphmnffaa.VM
namespace Go.Proofs.Ytlemediphmnffaa.VM
open Go.RowKit
/-- The shape of a cell; of a slice: an element's bytes, its cells. -/
inductive Sh where
  | int (k : IntKind)
  | bool
  | str
  | sl (bytes : Nat) (l : List Sh)
section
variable (P : Program)
def shFs (rec : TypeId → Option (List Sh)) : List Field → Nat → Option (List Sh)
  | [], _ => some []
  | f :: fs, n => if f.offset = n then (match rec f.type with
    | some l => if P.cellsOf f.type = l.length then (shFs rec fs (n + l.length)).map (l ++ ·) else none
    | none => none) else none
def shOf : Nat → TypeId → Option (List Sh)
  | 0, _ => none
  | d + 1, t => match P.underlying t with
    | some (.int k) => some [.int k]
    | some .bool => some [.bool]
    | some .string => some [.str]
    | some (.slice e) => match shOf d e with
      | some l => if l.length = P.cellsOf e ∧ 0 < l.length then some [.sl (P.bytesOf e) l] else none
      | none => none
    | some (.struct fs) => match shFs P (shOf d) fs.toList 0 with
      | some l => if l.length = P.cellsOf t then some l else none
      | none => none
    | _ => none
end
mutual
/-- cells of a shape -/
inductive W : Sh → AV → Prop
  | int (k : IntKind) (n : Int) (h : (Lit.int k n).wf = true) : W (.int k) (.int k n)
  | bool (b : Bool) : W .bool (.bool b)
  | str (s : ByteArray) (h : s.size ≤ reachBytes) : W .str (.str (s.data.toList.map fun c => c.toNat))
  | nils (b : Nat) (l : List Sh) : W (.sl b l) .nils
  | rs {b len : Nat} {l : List Sh} {c : List AV} (h : Wn l len c) (hb : len * b ≤ reachBytes) : W (.sl b l) (.rs c len)
inductive Ws : List Sh → List AV → Prop
  | nil : Ws [] []
  | cons {s : Sh} {x : AV} {l : List Sh} {k : List AV} (h : W s x) (t : Ws l k) : Ws (s :: l) (x :: k)
inductive Wn : List Sh → Nat → List AV → Prop
  | nil (l : List Sh) : Wn l 0 []
  | cons {l : List Sh} {c k : List AV} {n : Nat} (h : Ws l c) (t : Wn l n k) : Wn l (n + 1) (c ++ k)
end
theorem Ws.append : ∀ {l l' : List Sh} {k k' : List AV}, Ws l k → Ws l' k' → Ws (l ++ l') (k ++ k')
  | _, _, _, _, .nil, h => h
  | _, _, _, _, .cons h t, h' => .cons h (t.append h')
theorem Ws.length : ∀ {l : List Sh} {k : List AV}, Ws l k → l.length = k.length
  | _, _, .nil => rfl
  | _, _, .cons _ t => by simp [t.length]
theorem VRm.append {φ : Env} {w : World} {B : Nat} : ∀ {l k : List AV} {off : Nat}, VRm φ w l B off → VRm φ w k B (off + l.length) → VRm φ w (l ++ k) B off
  | _, _, _, .nil, h => h
  | _, k, off, .cons (l := l) hc h t, h' => .cons hc h (t.append (by rw [List.length_cons] at h'; rwa [show off + (l.length + 1) = off + 1 + l.length by omega] at h'))
theorem VRs.mem {φ : Env} {w : World} {B : Nat} : ∀ {l : List AV} {vs : List Value} {off : Nat}, VRs φ w l vs → (∀ j u, vs[j]? = some u → w.cell? ⟨B, off + j, none⟩ = some u) → VRm φ w l B off
  | _, _, _, .nil, _ => .nil
  | _, _, off, .cons (u := u) h t, hc => .cons (by simpa using hc 0 u rfl) h (t.mem fun j v hj => by rw [show off + 1 + j = off + (j + 1) by omega]; exact hc (j + 1) v hj)
theorem mapM_get {α β : Type} {f : α → Option β} : ∀ {l : List α} {r : List β}, l.mapM f = some r → r.length = l.length ∧ ∀ (j : Nat) (x : α) (y : β), l[j]? = some x → r[j]? = some y → f x = some y
  | [], r, h => by
    simp at h; subst h
    exact ⟨rfl, fun j x y h => by simp at h⟩
  | a :: l, r, h => by
    simp only [List.mapM_cons, Option.bind_eq_bind, Option.bind_eq_some_iff, Option.pure_def, Option.some.injEq] at h
    obtain ⟨b, h1, r', h2, rfl⟩ := h
    obtain ⟨e1, e2⟩ := mapM_get h2
    refine ⟨by simp [e1], fun j x y hx hy => ?_⟩
    cases j with
    | zero => simp at hx hy; subst hx hy; exact h1
    | succ j => exact e2 j x y (by simpa using hx) (by simpa using hy)
section
variable {H : Type} {enc : TypeId × Value → H} {P : Program} {w : World} {base : Nat} {spare : Nat → Bool} {held : Bool}
def OpenAt (enc : TypeId × Value → H) (P : Program) (w : World) (base : Nat) (spare : Nat → Bool) (held : Bool) (fuel : Nat) : Prop :=
  ∀ (n : Nat) (t : TypeId) (cs : List Value) (x : DataW H × List MemPlace) (shs : List Sh), shOf P n t = some shs → DataW.trod enc P w base spare held fuel t cs = some x → (x.1.weights P t).all (· ≤ reachBytes) = true → ∃ avs, VRs none0 w avs cs ∧ Ws shs avs
theorem open_fs {fuel d : Nat} (ih : OpenAt enc P w base spare held fuel) {cs : List Value} : ∀ (fs : List Field) (n : Nat) (xs : List (DataW H × List MemPlace)) (shs : List Sh), shFs P (shOf P d) fs n = some shs → xs.length = fs.length →
    (∀ (i : Nat) (f : Field), fs[i]? = some f → DataW.trod enc P w base spare held fuel f.type ((cs.drop f.offset).take (P.cellsOf f.type)) = xs[i]?) → (DataW.weightsEach P (fs.map (·.type)) (xs.map (·.1))).all (· ≤ reachBytes) = true →
    ∃ avs, VRs none0 w avs ((cs.drop n).take shs.length) ∧ Ws shs avs
  | [], n, xs, shs, h, _, _, _ => by cases h; exact ⟨[], by simpa using VRs.nil, .nil⟩
  | f :: fs, n, [], shs, h, hl, _, _ => by simp at hl
  | f :: fs, n, x :: xs, shs, h, hl, ht, hw => by
    unfold shFs at h
    split at h
    · rename_i ho
      split at h
      · rename_i l hr
        split at h
        · rename_i hc
          obtain ⟨k, hk, rfl⟩ := Option.map_eq_some_iff.1 h
          simp only [List.map_cons, DataW.weightsEach, List.all_append, Bool.and_eq_true] at hw
          obtain ⟨a1, v1, w1⟩ := ih d f.type _ x l hr (ht 0 f rfl) hw.1
          obtain ⟨a2, v2, w2⟩ := open_fs ih fs (n + l.length) xs k hk (by simpa using hl) (fun i g hg => by simpa using ht (i + 1) g (by simpa using hg)) hw.2
          refine ⟨a1 ++ a2, ?_, w1.append w2⟩
          rw [List.length_append, List.take_add, List.drop_drop]
          rw [ho, hc] at v1
          exact v1.append v2
        · cases h
      · cases h
    · cases h
theorem open_all : ∀ fuel : Nat, OpenAt enc P w base spare held fuel
  | 0 => by intro n t cs x shs _ h _; simp [DataW.trod] at h
  | fuel + 1 => by
    intro n t cs x shs hs h hw
    have ih := open_all fuel
    cases n with
    | zero => cases hs
    | succ d =>
      unfold shOf at hs
      split at hs
      · rename_i k hu
        cases hs
        obtain ⟨n, rfl, rfl, hwf⟩ := DataW.trod_int hu h
        exact ⟨[.int k n], .cons (.int k n) .nil, .cons (.int k n hwf) .nil⟩
      · rename_i hu
        cases hs
        unfold DataW.trod at h
        rw [hu] at h
        split at h <;> simp_all
        rename_i b
        exact ⟨[.bool b], .cons (.bool b) .nil, .cons (.bool b) .nil⟩
      · rename_i hu
        cases hs
        obtain ⟨s, rfl, rfl, hs⟩ := DataW.trod_string hu h
        simp only [DataW.weights, List.all_cons, List.all_nil, Bool.and_true, decide_eq_true_eq] at hw
        exact ⟨[.str (s.data.toList.map fun c => c.toNat)], .cons (.str s) .nil, .cons (.str s (by simpa using hw)) .nil⟩
      · rename_i e hu
        split at hs
        · rename_i l hl
          split at hs
          · rename_i hc
            cases hs
            rcases DataW.trod_slice hu h with ⟨rfl, rfl⟩ | ⟨a, len, cap, elems, rest, m, hm, rfl, rfl, hb, hlc, _, hlen, hel, _, _⟩
            · exact ⟨[.nils], .cons .nils .nil, .cons (.nils _ _) .nil⟩
            · cases hm
              simp only [DataW.weights, hu, List.all_cons, List.all_append, Bool.and_eq_true, decide_eq_true_eq, List.length_map] at hw
              obtain ⟨hw1, hw2, _⟩ := hw
              have hbytes : len * P.bytesOf e ≤ reachBytes := Nat.le_trans (Nat.mul_le_mul_right _ (by omega)) hw1
              cases len with
              | zero => exact ⟨[.rs [] 0], .cons (.rs0 a cap) .nil, .cons (.rs (.nil _) hbytes) .nil⟩
              | succ len' =>
                generalize hL : len' + 1 = len at *
                have hwe : ∀ (i : Nat) (y : DataW H × List MemPlace), elems[i]? = some y → (y.1.weights P e).all (· ≤ reachBytes) = true := by
                  clear hel hlen h hw1 hbytes
                  induction elems with
                  | nil => intro i y hy; simp at hy
                  | cons z zs ihz =>
                    simp only [List.map_cons, DataW.weightsAll, List.all_append, Bool.and_eq_true] at hw2
                    intro i y hy
                    cases i with
                    | zero => simp at hy; subst hy; exact hw2.1
                    | succ i => exact ihz hw2.2 i y (by simpa using hy)
                have each : ∀ i, i < len → ∃ ecs avs, w.cells? base (a.add (i * P.cellsOf e)) (P.cellsOf e) = some ecs ∧ VRs none0 w avs ecs ∧ Ws l avs := by
                  intro i hi
                  have h1 := hel i hi
                  have h2 : elems[i]? = some elems[i] := List.getElem?_eq_getElem (by omega)
                  rw [h2] at h1
                  obtain ⟨ecs, h3, h4⟩ := Option.bind_eq_some_iff.1 h1
                  obtain ⟨avs, h5, h6⟩ := ih d e ecs _ l hl h4 (hwe i _ h2)
                  exact ⟨ecs, avs, h3, h5, h6⟩
                have cellsAt : ∀ {c : Addr} {k : Nat} {ecs : List Value}, w.cells? base c k = some ecs → ecs.length = k ∧ ∀ j u, ecs[j]? = some u → w.cell? (c.add j) = some u := by
                  intro c k ecs hk
                  unfold World.cells? at hk
                  split at hk
                  · obtain ⟨e1, e2⟩ := mapM_get hk
                    rw [List.length_range] at e1
                    refine ⟨e1, fun j u hj => e2 j j u ?_ hj⟩
                    have hjl : j < ecs.length := by
                      rcases Nat.lt_or_ge j ecs.length with h | h
                      · exact h
                      · rw [List.getElem?_eq_none h] at hj; cases hj
                    rw [List.getElem?_range (by omega)]
                  · cases hk
                obtain ⟨B, off, spot⟩ := a
                have hspot : spot = none ∧ B < w.heap.size := by
                  obtain ⟨ecs, avs, h1, h2, h3⟩ := each 0 (by omega)
                  obtain ⟨q1, q2⟩ := cellsAt h1
                  have h0 : 0 < ecs.length := by omega
                  have := q2 0 ecs[0] (List.getElem?_eq_getElem h0)
                  have ha : ((⟨B, off, spot⟩ : Addr).add (0 * P.cellsOf e)).add 0 = ⟨B, off, spot⟩ := by simp [Addr.add]
                  rw [ha] at this
                  unfold World.cell? at this
                  split at this
                  · rename_i c _ _ hh
                    split at this
                    · cases this
                    · rename_i hn
                      refine ⟨by simpa using hn, ?_⟩
                      rcases Nat.lt_or_ge B w.heap.size with h | h
                      · exact h
                      · rw [Array.getElem?_eq_none h] at hh; cases hh
                  · cases this
                obtain ⟨rfl, hB⟩ := hspot
                have all : ∀ k i, i + k = len → ∃ c, Wn l k c ∧ VRm none0 w c B (off + i * P.cellsOf e) := by
                  intro k
                  induction k with
                  | zero => intro i _; exact ⟨[], .nil _, .nil⟩
                  | succ k ihk =>
                    intro i hi
                    obtain ⟨c, c1, c2⟩ := ihk (i + 1) (by omega)
                    obtain ⟨ecs, avs, h1, h2, h3⟩ := each i (by omega)
                    obtain ⟨q1, q2⟩ := cellsAt h1
                    have hal : avs.length = P.cellsOf e := by rw [← h3.length]; exact hc.1
                    refine ⟨avs ++ c, .cons h3 c1, VRm.append (h2.mem fun j u hj => ?_) ?_⟩
                    · have := q2 j u hj
                      rw [add_none, add_none] at this
                      exact this
                    · rw [hal]
                      rw [Nat.add_mul, Nat.one_mul, ← Nat.add_assoc] at c2
                      exact c2
                obtain ⟨c, c1, c2⟩ := all len 0 (by omega)
                rw [Nat.zero_mul, Nat.add_zero] at c2
                exact ⟨[.rs c len], .cons (.rs hlc (fun b p hb => by cases hb) hB c2) .nil, .cons (.rs c1 hbytes) .nil⟩
          · cases hs
        · cases hs
      · rename_i fs hu
        split at hs
        · rename_i l hl
          split at hs
          · rename_i hc
            cases hs
            obtain ⟨xs, m, hm, rfl, hcl, hxl, hx⟩ := DataW.trod_struct hu h
            cases hm
            simp only [DataW.weights, hu] at hw
            obtain ⟨avs, v1, v2⟩ := open_fs ih fs.toList 0 xs _ hl (by simpa using hxl) (fun i f hf => hx i f (by simpa using hf)) hw
            refine ⟨avs, ?_, v2⟩
            rw [List.drop_zero, List.take_of_length_le (by omega)] at v1
            exact v1
          · cases hs
        · cases hs
      · cases hs
/-- an argument, opened -/
theorem open_arg {t : TypeId} {v : Value} {d : DataW H} {ps : List MemPlace} {n : Nat} {shs : List Sh} (hs : shOf P n t = some shs) (h : DataW.Trod enc P w base spare held t v d ps) (hw : (d.weights P t).all (· ≤ reachBytes) = true) :
    ∃ avs, VRs none0 w avs v.cells.toList ∧ Ws shs avs :=
  let ⟨fuel, hf⟩ := h
  open_all fuel n t _ _ shs hs hf hw
end
section
variable {α : Type}
/-- cells of things, one behind the other -/
inductive Cat (R : α → List AV → Prop) : List α → List AV → Prop
  | nil : Cat R [] []
  | cons {a : α} {l : List α} {c k : List AV} (h : R a c) (t : Cat R l k) : Cat R (a :: l) (c ++ k)
/-- a slice of things, each of so many bytes -/
def IsL (b : Nat) (R : α → List AV → Prop) (v : AV) (l : List α) : Prop := l.length * b ≤ reachBytes ∧ ((v = .nils ∧ l = []) ∨ ∃ c, v = .rs c l.length ∧ Cat R l c)
variable {R : α → List AV → Prop} {z b : Nat}
theorem Cat.length (hz : ∀ a c, R a c → c.length = z) : ∀ {l : List α} {c : List AV}, Cat R l c → c.length = l.length * z
  | _, _, .nil => by simp
  | _, _, .cons h t => by rw [List.length_append, hz _ _ h, t.length hz, List.length_cons, Nat.add_mul, Nat.one_mul, Nat.add_comm]
theorem Cat.append : ∀ {l l' : List α} {c c' : List AV}, Cat R l c → Cat R l' c' → Cat R (l ++ l') (c ++ c')
  | _, _, _, _, .nil, h => h
  | _, _, _, _, .cons (c := c) (k := k) h t, h' => by rw [List.append_assoc]; exact .cons h (t.append h')
theorem Cat.at (hz : ∀ a c, R a c → c.length = z) : ∀ {l : List α} {c : List AV}, Cat R l c → ∀ (i : Nat) (hi : i < l.length), ∃ ci r, c.drop (i * z) = ci ++ r ∧ R l[i] ci
  | _, _, .nil, i, hi => by simp at hi
  | _, _, .cons (c := c) (k := k) h t, 0, _ => ⟨c, k, by simp, h⟩
  | _, _, .cons (c := c) (k := k) h t, i + 1, hi => by
    obtain ⟨ci, r, e, hr⟩ := t.at hz i (by simpa using hi)
    refine ⟨ci, r, ?_, hr⟩
    rw [Nat.add_mul, Nat.one_mul, Nat.add_comm, ← List.drop_drop, ← hz _ _ h, List.drop_left]
    rw [hz _ _ h]; exact e
theorem Cat.told (ht : ∀ a c, R a c → AV.tolds c = true) : ∀ {l : List α} {c : List AV}, Cat R l c → AV.tolds c = true
  | _, _, .nil => rfl
  | _, _, .cons h t => by rw [tolds_append, ht _ _ h, t.told ht]; rfl
where tolds_append : ∀ {l k : List AV}, AV.tolds (l ++ k) = (AV.tolds l && AV.tolds k)
  | [], _ => by simp [AV.tolds]
  | x :: l, k => by rw [List.cons_append, AV.tolds, AV.tolds, tolds_append, Bool.and_assoc]
theorem IsL.told (ht : ∀ a c, R a c → AV.tolds c = true) {v : AV} {l : List α} (h : IsL b R v l) : v.told = true := by
  rcases h.2 with ⟨rfl, _⟩ | ⟨c, rfl, hc⟩
  · rfl
  · exact hc.told ht
theorem IsL.len {v : AV} {l : List α} (h : IsL b R v l) (hh : Heap) : lnV hh v = .val (.int .i64 l.length) hh := by
  rcases h.2 with ⟨rfl, rfl⟩ | ⟨c, rfl, _⟩ <;> rfl
theorem IsL.bound {v : AV} {l : List α} (h : IsL b R v l) (hb : 0 < b) : (l.length : Int) ≤ 140737488351232 := by
  have := h.1
  have h2 : l.length ≤ l.length * b := Nat.le_mul_of_pos_right _ hb
  have : l.length ≤ reachBytes := Nat.le_trans h2 this
  have e : reachBytes = 140737488351232 := rfl
  rw [e] at this
  omega
theorem IsL.at {v : AV} {l : List α} (h : IsL b R v l) (hz : ∀ a c, R a c → c.length = z) (i : Nat) (hi : i < l.length) :
    ∃ ci r, R l[i] ci ∧ ∀ (hh : Heap) (kk : IntKind), iaV hh z none v (.int kk (i : Int)) = .val (.rp (ci ++ r)) hh := by
  rcases h.2 with ⟨rfl, rfl⟩ | ⟨c, rfl, hc⟩
  · simp at hi
  · obtain ⟨ci, r, e, hr⟩ := hc.at hz i hi
    refine ⟨ci, r, hr, fun hh kk => ?_⟩
    rw [iaV_rs, if_pos ⟨by omega, by omega⟩]
    rw [Int.toNat_natCast, e]
theorem tolds_drop : ∀ {l : List AV} (i : Nat), AV.tolds l = true → AV.tolds (l.drop i) = true
  | _, 0, h => h
  | [], _ + 1, _ => rfl
  | _ :: l, i + 1, h => by
    simp only [AV.tolds, Bool.and_eq_true] at h
    exact tolds_drop i h.2
theorem IsL.get {v : AV} {l : List α} (h : IsL b R v l) (hz : ∀ a c, R a c → c.length = z) (ht : ∀ a c, R a c → AV.tolds c = true) (i : Nat) (hi : i < l.length) :
    ∃ ci r, R l[i] ci ∧ AV.tolds (ci ++ r) = true ∧ ∀ (hh : Heap) (kk : IntKind), iaV hh z none v (.int kk (i : Int)) = .val (.rp (ci ++ r)) hh := by
  rcases h.2 with ⟨rfl, rfl⟩ | ⟨c, rfl, hc⟩
  · simp at hi
  · obtain ⟨ci, r, e, hr⟩ := hc.at hz i hi
    refine ⟨ci, r, hr, by rw [← e]; exact tolds_drop _ (hc.told ht), fun hh kk => ?_⟩
    rw [iaV_rs, if_pos ⟨by omega, by omega⟩]
    rw [Int.toNat_natCast, e]
theorem isL_nil (b : Nat) (R : α → List AV → Prop) : IsL b R .nils [] := ⟨by simp, .inl ⟨rfl, rfl⟩⟩
/-- out of what a law is handed -/
theorem Wn.cat {ss : List Sh} (hR : ∀ c, Ws ss c → ∃ a, R a c) : ∀ {n : Nat} {c : List AV}, Wn ss n c → ∃ l : List α, l.length = n ∧ Cat R l c
  | _, _, .nil _ => ⟨[], rfl, .nil⟩
  | _, _, .cons h t => by
    obtain ⟨a, ha⟩ := hR _ h
    obtain ⟨l, e, hl⟩ := Wn.cat hR t
    exact ⟨a :: l, by simp [e], .cons ha hl⟩
theorem W.isL {ss : List Sh} (hR : ∀ c, Ws ss c → ∃ a, R a c) {v : AV} (h : W (.sl b ss) v) : ∃ l, IsL b R v l := by
  cases h with
  | nils => exact ⟨[], isL_nil _ _⟩
  | rs h hb =>
    obtain ⟨l, e, hl⟩ := h.cat hR
    exact ⟨l, by rw [e]; exact hb, .inr ⟨_, by rw [e], hl⟩⟩
end
structure Pt where
  x : Int
  y : Int
structure Feat where
  id : Int
  shape : Int
  rings : List (List Pt)
structure Mp where
  epoch : Int
  starts : List Int
  owners : List Int
structure Op where
  kind : Int
  f : Feat
  id : Int
  m : Mp
instance : DecidableEq Pt := fun a b => if h : a.x = b.x ∧ a.y = b.y then isTrue (by cases a; cases b; simp_all) else isFalse (by rintro rfl; simp at h)
end Go.Proofs.Ytlemediphmnffaa.VM
namespace Go.Proofs.Ytlemediphmnffaa.VM
open Go.RowKit
/-- nothing of what was there is changed -/
def Ext (h h' : Heap) : Prop := h.next ≤ h'.next ∧ ∀ b, b < h.next → h'.get b = h.get b
theorem Ext.refl (h : Heap) : Ext h h := ⟨Nat.le_refl _, fun _ _ => rfl⟩
theorem Ext.trans {a b c : Heap} (x : Ext a b) (y : Ext b c) : Ext a c := ⟨Nat.le_trans x.1 y.1, fun n hn => (y.2 n (Nat.lt_of_lt_of_le hn x.1)).trans (x.2 n hn)⟩
theorem Ext.mk {h : Heap} (x : Blk) : Ext h (h.mk' h.next x) := ⟨by rw [mk_next]; omega, fun b hb => by rw [Heap.get_mk, if_neg (by omega)]⟩
mutual
/-- numbers, truths, texts, slices and structs of them: nothing told, no functions, no maps -/
def AV.bare : AV → Bool
  | .undef | .bool _ | .int .. | .str _ | .nilp | .nils | .nilm | .nilf | .ptr .. | .sl .. => true
  | .agg l | .tup l => AV.bares l
  | _ => false
def AV.bares : List AV → Bool
  | [] => true
  | x :: l => x.bare && AV.bares l
end
mutual
def sh (n : Nat) : AV → AV
  | .ptr b off => .ptr (n + b) off
  | .sl b off len cap sz => .sl (n + b) off len cap sz
  | .agg l => .agg (shs n l)
  | .tup l => .tup (shs n l)
  | x => x
def shs (n : Nat) : List AV → List AV
  | [] => []
  | x :: l => sh n x :: shs n l
end
/-- memory with new blocks behind it -/
def lay (h : Heap) (h0 : Heap) (D : List Nat) : Nat → T Blk
  | 0 => h.t
  | m + 1 => (lay h h0 D m).set (h.next + m) (if m ∈ D then (match h0.get m with
    | some (.cells l e ver) => .cells (shs h.next l) e ver
    | _ => .dead) else .dead)
def laid (h h0 : Heap) (D : List Nat) : Heap := ⟨h.next + h0.next, lay h h0 D h0.next⟩
def blkOf : AV → List Nat
  | .sl b .. => [b]
  | _ => []
/-- a slice over the whole of its block, or none -/
def Row (h : Heap) (v : AV) (sz : Nat) (cs : List AV) (n : Nat) : Prop :=
  (v = .nils ∧ n = 0 ∧ cs = []) ∨ ∃ b e ver, v = .sl b 0 n n sz ∧ 0 < n ∧ b < h.next ∧ cs.length = n * sz ∧ h.get b = some (.cells cs e ver)
theorem Row.nil (h : Heap) (sz : Nat) : Row h .nils sz [] 0 := .inl ⟨rfl, rfl, rfl⟩
theorem Row.len {h : Heap} {v : AV} {sz n : Nat} {cs : List AV} (r : Row h v sz cs n) (hh : Heap) : lnV hh v = .val (.int .i64 n) hh := by
  rcases r with ⟨rfl, rfl, rfl⟩ | ⟨b, e, ver, rfl, _⟩ <;> rfl
theorem Row.one {h : Heap} {v : AV} {sz n : Nat} {cs : List AV} (r : Row h v sz cs n) : v.one = true := by
  rcases r with ⟨rfl, rfl, rfl⟩ | ⟨b, e, ver, rfl, _⟩ <;> rfl
theorem Row.bare {h : Heap} {v : AV} {sz n : Nat} {cs : List AV} (r : Row h v sz cs n) : v.bare = true := by
  rcases r with ⟨rfl, rfl, rfl⟩ | ⟨b, e, ver, rfl, _⟩ <;> rfl
theorem Row.lt {h : Heap} {v : AV} {sz n : Nat} {cs : List AV} (r : Row h v sz cs n) : ∀ b ∈ blkOf v, b < h.next := by
  rcases r with ⟨rfl, rfl, rfl⟩ | ⟨b, e, ver, rfl, _, h1, _⟩
  · intro b hb; simp [blkOf] at hb
  · intro c hc; simp [blkOf] at hc; omega
theorem Row.frame {h h' : Heap} {v : AV} {sz n : Nat} {cs : List AV} (r : Row h v sz cs n) (hn : h.next ≤ h'.next) (hg : ∀ b ∈ blkOf v, h'.get b = h.get b) : Row h' v sz cs n := by
  rcases r with ⟨rfl, rfl, rfl⟩ | ⟨b, e, ver, rfl, h0, h1, h2, h3⟩
  · exact .nil _ _
  · exact .inr ⟨b, e, ver, rfl, h0, by omega, h2, (hg b (by simp [blkOf])).trans h3⟩
theorem Row.ext {h h' : Heap} {v : AV} {sz n : Nat} {cs : List AV} (r : Row h v sz cs n) (e : Ext h h') : Row h' v sz cs n := r.frame e.1 fun b hb => e.2 b (r.lt b hb)
theorem Row.length {h : Heap} {v : AV} {sz n : Nat} {cs : List AV} (r : Row h v sz cs n) : cs.length = n * sz := by
  rcases r with ⟨rfl, rfl, rfl⟩ | ⟨b, e, ver, rfl, _, _, h2, _⟩
  · simp
  · exact h2
theorem cells_of {h : Heap} {b n sz : Nat} {c : List AV} {e : TypeId} {ver : Nat} (hg : h.get b = some (.cells c e ver)) (hl : c.length = n * sz) (cap : Nat) : cellsOf h sz n (.sl b 0 n cap sz) = some c := by
  simp only [cellsOf, Nat.le_refl, if_true, hg, cut_eq, List.drop_zero, ← hl, List.take_length]
/-- elements are put behind -/
theorem Row.append {h : Heap} {v x : AV} {sz n m : Nat} {cs c : List AV} (r : Row h v sz cs n) (hx : cellsOf h sz m x = some c) (hlx : lenV x = some m) (hm : 0 < m) (hl : c.length = m * sz) (ho : c.all AV.one = true) {bytes : Nat} (hb : (n + m) * bytes ≤ most2) (e : TypeId) :
    ∃ h', appendV h sz bytes e v x = some (.sl h.next 0 (n + m) (n + m) sz, h') ∧ Row h' (.sl h.next 0 (n + m) (n + m) sz) sz (cs ++ c) (n + m) ∧ h'.next = h.next + 1 ∧ ∀ b, b ∉ blkOf v → b ≠ h.next → h'.get b = h.get b := by
  rcases r with ⟨rfl, rfl, rfl⟩ | ⟨b, e0, ver, rfl, h0, h1, h2, h3⟩
  · refine ⟨h.mk' h.next (.cells c e 0), ?_, .inr ⟨h.next, e, 0, rfl, by omega, by rw [mk_next]; omega, by rw [List.nil_append, hl, Nat.zero_add], by rw [Heap.get_mk, if_pos rfl, List.nil_append]⟩, by rw [mk_next]; omega, fun b _ hb => by rw [Heap.get_mk, if_neg hb]⟩
    simp only [appendV, hlx, hx, hl, ho, and_self, if_true]
    rw [if_neg (by omega), if_pos (by rwa [Nat.zero_add] at hb), Nat.zero_add]
  · refine ⟨(h.put b .dead).mk' h.next (.cells (cs ++ c) e 0), ?_, .inr ⟨h.next, e, 0, rfl, by omega, ?_, ?_, by rw [Heap.get_mk, if_pos rfl]⟩, ?_, fun b' hb' hb => ?_⟩
    · have hbq : Nat.beq sz sz = true := by rw [Nat.beq_eq]
      simp only [appendV, hlx, hx, hl, ho, and_self, if_true, hbq, cond_true, cells_of h3 h2]
      rw [if_neg (by omega), if_pos hb]
    · rw [mk_next, put_next]; omega
    · rw [List.length_append, h2, hl, Nat.add_mul]
    · rw [mk_next, put_next]; omega
    · rw [Heap.get_mk, if_neg hb, Heap.get_put, if_neg (by simpa [blkOf] using hb')]
/-- one element of a literal -/
theorem Row.push {h : Heap} {v : AV} {sz n nb : Nat} {cs c : List AV} (r : Row h v sz cs n) {eb : TypeId} {vb : Nat} (hg : h.get nb = some (.cells c eb vb)) (hl : c.length = sz) (ho : c.all AV.one = true) {bytes : Nat} (hb : (n + 1) * bytes ≤ most2) (e : TypeId) :
    ∃ h', appendV h sz bytes e v (.sl nb 0 1 1 sz) = some (.sl h.next 0 (n + 1) (n + 1) sz, h') ∧ Row h' (.sl h.next 0 (n + 1) (n + 1) sz) sz (cs ++ c) (n + 1) ∧ h'.next = h.next + 1 ∧ ∀ b, b ∉ blkOf v → b ≠ h.next → h'.get b = h.get b :=
  r.append (cells_of hg (by rw [hl, Nat.one_mul]) 1) rfl (by decide) (by rw [hl, Nat.one_mul]) ho hb e
/-- an element of a row, by its place -/
theorem Row.at {h : Heap} {v : AV} {sz n : Nat} {cs : List AV} (r : Row h v sz cs n) {i : Nat} (hi : i < n) : ∃ b e ver, v = .sl b 0 n n sz ∧ h.get b = some (.cells cs e ver) ∧ b < h.next ∧ ∀ (hh : Heap) (kk : IntKind), iaV hh sz none v (.int kk (i : Int)) = .val (.ptr b (i * sz)) hh := by
  rcases r with ⟨rfl, rfl, rfl⟩ | ⟨b, e0, ver, rfl, h0, h1, h2, h3⟩
  · omega
  · refine ⟨b, e0, ver, rfl, h3, h1, fun hh kk => ?_⟩
    rw [iaV_sl, if_pos ⟨by omega, by omega, rfl⟩, Int.toNat_natCast, Nat.zero_add]
end Go.Proofs.Ytlemediphmnffaa.VM
namespace Go.Proofs.Ytlemediphmnffaa.VM
theorem hn_l (n k : Nat) : (n = n + k) = (k = 0) := by rw [eq_iff_iff]; omega
theorem hn_r (n k : Nat) : (n + k = n) = (k = 0) := by rw [eq_iff_iff]; omega
def HN := And.intro @hn_l (And.intro @hn_r @Nat.add_assoc)
theorem Ext.putn {h h' : Heap} (x : Ext h h') {b : Nat} (hb : h.next ≤ b) (o : Blk) : Ext h (h'.put b o) := ⟨x.1, fun c hc => by rw [Heap.get_put, if_neg (by omega)]; exact x.2 c hc⟩
section
variable {h h' : Heap} {L : List (Nat × List AV)} {b e v : Nat} {l l' : List AV}
theorem Ext.new {h : Heap} {o o' : Blk} : Ext h ((h.mk' h.next o).put h.next o') := (Ext.mk o).putn (Nat.le_refl _) _
end
theorem eqv_p0 {b o : Nat} : eqv .ptr (.ptr b o) .nilp = some false := rfl
theorem eqv_p1 : eqv .ptr .nilp .nilp = some true := rfl
def blk : Nat → VCode → VCode
  | 0, .seq a _ => a
  | n + 1, .seq _ b => blk n b
  | _, x => x
theorem nat_of {k : IntKind} {n y : Nat} (h : n ≤ y) : natOf (.int k (n : Int)) y = some n := by
  show (if 0 ≤ (n : Int) ∧ (n : Int) ≤ (y : Int) then some (n : Int).toNat else none) = some n
  rw [if_pos ⟨by omega, by omega⟩, Int.toNat_natCast]
section
variable {b off len cap sz lo hi mx : Nat} {k1 k2 k3 : IntKind}
theorem slVhi (h2 : hi ≤ cap) : sliceV sz (.sl b off len cap sz) none (some (.int k2 (hi : Int))) none = some (.sl b off hi cap sz) := by
  simp [sliceV, bounds, nat_of h2]
theorem slVlo (h1 : lo ≤ len) : sliceV sz (.sl b off len cap sz) (some (.int k1 (lo : Int))) none none = some (.sl b (off + lo * sz) (len - lo) (cap - lo) sz) := by
  simp [sliceV, bounds, nat_of h1]
end
end Go.Proofs.Ytlemediphmnffaa.VM
namespace Go.Proofs.Ytlemediphmnffaa.VM
open Go.RowKit Go.Shelf Go.Sort
section
variable {P : Program} {φ φ' : Env} {w w' : World} {H : Heap}
theorem VRs.ints : ∀ {zs : List Int} {us : List Value}, VRs φ w (zs.map (AV.int .i64)) us → us = zs.map (Value.int .i64)
  | [], _, h => by cases h; rfl
  | z :: zs, _, h => by
    cases h with | cons h t =>
    cases h
    rw [t.ints]; rfl
theorem VRs.ofInts : ∀ {zs : List Int}, VRs φ w (zs.map (AV.int .i64)) (zs.map (Value.int .i64))
  | [] => .nil
  | z :: zs => .cons (.int _ _) VRs.ofInts
/-- numbers, rising -/
def isort (zs : List Int) : List Int := zs.mergeSort fun x y => decide (x ≤ y)
end
end Go.Proofs.Ytlemediphmnffaa.VM
namespace Go.Proofs.Ytlemediphmnffaa.VM
open Go.RowKit
section
variable {P : Program} {φ φ' : Env} {w w' : World} {h h' : Heap} {s s' : T AV} {nt : Nat} {a : Act}
def VOp.rg : VOp → Bool
  | .range _ | .next _ | .entry _ => true
  | _ => false
theorem cop_rg {o : Oper} {op : VOp} (h : cOp P o = some op) (hr : op.rg = true) :
    (∃ t y kt e x, o.op = .range t y ∧ P.underlying t = some (.map kt e) ∧ cOpd y = some x ∧ op = .range x) ∨ (∃ y x, o.op = .next y false ∧ cOpd y = some x ∧ op = .next x) ∨ ∃ y x, o.op = .entry y ∧ cOpd y = some x ∧ op = .entry x := by
  obtain ⟨dst, oop, type, pos, after, guard⟩ := o
  unfold cOp at h
  cases oop
  case range t y =>
    simp only at h
    split at h
    · rename_i kt e ht
      obtain ⟨x, hx, rfl⟩ := Option.map_eq_some_iff.1 h
      exact .inl ⟨t, y, kt, e, x, rfl, ht, hx, rfl⟩
    · cases h
  case next y b =>
    cases b with
    | true => cases h
    | false =>
      obtain ⟨x, hx, rfl⟩ := Option.map_eq_some_iff.1 h
      exact .inr (.inl ⟨y, x, rfl, hx, rfl⟩)
  case entry y =>
    obtain ⟨x, hx, rfl⟩ := Option.map_eq_some_iff.1 h
    exact .inr (.inr ⟨y, x, rfl, hx, rfl⟩)
  all_goals
    exfalso
    simp only at h
    try unfold cCall at h
    repeat' first
      | (cases h; done)
      | contradiction
      | (cases h; cases hr; done)
      | split at h
      | (rw [Option.map_eq_some_iff] at h; obtain ⟨_, _, rfl⟩ := h; cases hr; done)
      | (rw [Option.bind_eq_some_iff] at h; obtain ⟨_, _, h⟩ := h)
theorem op_step {ρ : Option Nat} {o : Oper} {vo : VO} {ops : Array Oper} {i : Nat} (ho : cOper P nt ops o = some vo) (hi : ops[i]? = some o) (hg : vo.guard = none) {rest : List Nat} {Q : Exit → Act → World → Prop} {u : Value} (run : (execOp a.eval o).run P w = .ok (.value u) w') (nd : ∀ c, o.op ≠ .defer c)
    (k : wpOpsIn (fen ρ) 0 P ops Q rest (a.put vo.dst u) w') : wpOpsIn (fen ρ) 0 P ops Q (i :: rest) a w := by
  obtain ⟨_, hdst, _, hgd⟩ := coper_spec ho
  have h1 : o.guard = none := by
    rcases hgd with ⟨h1, _⟩ | ⟨j, want, t, _, _, h3⟩
    · exact h1
    · rw [hg] at h3; cases h3
  have hw : Region.wanted o (yielded ops a.tmps) = true := by simp [Region.wanted, h1]
  simp only [wpOpsIn, hi, hw, if_true]
  unfold Oper.wpIn
  refine ⟨fun _ _ => trivial, ?_⟩
  rw [Oper.semAt_eq _ _ _ nd, run, Oper.uponIn_value, ← hdst]
  exact k
theorem cop_of {o : Oper} {vo : VO} {ops : Array Oper} (ho : cOper P nt ops o = some vo) (hr : vo.op.rg = true) : cOp P o = some vo.op ∧ vo.dst.all (· < nt) = true := by
  obtain ⟨h1, h2, h3, _⟩ := coper_spec ho
  cases hc : cOp P o with
  | none => rw [hc] at h1; rw [h1] at hr; cases hr
  | some op => rw [hc] at h1; exact ⟨by rw [h1]; rfl, by rw [h2]; exact h3⟩
theorem opd_tmp {x : Operand} {t : Nat} (h : cOpd x = some (.t t)) : x = .tmp t := by
  cases x with
  | tmp t' => cases h; rfl
  | const v => simp only [cOpd, Option.map_eq_some_iff] at h; obtain ⟨_, _, h⟩ := h; cases h
  | func f => simp only [cOpd] at h; split at h <;> cases h
  | global g => cases h
/-- values let go: what is no truth may be forgotten -/
def LetS (s s' : T AV) : Prop := ∀ t, sg s' t = sg s t ∨ (sg s' t = .undef ∧ ∀ b, sg s t ≠ .bool b)
theorem LetS.refl (s : T AV) : LetS s s := fun _ => .inl rfl
theorem VR.notB {x : AV} {u : Value} (h : ∀ b, x ≠ .bool b) (v : VR φ w x u) : isB u = false := by
  cases v <;> first | rfl | assumption | exact absurd rfl (h _)
theorem SR.lets (hs : SR φ w nt ⟨s, h⟩ a) (l : LetS s s') (h' : Heap) : SR φ w nt ⟨s', h'⟩ a := by
  refine ⟨hs.size, fun t => ?_⟩
  have := hs.get t
  rw [stget_eq] at this ⊢
  rcases l t with e | ⟨e, hb⟩
  · rw [e]; exact this
  · rw [e]; exact .undef (this.notB hb)
/-- blocks let go -/
def Killed (h h' : Heap) : Prop := h.next ≤ h'.next ∧ ∀ b, h'.get b = h.get b ∨ (h'.get b = some .dead ∧ b < h'.next)
theorem Killed.refl (h : Heap) : Killed h h := ⟨Nat.le_refl _, fun _ => .inl rfl⟩
theorem Killed.live (k : Killed h h') {b : Nat} (hl : live (h'.get b) = true) : live (h.get b) = true := by
  rcases k.2 b with e | ⟨e, _⟩
  · rwa [e] at hl
  · rw [e] at hl; cases hl
theorem killed_ok (hr : HR φ w h) (k : Killed h h') : HR φ w h' := by
  refine ⟨fun b => ?_, hr.lt, fun b b' p p' h1 h2 => hr.inj b b' p p' (k.live h1) (k.live h2), fun b hb => ?_⟩
  · rcases k.2 b with e | ⟨e, _⟩
    · rw [e]; exact hr.blk b
    · rw [e]; trivial
  · rcases k.2 b with e | ⟨_, e⟩
    · rw [e]; exact hr.next b (Nat.le_trans k.1 hb)
    · omega
theorem updH_killed (k : Killed h h') : UpdH φ w h φ w h' :=
  { toUpd := Upd.refl _ _
    keepL := fun _ _ _ => rfl
    deadL := fun b h1 h2 => by
      rcases k.2 b with e | ⟨e, _⟩
      · rw [e]; exact ⟨h1, h2, rfl⟩
      · rw [e]; exact ⟨by simp, rfl, rfl⟩
    newL := fun b B o h1 h2 => .inl ⟨b, o, k.live h1, h2⟩
    stay := fun b h1 => by
      rcases k.2 b with e | ⟨e, _⟩
      · rw [e]; exact h1
      · rw [e]; simp }
theorem VRs.nth {l : List AV} {us : List Value} (h : VRs φ w l us) {i : Nat} (h1 : i < l.length) (h2 : i < us.length) : VR φ w l[i] us[i] := by
  obtain ⟨u, e, v⟩ := h.get (i := i) (x := l[i]) (by simp)
  rw [List.getElem?_eq_getElem h2] at e
  cases e
  exact v
end
end Go.Proofs.Ytlemediphmnffaa.VM
namespace Go.Proofs.Ytlemediphmnffaa.VM
open Go.RowKit
section
variable {P : Program}
/-- what the rounds of a loop over a map come to, in whatever row; some may leave it -/
structure Rounds (P : Program) (es : List (AV × AV)) (it nx mr pr nxt out : Nat) (aso : List VO) (body : VCode) (mb ib : Nat) (S : List Nat → T AV) (H : List Nat → Heap) (bad : Nat → Prop) (exb : Ex) (Sb : T AV) (hb : Heap) (Sf : T AV) (hf : Heap) : Prop where
  hit : ∀ p, sg (S p) it = .ptr ib 0
  hmb : ∀ p, (H p).get mb = some .dead
  hib : ∀ p, (H p).get ib = some .dead
  rnd : ∀ (p : List Nat) (i : Nat) (hi : i < es.length), p.Nodup → (∀ j ∈ p, j < es.length ∧ ¬ bad j) → i ∉ p →
    Ev P (.seq (.ops aso) body) ((((S p).set nx (.tup [.bool true, es[i].1, es[i].2])).set mr (.bool true)).set pr (.tup [es[i].1, es[i].2])) (H p) (Un P [] fun ex s' h' =>
      (¬ bad i ∧ (ex = .normal ∨ ex = .exit nxt) ∧ LetS s' (S (p ++ [i])) ∧ Killed h' (H (p ++ [i]))) ∨ (bad i ∧ ex = exb ∧ LetS s' Sb ∧ Killed h' hb))
  ret : exb = .ret ∨ ∃ j, exb = .exit j ∧ j ≠ nxt ∧ j ≠ out
  mbb : hb.get mb = some .dead
  mbf : hf.get mb = some .dead
  done : ∀ p : List Nat, p.Perm (List.range es.length) → (∀ j ∈ p, ¬ bad j) → LetS (((S p).set nx (.tup [.bool false])).set mr (.bool false)) Sf ∧ Killed (H p) hf
theorem ext_det {s : T AV} {h : Heap} {nx mr : Nat} {l : List AV} {b : Bool} (e : sg s nx = .tup (.bool b :: l)) : DetO P [⟨some mr, none, .extract (.t nx) 0⟩] ⟨s, h⟩ ⟨s.set mr (.bool b), h⟩ := by
  obtain ⟨s', h', d, rfl, rfl⟩ := EvO.det (P := P) (Q := fun s' h' => s' = s.set mr (.bool b) ∧ h' = h) (l := [⟨some mr, none, .extract (.t nx) 0⟩]) (s := s) (h := h) (by
    rw [EvO]
    simp [wanted, vop, eval_eq, ev, e, valO, EvO, setd])
  exact d
variable {φ φ0 : Env} {w w0 : World} {h h2 : Heap}
theorem restore (hr0 : HR φ0 w0 h) {mb : Nat} {es : List (AV × AV)} {ver : Nat} (hg : h.get mb = some (.map es ver)) {B oB : Nat} (hφ : φ0 mb = some (B, oB)) {vs : Array MapEntry} {clock : Nat} (hk : VRs φ0 w0 (es.map (·.1)) (vs.toList.map (·.key))) (hv : VRs φ0 w0 (es.map (·.2)) (vs.toList.map (·.val))) (hst : Stm vs clock)
    (hr : HR φ w h2) (u : UpdH φ0 w0 (h.put mb .dead) φ w h2) (hmi : w.heap[B]? = some (.map vs clock)) (nl : ∀ b q, live (h2.get b) = true → φ b = some q → q.1 ≠ B) (hd : h2.get mb = some .dead) :
    HR φ w (h2.put mb (.map es ver)) ∧ UpdH φ0 w0 h φ w (h2.put mb (.map es ver)) := by
  have hφ' := u.ext _ _ hφ
  have hlv : ∀ b, live ((h.put mb .dead).get b) = true → live (h.get b) = true := fun b hb => by
    rw [Heap.get_put] at hb
    by_cases e : b = mb
    · rw [if_pos e] at hb; cases hb
    · rwa [if_neg e] at hb
  refine ⟨⟨fun b => ?_, hr.lt, fun b b' p p' h1 h2' e1 e2 e3 => ?_, fun b hb => ?_⟩, ⟨u.toUpd, fun B' hB' hn => ?_, fun b h1 h2' => ?_, fun b B' o h1 h2' => ?_, fun b h1 => ?_⟩⟩
  · rw [Heap.get_put]
    by_cases e : b = mb
    · rw [if_pos e, e]
      exact ⟨B, oB, vs, clock, hφ', hmi, hk.upd u.toUpd, hv.upd u.toUpd, hst⟩
    · rw [if_neg e]; exact hr.blk b
  · rw [Heap.get_put] at h1 h2'
    by_cases c1 : b = mb
    · by_cases c2 : b' = mb
      · rw [c1, c2]
      · rw [if_neg c2] at h2'
        rw [c1, hφ'] at e1
        cases e1
        exact absurd e3.symm (nl b' p' h2' e2)
    · rw [if_neg c1] at h1
      by_cases c2 : b' = mb
      · rw [c2, hφ'] at e2
        cases e2
        exact absurd e3 (nl b p h1 e1)
      · rw [if_neg c2] at h2'
        exact hr.inj b b' p p' h1 h2' e1 e2 e3
  · rw [Heap.get_put]
    have := hr.next b hb
    rw [if_neg (fun e => by rw [e, hd] at this; cases this)]
    exact this
  · exact u.keepL B' hB' fun b p h1 h2' => hn b p (hlv b h1) h2'
  · have hne : b ≠ mb := fun e => by rw [e, hg] at h2'; cases h2'
    have e1 : (h.put mb .dead).get b = h.get b := by rw [Heap.get_put, if_neg hne]
    have := u.deadL b (by rw [e1]; exact h1) (by rw [e1]; exact h2')
    rw [Heap.get_put, if_neg hne]
    exact this
  · by_cases c : b = mb
    · rw [c, hφ'] at h2'
      cases h2'
      exact .inl ⟨mb, _, by rw [hg]; rfl, hφ⟩
    · rw [Heap.get_put, if_neg c] at h1
      rcases u.newL b B' o h1 h2' with ⟨b0, o0, g1, g2⟩ | g
      · exact .inl ⟨b0, o0, hlv b0 g1, g2⟩
      · exact .inr g
  · rw [Heap.get_put]
    by_cases c : b = mb
    · rw [if_pos c]; simp
    · rw [if_neg c]
      exact u.stay b (by rw [Heap.get_put, if_neg c]; exact h1)
/-- a step of the iterator -/
theorem iter_step {r B since c0 : Nat} {seen : Array Nat} (hri : w.heap[r]? = some (.mapIter (some B) since seen c0)) {ib : Nat} (fi : φ ib = some (r, 0)) {w1 : World} (hal : w1 = w ∨ w1 = w.drew) (seen' : Array Nat) (c' : Nat) :
    Upd φ w φ (Go.ChangeMaps.setBlock w1 r (.mapIter (some B) since seen' c')) ∧ (Go.ChangeMaps.setBlock w1 r (.mapIter (some B) since seen' c')).heap[r]? = some (.mapIter (some B) since seen' c') ∧ ∀ i, i ≠ r → (Go.ChangeMaps.setBlock w1 r (.mapIter (some B) since seen' c')).heap[i]? = w.heap[i]? := by
  have hr1 : w1.heap[r]? = some (.mapIter (some B) since seen c0) := by rcases hal with rfl | rfl <;> exact hri
  obtain ⟨s1, s2⟩ := Go.MapKept.heap_set (o' := .mapIter (some B) since seen' c') hr1
  have s3 : ∀ i, i ≠ r → (Go.ChangeMaps.setBlock w1 r (.mapIter (some B) since seen' c')).heap[i]? = w.heap[i]? := fun i hi => (s2 i hi).trans (by rcases hal with rfl | rfl <;> rfl)
  refine ⟨⟨?_, ?_, ?_, ?_, fun _ _ e => e, fun _ _ _ e => .inl ⟨_, _, e⟩, fun B' _ hn => s3 B' fun e => hn _ _ fi e.symm, fun B' x hx => ?_, ?_⟩, s1, s3⟩
  · rcases hal with rfl | rfl <;> rfl
  · rcases hal with rfl | rfl <;> rfl
  · rcases hal with rfl | rfl <;> rfl
  · rcases hal with rfl | rfl <;> simp [Go.ChangeMaps.setBlock]
  · by_cases e : B' = r
    · subst e
      simp [World.shape?, hri] at hx
    · simpa only [World.shape?, s3 B' e] using hx
  · rcases hal with rfl | rfl
    · exact dr_le (Nat.le_refl _)
    · exact dr_le (Nat.le_succ _)
theorem same_live {φ : Env} {w w' : World} {H : Heap} (hr : HR φ w H) (u : Upd φ w φ w') (k : ∀ b q, live (H.get b) = true → φ b = some q → w'.heap[q.1]? = w.heap[q.1]?) : HR φ w' H := by
  refine ⟨fun b => ?_, fun b p e => Nat.lt_of_lt_of_le (hr.lt b p e) u.size, hr.inj, hr.next⟩
  cases hl : live (H.get b) with
  | true => exact BR.upd hr u hl fun p hp => k b p hl hp
  | false =>
    have := hr.blk b
    cases hg : H.get b with
    | none => rw [hg] at this; exact this
    | some o =>
      cases o with
      | dead => trivial
      | _ => rw [hg] at hl; cases hl
end
end Go.Proofs.Ytlemediphmnffaa.VM
namespace Go.Proofs.Ytlemediphmnffaa.VM
open Go.RowKit
section
variable {P : Program} {φ0 : Env} {w0 : World} {h : Heap}
/-- between two rounds -/
structure RAt (es : List (AV × AV)) (mb ib r B clock : Nat) (vs : Array MapEntry) (S : List Nat → T AV) (H : List Nat → Heap) (bad : Nat → Prop) (φ0 : Env) (w0 : World) (h : Heap) (a0 : Act) (nt : Nat) (p : List Nat) (φ : Env) (w : World) (a : Act) (seen : Array Nat) : Prop where
  nd : p.Nodup
  pl : ∀ j ∈ p, j < es.length ∧ ¬ bad j
  s : SR φ w nt ⟨S p, H p⟩ a
  hr : HR φ w (H p)
  u : UpdH φ0 w0 (h.put mb .dead) φ w (H p)
  m : MK φ0 w0 a0 φ w a
  fi : φ ib = some (r, 0)
  sn : seen.toList = p.map fun j => (vs.toList.map (·.born)).getD j 0
  hri : w.heap[r]? = some (.mapIter (some B) clock seen clock)
  hmi : w.heap[B]? = some (.map vs clock)
  nl : ∀ b q, live ((H p).get b) = true → φ b = some q → q.1 ≠ r ∧ q.1 ≠ B
theorem perm_of_all {p : List Nat} {n : Nat} (nd : p.Nodup) (pl : ∀ j ∈ p, j < n) (all : ∀ i, i < n → i ∈ p) : p.Perm (List.range n) := by
  refine (List.perm_ext_iff_of_nodup nd List.nodup_range).2 fun i => ⟨fun hi => List.mem_range.2 (pl i hi), fun hi => all i (List.mem_range.1 hi)⟩
theorem nl_step {φ φ' : Env} {w w' : World} {H H' : Heap} {X : Nat} (nl : ∀ b q, live (H.get b) = true → φ b = some q → q.1 ≠ X) (u : UpdH φ w H φ' w' H') (hX : X < w.heap.size) : ∀ b q, live (H'.get b) = true → φ' b = some q → q.1 ≠ X := by
  rintro b ⟨B', o⟩ h1 h2 e
  rcases u.newL b B' o h1 h2 with ⟨b0, o0, g1, g2⟩ | g
  · exact nl b0 _ g1 g2 e
  · simp only at e; omega
theorem keep_step {φ φ' : Env} {w w' : World} {H H' : Heap} {X : Nat} (nl : ∀ b q, live (H.get b) = true → φ b = some q → q.1 ≠ X) (u : UpdH φ w H φ' w' H') (hX : X < w.heap.size) : w'.heap[X]? = w.heap[X]? := u.keepL X hX nl
theorem updH_iter {φ : Env} {w w2 : World} {hd H : Heap} {r : Nat} (u : UpdH φ0 w0 hd φ w H) (U : Upd φ w φ w2) (k : ∀ i, i ≠ r → w2.heap[i]? = w.heap[i]?) (hr : w0.heap.size ≤ r) : UpdH φ0 w0 hd φ w2 H :=
  { toUpd := u.toUpd.trans U, keepL := fun B' hB hn => (k B' (by omega)).trans (u.keepL B' hB hn), deadL := u.deadL, newL := u.newL, stay := u.stay }
theorem DetO.run {l : List VO} {st st' : St} (d : DetO P l st st') {ρ : Option Nat} {nt : Nat} {ops : Array Oper} {is : List Nat} (r : Rel P nt ops is l) {φ : Env} {w : World} {a : Act} {Q : Exit → Act → World → Prop} (hs : SR φ w nt st a) (hr : HR φ w st.h)
    (k : ∀ φ' a' w', SR φ' w' nt st' a' → HR φ' w' st'.h → UpdH φ w st.h φ' w' st'.h → a'.defers = a.defers → Q .normal a' w') : wpOpsIn (fen ρ) 0 P ops Q is a w := by
  have := d ρ nt ops is [] r φ w a Q hs hr k
  rwa [List.append_nil] at this
theorem put_defers (a : Act) (d : Option Tmp) (u : Value) : (a.put d u).defers = a.defers := by cases d <;> rfl
theorem lt_of_get {w : World} {r : Nat} {o : Obj} (h : w.heap[r]? = some o) : r < w.heap.size := (Array.getElem?_eq_some_iff.1 h).1
theorem range_loop (hm : P.follows .mixedOrders = true) {es : List (AV × AV)} {it nx mr pr nxt out : Nat} {aso : List VO} {body : VCode} {mb ib : Nat} {S : List Nat → T AV} {H : List Nat → Heap} {bad : Nat → Prop} {exb : Ex} {Sb : T AV} {hb : Heap} {Sf : T AV} {hf : Heap}
    (RR : Rounds P es it nx mr pr nxt out aso body mb ib S H bad exb Sb hb Sf hf) (hit : it ≠ nx ∧ it ≠ mr ∧ nx ≠ mr) {ver : Nat} {ρ : Option Nat} (hρ : ρ = none ∨ body.flat = true) (hr0 : HR φ0 w0 h) (hg : h.get mb = some (.map es ver)) {B oB : Nat} (hφ : φ0 mb = some (B, oB)) {vs : Array MapEntry} {clock : Nat}
    (hk : VRs φ0 w0 (es.map (·.1)) (vs.toList.map (·.key))) (hv : VRs φ0 w0 (es.map (·.2)) (vs.toList.map (·.val))) (hst : Stm vs clock) {a0 : Act} {nt : Nat} {r : Nat} (hrw : w0.heap.size ≤ r) {bb : Code} (hbb : cCode P nt bb = some (rgBody it out nx mr nxt pr aso body)) {R : Exit → Act → World → Prop}
    (hN : (∀ i, i < es.length → ¬ bad i) → ∀ φ' a' w', SR φ' w' nt ⟨Sf, hf.put mb (.map es ver)⟩ a' → HR φ' w' (hf.put mb (.map es ver)) → UpdH φ0 w0 h φ' w' (hf.put mb (.map es ver)) → MK φ0 w0 a0 φ' w' a' → R .normal a' w')
    (hB : (∃ i, i < es.length ∧ bad i) → ∀ φ' a' w', SR φ' w' nt ⟨Sb, hb.put mb (.map es ver)⟩ a' → HR φ' w' (hb.put mb (.map es ver)) → UpdH φ0 w0 h φ' w' (hb.put mb (.map es ver)) → MK φ0 w0 a0 φ' w' a' → R exb.out a' w') :
    ∀ (n : Nat) (p : List Nat) (φ : Env) (w : World) (a : Act) (seen : Array Nat), RAt es mb ib r B clock vs S H bad φ0 w0 h a0 nt p φ w a seen → (leftOf vs seen).size < n → LoopWp ρ P bb (Exit.inBlock out R) a w := by
  have hlen : es.length = vs.size := by have := hk.length; simpa using this
  have hBw : B < w0.heap.size := hr0.lt _ _ hφ
  unfold rgBody at hbb
  obtain ⟨c1, c2, rfl, d1, d2⟩ := code_inv hbb
  obtain ⟨id1, ops1, rfl, l1⟩ := code_inv d1
  obtain ⟨c3, c4, rfl, d3, d4⟩ := code_inv d2
  obtain ⟨cc, ct, ce, rfl, e1, e2, e3⟩ := code_inv d3
  obtain ⟨c5, rfl, d5⟩ := code_inv d4
  obtain ⟨c6, c7, rfl, d6, d7⟩ := code_inv d5
  obtain ⟨id2, ops2, rfl, l2⟩ := code_inv d6
  obtain rfl := code_inv e2
  obtain rfl := code_inv e3
  intro n
  induction n with
  | zero =>
    intro p φ w a seen A hn
    omega
  | succ n ih =>
    intro p φ w a seen A hn
    have hrl := lt_of_get A.hri
    have hBl := lt_of_get A.hmi
    have nlr : ∀ b q, live ((H p).get b) = true → φ b = some q → q.1 ≠ r := fun b q h1 h2 => (A.nl b q h1 h2).1
    have nlB : ∀ b q, live ((H p).get b) = true → φ b = some q → q.1 ≠ B := fun b q h1 h2 => (A.nl b q h1 h2).2
    apply LoopWp.round
    apply wpIn_seq
    refine wpIn_region ?_
    have rel1 := rel_all l1
    generalize List.range ops1.size = is1 at rel1 ⊢
    cases rel1 with
    | cons g1 g2 t1 =>
    rename_i i1 o1 is1
    have hv0 := A.s.get it
    rw [stget_eq, RR.hit] at hv0
    have hev : a.eval (.tmp it) = .pointer (some ⟨r, 0, none⟩) := by
      show a.tmps.getD it undef = _
      generalize a.tmps.getD it undef = u at hv0
      cases hv0 with
      | ptr hp0 => rw [A.fi] at hp0; cases hp0; rfl
    obtain ⟨k1, k2⟩ := cop_of g2 rfl
    rcases cop_rg k1 rfl with ⟨_, _, _, _, _, _, _, _, e⟩ | ⟨y, x, hop, hx, e⟩ | ⟨_, _, _, _, e⟩
    · cases e
    rotate_left
    · cases e
    cases e
    obtain rfl := opd_tmp hx
    rcases run_next_at (P := P) w o1.type r B clock clock seen vs clock A.hri A.hmi hst.1 (Nat.le_refl _) with ⟨h0, hrun⟩ | ⟨e, he, w1, hal, hrun⟩
    · -- nothing is left
      refine op_step g2 g1 rfl (u := .tuple #[.bool false]) (w' := w) (by simp [execOp, hop, hev, hrun, Result.andThen]) (fun c e => by rw [hop] at e; cases e) ?_
      have hs1 : SR φ w nt ⟨(S p).set nx (.tup [.bool false]), H p⟩ (a.put (some nx) (.tuple #[.bool false])) := A.s.put k2 (.tup (.cons (.bool false) .nil)) (H p)
      refine (ext_det (P := P) (s := (S p).set nx (.tup [.bool false])) (h := H p) (nx := nx) (mr := mr) (l := []) (b := false) (by rw [sg_set, if_pos rfl])).run t1 hs1 A.hr fun φ1 a1 w1 s1 r1 u1 df1 => ?_
      show (Code.seq _ _).wpIn (fen ρ) 0 P _ a1 w1
      apply wpIn_seq
      have hcv := opd_ok s1 e1
      rw [eval_eq, ev, sg_set, if_pos rfl] at hcv
      have hcc : a1.eval cc = .bool false := by
        generalize a1.eval cc = u at hcv
        cases hcv; rfl
      refine wpIn_cond_false hcc (wpIn_exit ?_)
      show (if out = out then R .normal a1 w1 else R (.exit out) a1 w1)
      rw [if_pos rfl]
      have all : ∀ i, i < es.length → i ∈ p := fun i hi => by
        have hi2 : i < vs.toList.length := by simpa [hlen] using hi
        have := all_seen vs seen h0 vs.toList[i] (List.getElem_mem hi2)
        rw [Array.contains_iff_mem, ← Array.mem_toList_iff, A.sn] at this
        obtain ⟨j, hj, ej⟩ := List.mem_map.1 this
        have hj2 : j < vs.toList.length := by have := (A.pl j hj).1; simpa [hlen] using this
        rw [List.getD_eq_getElem?_getD, List.getElem?_map, List.getElem?_eq_getElem hj2] at ej
        simp only [Option.map_some, Option.getD_some] at ej
        have e4 : j = i := by
          have pw := List.pairwise_iff_getElem.1 hst.2
          rcases Nat.lt_trichotomy j i with c | c | c
          · exact absurd (by rw [List.getElem_map, List.getElem_map]; exact ej) (pw j i (by simpa using hj2) (by simpa using hi2) c)
          · exact c
          · exact absurd (by rw [List.getElem_map, List.getElem_map]; exact ej.symm) (pw i j (by simpa using hi2) (by simpa using hj2) c)
        rw [← e4]; exact hj
      have perm := perm_of_all A.nd (fun j hj => (A.pl j hj).1) all
      obtain ⟨ls, kl⟩ := RR.done p perm fun j hj => (A.pl j hj).2
      obtain ⟨q1, q2⟩ := restore hr0 hg hφ hk hv hst (killed_ok r1 kl) ((A.u.trans u1).trans (updH_killed kl)) ((keep_step nlB u1 hBl).trans A.hmi) (fun b q h1 h2 => nl_step nlB u1 hBl b q (kl.live h1) h2) RR.mbf
      exact hN (fun i hi => (A.pl i (all i hi)).2) φ1 a1 w1 (s1.lets ls _) q1 q2 (A.m.trans (MK.of u1.toUpd (df1.trans (put_defers _ _ _))))
    · -- an entry has come
      obtain ⟨U2, g3, g4⟩ := iter_step A.hri A.fi hal (seen.push e.born) clock
      refine op_step g2 g1 rfl (u := .tuple #[.bool true, e.key, e.val]) (w' := Go.ChangeMaps.setBlock w1 r (.mapIter (some B) clock (seen.push e.born) clock)) (by simp [execOp, hop, hev, hrun, Result.andThen]) (fun c e => by rw [hop] at e; cases e) ?_
      generalize Go.ChangeMaps.setBlock w1 r (.mapIter (some B) clock (seen.push e.born) clock) = w2 at *
      obtain ⟨hem, hes⟩ := mem_left he
      have hsh := left_shrinks vs seen e he
      obtain ⟨i, hi, rfl⟩ := List.getElem_of_mem hem
      have hie : i < es.length := by simpa [hlen] using hi
      have hkey : VR φ w2 es[i].1 vs.toList[i].key := by
        have := hk.nth (i := i) (by simpa using hie) (by simpa using hi)
        simp only [List.getElem_map] at this
        exact this.upd (A.u.toUpd.trans U2)
      have hval : VR φ w2 es[i].2 vs.toList[i].val := by
        have := hv.nth (i := i) (by simpa using hie) (by simpa using hi)
        simp only [List.getElem_map] at this
        exact this.upd (A.u.toUpd.trans U2)
      have hip : i ∉ p := fun hp => by
        have : vs.toList[i].born ∈ seen.toList := by
          rw [A.sn]
          refine List.mem_map.2 ⟨i, hp, ?_⟩
          rw [List.getD_eq_getElem?_getD, List.getElem?_map, List.getElem?_eq_getElem hi]; rfl
        rw [Array.mem_toList_iff, ← Array.contains_iff_mem, hes] at this
        cases this
      have hr2 : HR φ w2 (H p) := same_live A.hr U2 fun b q hl hq => g4 q.1 (nlr b q hl hq)
      have hs1 : SR φ w2 nt ⟨(S p).set nx (.tup [.bool true, es[i].1, es[i].2]), H p⟩ (a.put (some nx) (.tuple #[.bool true, vs.toList[i].key, vs.toList[i].val])) := (A.s.upd U2).put k2 (.tup (.cons (.bool true) (.cons hkey (.cons hval .nil)))) (H p)
      refine (ext_det (P := P) (s := (S p).set nx (.tup [.bool true, es[i].1, es[i].2])) (h := H p) (nx := nx) (mr := mr) (l := [es[i].1, es[i].2]) (b := true) (by rw [sg_set, if_pos rfl])).run t1 hs1 hr2 fun φ1 a1 w3 s1 r1 u1 df1 => ?_
      show (Code.seq _ _).wpIn (fen ρ) 0 P _ a1 w3
      apply wpIn_seq
      have hcv := opd_ok s1 e1
      rw [eval_eq, ev, sg_set, if_pos rfl] at hcv
      have hcc : a1.eval cc = .bool true := by
        generalize a1.eval cc = u at hcv
        cases hcv; rfl
      refine wpIn_cond_true hcc (wpIn_skip ?_)
      show (Code.block nxt _).wpIn (fen ρ) 0 P _ a1 w3
      have hw2 : r < w2.heap.size := lt_of_get g3
      have hB2 : B < w2.heap.size := Nat.lt_of_lt_of_le hBl U2.size
      have hrB : r ≠ B := by omega
      have hri3 : w3.heap[r]? = some (.mapIter (some B) clock (seen.push vs.toList[i].born) clock) := (keep_step nlr u1 hw2).trans g3
      have hmi3 : w3.heap[B]? = some (.map vs clock) := ((keep_step nlB u1 hB2).trans (g4 B hrB.symm)).trans A.hmi
      refine wpIn_block (wpIn_seq (wpIn_region ?_))
      have rel2 := rel_all l2
      generalize List.range ops2.size = is2 at rel2 ⊢
      cases rel2 with
      | cons g5 g6 t2 =>
      rename_i i2 o2 is2
      have hv1 := s1.get it
      rw [stget_eq, sg_set, if_neg hit.2.1, sg_set, if_neg hit.1, RR.hit] at hv1
      have hev1 : a1.eval (.tmp it) = .pointer (some ⟨r, 0, none⟩) := by
        show a1.tmps.getD it undef = _
        generalize a1.tmps.getD it undef = u at hv1
        cases hv1 with
        | ptr hp0 => rw [u1.ext _ _ A.fi] at hp0; cases hp0; rfl
      obtain ⟨k3, k4⟩ := cop_of g6 rfl
      rcases cop_rg k3 rfl with ⟨_, _, _, _, _, _, _, _, e⟩ | ⟨_, _, _, _, e⟩ | ⟨y, x, hop2, hx2, e⟩
      · cases e
      · cases e
      cases e
      obtain rfl := opd_tmp hx2
      have hent := run_entry_at (P := P) w3 r B clock seen vs clock vs.toList[i] hri3 hmi3 hem hst.2
      refine op_step g6 g5 rfl (u := .tuple #[vs.toList[i].key, vs.toList[i].val]) (w' := w3) (by simp [execOp, hop2, hev1, hent, Result.andThen]) (fun c e => by rw [hop2] at e; cases e) ?_
      have hs2 := s1.put k4 (.tup (vs := #[vs.toList[i].key, vs.toList[i].val]) (.cons (hkey.upd u1.toUpd) (.cons (hval.upd u1.toUpd) .nil))) (H p)
      have rn := RR.rnd p i hie A.nd A.pl hip
      rw [Ev, Ev] at rn
      obtain ⟨s3, h3, dd, q3⟩ := EvO.det rn
      refine dd.run t2 hs2 r1 fun φ2 a2 w4 s2 r2 u2 df2 => ?_
      show c7.wpIn (fen ρ) 0 P _ a2 w4
      obtain ⟨ex, s', h', D, qq⟩ := Ev.det hm q3
      refine D ρ hρ nt c7 d7 φ2 w4 a2 _ s2 r2 fun φ3 a3 w5 s4 r3 u3 mk3 => ?_
      have ut : UpdH φ w2 (H p) φ3 w5 h' := u1.trans (u2.trans u3)
      have up : UpdH φ0 w0 (h.put mb .dead) φ3 w5 h' := (updH_iter A.u U2 g4 hrw).trans ut
      have mt : MK φ0 w0 a0 φ3 w5 a3 := (((A.m.trans (MK.of U2 (put_defers a (some nx) _))).trans (MK.of u1.toUpd df1)).trans (MK.of (a := a1) u2.toUpd (df2.trans (put_defers _ _ _)))).trans mk3
      have hmi5 : w5.heap[B]? = some (.map vs clock) := ((keep_step nlB ut hB2).trans (g4 B hrB.symm)).trans A.hmi
      simp only [Un] at qq
      rcases qq with ⟨nb, hex, ls, kl⟩ | ⟨b, rfl, ls, kl⟩
      · have go : LoopWp ρ P _ (Exit.inBlock out R) a3 w5 := ih (p ++ [i]) φ3 w5 a3 (seen.push vs.toList[i].born)
          { nd := List.nodup_append.2 ⟨A.nd, by simp, fun x hx y hy e => hip (by simp at hy; rw [← hy, ← e]; exact hx)⟩
            pl := fun j hj => by
              rcases List.mem_append.1 hj with hj | hj
              · exact A.pl j hj
              · simp at hj; rw [hj]; exact ⟨hie, nb⟩
            s := s4.lets ls _
            hr := killed_ok r3 kl
            u := up.trans (updH_killed kl)
            m := mt
            fi := ut.ext _ _ A.fi
            sn := by
              rw [Array.toList_push, A.sn, List.map_append, List.map_singleton, List.getD_eq_getElem?_getD, List.getElem?_map, List.getElem?_eq_getElem hi]
              rfl
            hri := (keep_step nlr ut hw2).trans g3
            hmi := hmi5
            nl := fun b q h1 h2 => ⟨nl_step nlr ut hw2 b q (kl.live h1) h2, nl_step nlB ut hB2 b q (kl.live h1) h2⟩ } (by omega)
        rcases hex with rfl | rfl
        · exact go
        · show (if nxt = nxt then _ else _)
          rw [if_pos rfl]
          exact go
      · obtain ⟨q1, q2⟩ := restore hr0 hg hφ hk hv hst (killed_ok r3 kl) (up.trans (updH_killed kl)) hmi5 (fun b q h1 h2 => nl_step nlB ut hB2 b q (kl.live h1) h2) RR.mbb
        have fin := hB ⟨i, hie, b⟩ φ3 a3 w5 (s4.lets ls _) q1 q2 mt
        rcases RR.ret with rfl | ⟨j, rfl, n1, n2⟩
        · exact fin
        · show (if j = nxt then _ else _)
          rw [if_neg n1]
          show (if j = out then _ else _)
          rw [if_neg n2]
          exact fin
end
end Go.Proofs.Ytlemediphmnffaa.VM
namespace Go.Proofs.Ytlemediphmnffaa.VM
open Go.RowKit
section
variable {P : Program}
/-- such a loop, behind its first region -/
def RgQ (P : Program) (it : Nat) (x : Opd) (out nx mr nxt pr : Nat) (aso : List VO) (body : VCode) (Q : Ex → T AV → Heap → Prop) (s : T AV) (h : Heap) : Prop := ∃ ex s' h', DetM P it x out nx mr nxt pr aso body ⟨s, h⟩ ex ⟨s', h'⟩ ∧ Q ex s' h'
theorem ev_rangeM {l : List VO} {it : Nat} {x : Opd} {out nx mr nxt pr : Nat} {aso : List VO} {body : VCode} {s : T AV} {h : Heap} {k : List Fr} {Q : Ex → T AV → Heap → Prop} : Ev P (.rangeM l it x out nx mr nxt pr aso body) s h (Un P k Q) = EvO P l s h (RgQ P it x out nx mr nxt pr aso body (Un P k Q)) := by
  rw [Ev]; rfl
theorem Rounds.go (hm : P.follows .mixedOrders = true) {es : List (AV × AV)} {it nx mr pr nxt out : Nat} {x : Opd} {aso : List VO} {body : VCode} {mb : Nat} {S : List Nat → T AV} {H : List Nat → Heap} {bad : Nat → Prop} {exb : Ex} {Sb : T AV} {hb : Heap} {Sf : T AV} {hf : Heap} {s : T AV} {h : Heap} {ver : Nat}
    (RR : Rounds P es it nx mr pr nxt out aso body mb h.next S H bad exb Sb hb Sf hf) (hit : it ≠ nx ∧ it ≠ mr ∧ nx ≠ mr) (hx : ev s x = .map mb) (hg : h.get mb = some (.map es ver)) (S0 : S [] = s.set it (.ptr h.next 0)) (H0 : H [] = (h.put mb .dead).mk' h.next .dead) {Q : Ex → T AV → Heap → Prop}
    (qN : (∀ i, i < es.length → ¬ bad i) → Q .normal Sf (hf.put mb (.map es ver))) (qB : (∃ i, i < es.length ∧ bad i) → Q exb Sb (hb.put mb (.map es ver))) : RgQ P it x out nx mr nxt pr aso body Q s h := by
  have key : ∀ ex st', ((∀ i, i < es.length → ¬ bad i) → ex = .normal ∧ st' = ⟨Sf, hf.put mb (.map es ver)⟩) → ((∃ i, i < es.length ∧ bad i) → ex = exb ∧ st' = ⟨Sb, hb.put mb (.map es ver)⟩) → DetM P it x out nx mr nxt pr aso body ⟨s, h⟩ ex st' := by
    intro ex st' kN kB ρ hρ nt ops i o code2 hi ho hc2 φ w a R hs hr hQ
    obtain ⟨k1, k2⟩ := cop_of ho rfl
    rcases cop_rg k1 rfl with ⟨t, y, kt, e, x', hop, ht, hy, e'⟩ | ⟨_, _, _, _, e'⟩ | ⟨_, _, _, _, e'⟩
    rotate_left
    · cases e'
    · cases e'
    cases e'
    have hv := opd_ok hs hy
    rw [eval_eq, hx] at hv
    obtain ⟨B, oB, vs, clock, g1, g2, g3, g4, g5⟩ := hr.map hg
    have hev : a.eval y = .map (some B) := by
      generalize a.eval y = u at hv
      cases hv with
      | map h1 => rw [g1] at h1; cases h1; rfl
    have hne : h.next ≠ mb := fun e => by
      have := hr.next h.next (Nat.le_refl _)
      rw [e, hg] at this
      cases this
    have hrun := run_range_map (P := P) w t kt e B vs clock ht g2
    refine op_step ho hi rfl (u := .pointer (some ⟨w.heap.size, 0, none⟩)) (w' := w.alloc (.mapIter (some B) clock #[] clock)) (by simp [execOp, hop, hev, hrun, Result.andThen]) (fun c e => by rw [hop] at e; cases e) ?_
    obtain ⟨bl, rfl, hbl⟩ := code_inv hc2
    obtain ⟨bb, rfl, hbb⟩ := code_inv hbl
    show (Code.block out (Code.loop bb)).wpIn (fen ρ) 0 P R _ _
    have hr_d : HR φ w (h.put mb .dead) := kill_ok hr ⟨_, hg⟩
    have hn : (h.put mb .dead).get h.next = none := by rw [Heap.get_put, if_neg hne]; exact hr.next _ (Nat.le_refl _)
    have hr1 := hr_alloc hr_d hn (o := .mapIter (some B) clock #[] clock) (x := .dead) trivial
    have u1 := updH_alloc hr_d hn (.mapIter (some B) clock #[] clock) .dead
    refine wpIn_block (LoopWp.wp ?_)
    refine range_loop hm RR hit hρ (φ0 := φ) (w0 := w) (h := h) hr hg g1 g3 g4 g5 (a0 := a) (nt := nt) (r := w.heap.size) (Nat.le_refl _) hbb (R := R) (fun hno φ' a' w' q1 q2 q3 q4 => ?_) (fun hyes φ' a' w' q1 q2 q3 q4 => ?_) ((leftOf vs #[]).size + 1) [] (φ.at h.next (w.heap.size, 0)) (w.alloc (.mapIter (some B) clock #[] clock)) (a.put (some it) (.pointer (some ⟨w.heap.size, 0, none⟩))) #[] ?_ (Nat.lt_succ_self _)
    · obtain ⟨rfl, rfl⟩ := kN hno
      exact hQ φ' a' w' q1 q2 q3 q4
    · obtain ⟨rfl, rfl⟩ := kB hyes
      exact hQ φ' a' w' q1 q2 q3 q4
    · refine
        { nd := List.nodup_nil
          pl := fun j hj => by simp at hj
          s := ?_
          hr := by rw [H0]; exact hr1
          u := by rw [H0]; exact u1
          m := MK.of u1.toUpd (put_defers _ _ _)
          fi := at_self _ _
          sn := rfl
          hri := heap_alloc_new _ _
          hmi := (Below.heap_alloc _ _ B (hr.lt _ _ g1)).trans g2
          nl := fun b q h1 h2 => ?_ }
      · rw [S0, H0]
        exact (hs.upd u1.toUpd).put k2 (VR.ptr (off := 0) (at_self h.next (w.heap.size, 0))) _
      · rw [H0, Heap.get_mk] at h1
        by_cases c : b = h.next
        · rw [if_pos c] at h1; cases h1
        · rw [if_neg c, Heap.get_put] at h1
          by_cases c2 : b = mb
          · rw [if_pos c2] at h1; cases h1
          · rw [if_neg c2] at h1
            unfold Env.at at h2
            rw [if_neg c] at h2
            refine ⟨Nat.ne_of_lt (hr.lt _ _ h2), fun e3 => c2 (hr.inj b mb q (B, oB) h1 (by rw [hg]; rfl) h2 g1 e3)⟩
  by_cases hb' : ∃ i, i < es.length ∧ bad i
  · exact ⟨_, _, _, key exb ⟨Sb, _⟩ (fun hno => by obtain ⟨i, h1, h2⟩ := hb'; exact absurd h2 (hno i h1)) (fun _ => ⟨rfl, rfl⟩), qB hb'⟩
  · have hno : ∀ i, i < es.length → ¬ bad i := fun i h1 h2 => hb' ⟨i, h1, h2⟩
    exact ⟨_, _, _, key .normal ⟨Sf, _⟩ (fun _ => ⟨rfl, rfl⟩) (fun hy => absurd hy hb'), qN hno⟩
end
end Go.Proofs.Ytlemediphmnffaa.VM
namespace Go.Proofs.Ytlemediphmnffaa.VM
open Go.RowKit Go.Shelf Go.Sort Go.Maps
section
variable {P : Program} {φ : Env} {w w' : World} {H : Heap}
theorem upd_below (hb : Below w.heap.size w w') : Upd φ w φ w' :=
  ⟨hb.os, hb.tape, hb.output, hb.size, fun _ _ e => e, fun _ _ _ e => .inl ⟨_, _, e⟩, fun B hB _ => hb.block B hB, fun B x hx => by
    have hB : B < w.heap.size := by
      rcases Nat.lt_or_ge B w.heap.size with h | h
      · exact h
      · unfold World.shape? at hx; rw [Array.getElem?_eq_none h] at hx; cases hx
    unfold World.shape? at hx ⊢
    rw [hb.block B hB]; exact hx, dr_any _ _⟩
theorem hr_below (hr : HR φ w H) (hb : Below w.heap.size w w') : HR φ w' H ∧ UpdH φ w H φ w' H := by
  have u := upd_below (φ := φ) hb
  refine ⟨⟨fun b => ?_, fun b p e => Nat.lt_of_lt_of_le (hr.lt b p e) u.size, hr.inj, hr.next⟩, UpdH.same _ _ u fun B hB => hb.block B hB⟩
  cases hl : live (H.get b) with
  | true => exact BR.upd hr u hl fun p hp => hb.block _ (hr.lt _ _ hp)
  | false =>
    have := hr.blk b
    cases hg : H.get b with
    | none => rw [hg] at this; exact this
    | some o =>
      cases o with
      | dead => trivial
      | _ => rw [hg] at hl; cases hl
theorem lt_of_getE {w : World} {r : Nat} {o : Obj} (h : w.heap[r]? = some o) : r < w.heap.size := (Array.getElem?_eq_some_iff.1 h).1
/-- a new row that a call has laid -/
theorem hr_row (hr : HR φ w H) (hb : Below w.heap.size w w') {g : Nat} (hgw : w.heap.size ≤ g) {cur : Array Value} {ty : TypeId} (hg : w'.heap[g]? = some (.cells cur ty (0, 0))) {cs : List AV} {us : List Value} (hcs : VRs (φ.at H.next (g, 0)) w' cs us) (hcur : cur.toList.take us.length = us) (e : TypeId) :
    HR (φ.at H.next (g, 0)) w' (H.mk' H.next (.cells cs e 0)) ∧ UpdH φ w H (φ.at H.next (g, 0)) w' (H.mk' H.next (.cells cs e 0)) := by
  have hn : H.get H.next = none := hr.next _ (Nat.le_refl _)
  have hφ : φ H.next = none := by have := hr.blk H.next; rw [hn] at this; exact this
  have ext : ∀ b p, φ b = some p → (φ.at H.next (g, 0)) b = some p := fun b p hp => by
    unfold Env.at
    rw [if_neg (fun c => by rw [c, hφ] at hp; cases hp)]; exact hp
  have back : ∀ b p, (φ.at H.next (g, 0)) b = some p → b = H.next ∧ p = (g, 0) ∨ b ≠ H.next ∧ φ b = some p := fun b p hp => by
    unfold Env.at at hp
    by_cases c : b = H.next
    · rw [if_pos c] at hp; cases hp; exact .inl ⟨c, rfl⟩
    · rw [if_neg c] at hp; exact .inr ⟨c, hp⟩
  have hgl : g < w'.heap.size := lt_of_getE hg
  have u : Upd φ w (φ.at H.next (g, 0)) w' := ⟨hb.os, hb.tape, hb.output, hb.size, ext, fun b B o hp => by
    rcases back _ _ hp with ⟨_, e⟩ | ⟨_, e⟩
    · cases e; exact .inr hgw
    · exact .inl ⟨_, _, e⟩, fun B hB _ => hb.block B hB, (upd_below (φ := φ) hb).shape, dr_any _ _⟩
  have hl := hcs.length
  have hus : us.length ≤ cur.size := by
    have := congrArg List.length hcur
    rw [List.length_take] at this
    simp at this
    omega
  refine ⟨⟨fun b => ?_, fun b p hp => ?_, fun b b' p p' h1 h2 hp hp' he => ?_, fun b hb' => ?_⟩, ⟨u, fun B hB _ => hb.block B hB, fun b h1 h2 => ?_, fun b B o h1 h2 => ?_, fun b h1 => ?_⟩⟩
  · rw [Heap.get_mk]
    by_cases c : b = H.next
    · rw [if_pos c, c]
      refine ⟨g, 0, ty, cur.size, by unfold Env.at; rw [if_pos rfl], ?_, VRm.of_get fun i x hx => ?_, ⟨fun i _ => ?_, fun fr hf => ?_⟩, ?_⟩
      · unfold World.shape?; rw [hg]
      · obtain ⟨v, hv, hrv⟩ := hcs.get hx
        refine ⟨v, ?_, hrv⟩
        rw [← hcur, List.getElem?_take] at hv
        split at hv
        · rw [Nat.zero_add]
          simp only [World.cell?, hg]
          simpa using hv
        · cases hv
      · simp [World.frozen?, hg]
      · simp only [frz?, hg, Option.some.injEq] at hf
        rw [← hf]; exact Nat.le_refl _
      · omega
    · rw [if_neg c]
      cases hl : live (H.get b) with
      | true => exact BR.upd hr u hl fun p hp => hb.block _ (hr.lt _ _ hp)
      | false =>
        rcases not_live (by rw [hl]; simp) with h | h
        · rw [h]
          have := hr.blk b
          rw [h] at this
          show φ.at H.next _ b = none
          unfold Env.at
          rw [if_neg c]; exact this
        · rw [h]; trivial
  · rcases back _ _ hp with ⟨_, e⟩ | ⟨_, e⟩
    · rw [e]; exact hgl
    · exact Nat.lt_of_lt_of_le (hr.lt _ _ e) hb.size
  · rw [Heap.get_mk] at h1 h2
    rcases back _ _ hp with ⟨e1, e2⟩ | ⟨e1, e2⟩ <;> rcases back _ _ hp' with ⟨f1, f2⟩ | ⟨f1, f2⟩
    · rw [e1, f1]
    · rw [e2] at he
      have := hr.lt _ _ f2
      simp at he; omega
    · rw [f2] at he
      have := hr.lt _ _ e2
      simp at he; omega
    · rw [if_neg e1] at h1
      rw [if_neg f1] at h2
      exact hr.inj b b' p p' h1 h2 e2 f2 he
  · rw [mk_next] at hb'
    rw [Heap.get_mk, if_neg (by omega)]
    exact hr.next b (by omega)
  · have c : b ≠ H.next := fun e => h1 (by rw [e, hn])
    rw [Heap.get_mk, if_neg c]
    exact ⟨h1, h2, by unfold Env.at; rw [if_neg c]⟩
  · rw [Heap.get_mk] at h1
    rcases back _ _ h2 with ⟨e1, e2⟩ | ⟨e1, e2⟩
    · cases e2; exact .inr hgw
    · rw [if_neg e1] at h1
      exact .inl ⟨_, _, h1, e2⟩
  · rw [Heap.get_mk]
    by_cases c : b = H.next
    · rw [if_pos c]; simp
    · rw [if_neg c]; exact h1
end
end Go.Proofs.Ytlemediphmnffaa.VM
namespace Go.Proofs.Ytlemediphmnffaa.VM
open Go.RowKit Go.Shelf Go.Sort Go.Maps
section
variable {P : Program} {φ : Env} {w w' : World} {H : Heap}
/-- maps.Keys -/
theorem keysF_ok {ρ : Ren} (L : SlLaysZI.n7 P ρ) (hly : ρ.f 7 < YB) (hl2 : ρ.f 10 < YB) {mb : Nat} : OK P (ρ.f 7) [.map mb] H (.fn (ρ.f 10) [.ptr H.next 0]) (H.mk' H.next (.kf mb)) := by
  refine .inl ⟨hly, ?_, fun φ w us hr hus => ?_⟩
  · obtain ⟨nm, hn, hf⟩ := L.f7
    refine ⟨_, hf, rfl, fun e => ?_⟩
    rw [show nm = "runtime.NumGoroutine" from e] at hn
    simp at hn
  cases us with | mk us =>
  simp only at hus
  cases hus with | cons h1 t =>
  cases t
  cases h1 with | map hb =>
  rename_i B oB
  refine Calls.mono (callsIn_wide.1 (AnyZI.keys_in L Fence.wide 0 trivial rfl (some B) w)) ?_
  rintro e w' ⟨rfl, rfl⟩
  have hn : H.get H.next = none := hr.next _ (Nat.le_refl _)
  have hφ : φ H.next = none := by have := hr.blk H.next; rw [hn] at this; exact this
  have u := updH_alloc hr hn (.cells #[.map (some B)] (ρ.t 23)) (.kf mb)
  exact ⟨φ.at H.next (w.heap.size, 0), _, rfl, .fn hl2 (.cons (VR.ptr (off := 0) (at_self _ _)) .nil), hr_alloc hr hn ⟨w.heap.size, B, oB, ρ.t 23, at_self _ _, heap_alloc_new _ _, u.ext _ _ hb⟩, u⟩
/-- how every element reads, whatever it is -/
def anyR : Value → Option (DataW Unit × List MemPlace) := fun _ => some (.lit (.bool true), [])
theorem map_intOf {P : Program} {k : TypeId} (hk : P.underlying k = some (.int .i64)) : ∀ {l : List MapEntry} {ks : List Int}, l.map (·.key) = ks.map (Value.int .i64) → (∀ x ∈ ks, (Lit.int .i64 x).wf = true) → (∀ x ∈ l, ∃ y, Go.WideElems.rd P k anyR x = some y) ∧ (l.map (Go.WideElems.rg P k anyR)).map (fun p => _root_.Go.intOf p.1) = ks
  | [], [], _, _ => ⟨fun x hx => by simp at hx, rfl⟩
  | [], _ :: _, h, _ => by simp at h
  | _ :: _, [], h, _ => by simp at h
  | x :: l, a :: ks, h, w => by
    simp only [List.map_cons, List.cons.injEq] at h
    obtain ⟨h1, h2⟩ := map_intOf hk h.2 fun x hx => w x (.tail _ hx)
    have hr : Go.WideElems.rd P k anyR x = some (.int .i64 a, .lit (.bool true)) := by
      have := Go.WideElems.rd_mk (P := P) (k := k) (R := anyR) (born := x.born) (key := x.key) (val := x.val) (kl := .int .i64 a) (yv := (.lit (.bool true), [])) (by rw [h.1]; exact Maps.keyOf_int_mk hk (w a (.head _))) rfl
      simpa using this
    refine ⟨fun y hy => ?_, ?_⟩
    · rcases List.mem_cons.1 hy with rfl | hy
      · exact ⟨_, hr⟩
      · exact h1 y hy
    · rw [List.map_cons, List.map_cons, h2, Go.WideElems.rg_of hr]; rfl
theorem isort_perm {l k : List Int} (h : l.Perm k) : (l.mergeSort fun x y => decide (x ≤ y)) = isort k := mergeSort_of_perm_i h
theorem sortedKeys_ok {ρ ρk ρs : Ren} (LS : SlLaysZI.n6 P ρ) (LK : SlLaysZI.n10 P ρk) (LM : SlLaysM.n5 P ρs) (h9 : ρ.f 9 = ρs.f 5) (hly : ρ.f 6 < YB) {cb mb ver : Nat} {es : List (AV × AV)} {ks : List Int} (hc : H.get cb = some (.kf mb)) (hg : H.get mb = some (.map es ver)) (hks : es.map (·.1) = ks.map (AV.int .i64)) (nd : ks.Nodup) (wf : ∀ k ∈ ks, (Lit.int .i64 k).wf = true) (hsm : es.length ≤ 1000000) :
    (es.length = 0 → OK P (ρ.f 6) [.fn (ρk.f 10) [.ptr cb 0]] H .nils H) ∧ (0 < es.length → OK P (ρ.f 6) [.fn (ρk.f 10) [.ptr cb 0]] H (.sl H.next 0 es.length es.length 1) (H.mk' H.next (.cells ((isort ks).map (.int .i64)) (ρ.t 26) 0))) := by
  have hlk : ks.length = es.length := by have := congrArg List.length hks; simpa using this.symm
  have hen : Enters P (ρ.f 6) := by
    obtain ⟨nm, hn, hf⟩ := LS.f6
    refine ⟨_, hf, rfl, fun e => ?_⟩
    rw [show nm = "runtime.NumGoroutine" from e] at hn
    simp at hn
  have key : ∀ (φ : Env) (w : World) (us : Array Value), HR φ w H → VRs φ w [.fn (ρk.f 10) [.ptr cb 0]] us.toList → Calls P (ρ.f 6) us w fun e w' => ∃ (v : Value) (ss : List Int), e = .returned v ∧ ss.Perm ks ∧ w'.ownsRow w.heap.size (ρ.t 26) 1 v ss.length ((isort ks).map encZ) ∧ (v = .slice none 0 0 ↔ ss = []) ∧ Below w.heap.size w w' := by
    intro φ w us hr hus
    obtain ⟨B, oB, vs, clock, g1, g2, g3, g4, g5⟩ := hr.map hg
    have hkf := hr.blk cb
    rw [hc] at hkf
    obtain ⟨B0, Bm, om, e, q1, q2, q3⟩ := hkf
    rw [g1] at q3
    cases q3
    cases us with | mk us =>
    simp only at hus
    cases hus with | cons h1 t =>
    cases t
    cases h1 with | fn hgy h2 =>
    rename_i cap
    have hcap : cap = #[.pointer (some ⟨B0, 0, none⟩)] := by
      cases cap with | mk l =>
      simp only at h2
      cases h2 with | cons h3 t =>
      cases t
      cases h3 with | ptr h4 =>
      rw [q1] at h4; cases h4; rfl
    subst hcap
    have hcell : w.cell? ⟨B0, 0, none⟩ = some (.map (some B)) := by simp [World.cell?, q2]
    have hkeys : vs.toList.map (·.key) = ks.map (Value.int .i64) := by rw [hks] at g3; exact g3.ints
    obtain ⟨m1, m2⟩ := map_intOf LK.t26 hkeys wf
    have hvl : vs.size = es.length := by have := g3.length; simpa using this.symm
    have hown : w.ownsMap P (ρk.t 26) anyR B vs.size (.map ((vs.toList.map (Go.WideElems.rg P (ρk.t 26) anyR)).foldr DataW.insert [])) :=
      ⟨vs, clock, g2, ⟨by rw [hvl]; exact Nat.le_trans hsm (by decide), ⟨g5.1, g5.2, by rw [hkeys]; exact List.pairwise_map.2 (nd.imp fun h e => h (by cases e; rfl))⟩, m1⟩, Nat.le_refl _, rfl⟩
    have hBm : B0 < w.heap.size := lt_of_getE q2
    have hsz : Maps.size (DataW.map ((vs.toList.map (Go.WideElems.rg P (ρk.t 26) anyR)).foldr DataW.insert [])) = es.length := by
      show (List.foldr DataW.insert [] _).length = _
      rw [length_sorted]; simp [hvl]
    have hperm : (intKeys (DataW.map ((vs.toList.map (Go.WideElems.rg P (ρk.t 26) anyR)).foldr DataW.insert []))).Perm ks := by
      show ((List.foldr DataW.insert [] _).map fun p => _root_.Go.intOf p.1).Perm ks
      have := (Go.WideShapes.sorted_perm (vs.toList.map (Go.WideElems.rg P (ρk.t 26) anyR))).map (fun p => _root_.Go.intOf p.1)
      rw [m2] at this
      exact this
    have hseq := AnyZI.keys_gives LK Fence.wide 7 trivial rfl (by decide) B0 B vs.size _ w hBm hcell hown
    have e9 : ∀ args w, (callFunc (ρ.f 9) args).run P w = .ok (.enter (ρ.f 9) args) w := by rw [h9]; exact LM.f5.enters rfl
    have eg : ∀ args w, (callFunc (ρk.f 10) args).run P w = .ok (.enter (ρk.f 10) args) w := LK.f10.enters rfl
    have hsort : AnyZI.SortsIn P ρ Fence.wide 9 := by
      refine ⟨fun blk off cap ss W h1 h2 h3 => ?_, fun p cap W => ?_⟩
      · rw [h9]; exact callsIn_wide.2 (AnyM.slices_Sort_int LM blk off cap ss W h1 h2 h3)
      · rw [h9]; exact callsIn_wide.2 (AnyM.slices_Sort_int_none LM p cap W)
    have C := AnyZI.sorted_in LS Fence.wide 10 trivial trivial trivial trivial rfl (by decide) hsort e9 (ρk.f 10) #[.pointer (some ⟨B0, 0, none⟩)] trivial eg _ _ (by rw [hsz]; exact Nat.le_trans hsm (by decide)) (by rw [hsz]; omega) w hseq
    refine Calls.mono (callsIn_wide.1 C) ?_
    rintro e w' ⟨v, ss, rfl, hS, hrow, hnil, hb⟩
    have hp := hS.trans hperm
    refine ⟨v, ss, rfl, hp, ?_, hnil, hb⟩
    rw [← isort_perm hp]
    exact hrow
  refine ⟨fun h0 => .inl ⟨hly, hen, fun φ w us hr hus => ?_⟩, fun h0 => .inl ⟨hly, hen, fun φ w us hr hus => ?_⟩⟩
  · refine Calls.mono (key φ w us hr hus) ?_
    rintro e w' ⟨v, ss, rfl, hp, _, hnil, hb⟩
    have : ss = [] := List.eq_nil_of_length_eq_zero (by rw [hp.length_eq]; omega)
    rw [hnil.2 this]
    obtain ⟨a, b⟩ := hr_below hr hb
    exact ⟨φ, _, rfl, .nils, a, b⟩
  · refine Calls.mono (key φ w us hr hus) ?_
    rintro e w' ⟨v, ss, rfl, hp, hrow, _, hb⟩
    have hsl : ss.length = es.length := by rw [hp.length_eq]; exact hlk
    rcases hrow.2 with ⟨_, h1⟩ | ⟨g, cap, cur, rfl, hgw, hg', c1, c2, c3, c4⟩
    · omega
    · have hil : ((isort ks).map encZ).length = es.length := by rw [List.length_map, isort, List.length_mergeSort]; exact hlk
      obtain ⟨a, b⟩ := hr_row hr hb hgw hg' (cs := (isort ks).map (.int .i64)) (us := (isort ks).map encZ) VRs.ofInts (by rw [hil, ← hsl, ← c4]; simp) (ρ.t 26)
      refine ⟨_, _, rfl, ?_, a, b⟩
      rw [hsl]
      refine VR.sl (o := 0) (off := 0) (at_self _ _) (by omega) (Nat.le_refl _) (e := ρ.t 26) (n := cur.size) (by unfold World.shape?; rw [hg']) ⟨by omega, ?_⟩
      exact Nat.le_trans c2 (by decide)
end
end Go.Proofs.Ytlemediphmnffaa.VM
namespace Go.Proofs.Ytlemediphmnffaa.VM
def b4_0 : VCode := (.seq (.seq (.ops [⟨(some 54), none, .mov (.t 9)⟩, ⟨(some 55), none, .mov (.t 1)⟩, ⟨(some 56), none, .bi (.len 1) [(.t 55)]⟩, ⟨(some 57), none, .bin .lss (.t 54) (.t 56)⟩, ⟨(some 58), none, .mov (.t 57)⟩, ⟨(some 59), (some (58, true)), .mov (.t 9)⟩, ⟨(some 60), (some (58, true)), .bin .lss (.t 59) (.c (.int .i64 100))⟩, ⟨(some 61), none, .pick (.t 58) (.t 60) (.c (.bool false))⟩])
 (.cond (.t 61) .skip (.exit 0)))
 (.seq (.block 1 (.seq (.ops [⟨(some 64), none, .mov (.t 1)⟩, ⟨(some 65), none, .mov (.t 9)⟩, ⟨(some 66), none, .iaddr 6 none (.t 64) (.t 65)⟩, ⟨(some 67), none, .load true 6 (.t 66)⟩, ⟨(some 10), none, .alloc [(.int .i64 0), (.int .i64 0), (.str []), (.int .i64 0), (.int .i64 0), (.int .i64 0)] 42⟩, ⟨none, none, .store 6 (.t 10) (.t 67)⟩])
 (.seq (.ops [⟨(some 11), none, .mov (.c (.bool true))⟩])
 (.seq (.block 2 (.seq (.ops [⟨(some 80), none, .faddr 0 (.t 10)⟩, ⟨(some 81), none, .load false 1 (.t 80)⟩, ⟨(some 82), none, .bin .lss (.t 81) (.c (.int .i64 5))⟩, ⟨(some 79), none, .mov (.t 82)⟩])
 (.cond (.t 79) (.seq (.ops [⟨(some 83), none, .mov (.t 5)⟩, ⟨(some 84), none, .faddr 1 (.t 10)⟩, ⟨(some 85), none, .load false 1 (.t 84)⟩, ⟨(some 86), none, .faddr 2 (.t 10)⟩, ⟨(some 87), none, .load false 1 (.t 86)⟩, ⟨(some 88), none, .call 10 [(.t 83), (.t 85), (.t 87)]⟩, ⟨(some 12), none, .mov (.t 88)⟩])
 (.drawn [⟨(some 89), none, .mov (.t 12)⟩, ⟨(some 90), none, .call 13 [(.t 89)]⟩, ⟨(some 91), none, .mov (.t 7)⟩, ⟨(some 92), none, .faddr 1 (.t 10)⟩, ⟨(some 93), none, .load false 1 (.t 92)⟩, ⟨(some 94), none, .faddr 2 (.t 10)⟩, ⟨(some 95), none, .load false 1 (.t 94)⟩, ⟨(some 96), none, .call 15 [(.t 91), (.t 93), (.t 95)]⟩, ⟨(some 97), none, .bin .eql (.t 90) (.t 96)⟩, ⟨(some 11), none, .mov (.t 97)⟩] [(4, [0]), (6, [0])])) (.seq (.ops [⟨(some 99), none, .faddr 0 (.t 10)⟩, ⟨(some 100), none, .load false 1 (.t 99)⟩, ⟨(some 101), none, .bin .lss (.t 100) (.c (.int .i64 7))⟩, ⟨(some 98), none, .mov (.t 101)⟩])
 (.cond (.t 98) (.seq (.ops [⟨(some 103), none, .mov (.t 5)⟩, ⟨(some 104), none, .faddr 1 (.t 10)⟩, ⟨(some 105), none, .load false 1 (.t 104)⟩, ⟨(some 106), none, .call 9 [(.t 103), (.t 105)]⟩, ⟨(some 102), none, .mov (.t 106)⟩, ⟨(some 107), none, .extract (.t 102) 0⟩, ⟨(some 108), none, .extract (.t 102) 1⟩, ⟨(some 13), none, .mov (.t 107)⟩, ⟨(some 14), none, .mov (.t 108)⟩])
 (.seq (.ops [⟨(some 110), none, .mov (.t 7)⟩, ⟨(some 111), none, .faddr 1 (.t 10)⟩, ⟨(some 112), none, .load false 1 (.t 111)⟩, ⟨(some 113), none, .call 16 [(.t 110), (.t 112)]⟩, ⟨(some 109), none, .mov (.t 113)⟩, ⟨(some 114), none, .extract (.t 109) 0⟩, ⟨(some 115), none, .extract (.t 109) 1⟩, ⟨(some 15), none, .mov (.t 114)⟩, ⟨(some 16), none, .mov (.t 115)⟩])
 (.ops [⟨(some 116), none, .mov (.t 13)⟩, ⟨(some 117), none, .mov (.t 15)⟩, ⟨(some 118), none, .bin .eql (.t 116) (.t 117)⟩, ⟨(some 119), none, .mov (.t 118)⟩, ⟨(some 120), (some (119, true)), .mov (.t 14)⟩, ⟨(some 121), (some (119, true)), .call 13 [(.t 120)]⟩, ⟨(some 122), (some (119, true)), .mov (.t 16)⟩, ⟨(some 123), (some (119, true)), .bin .eql (.t 121) (.t 122)⟩, ⟨(some 124), none, .pick (.t 119) (.t 123) (.c (.bool false))⟩, ⟨(some 11), none, .mov (.t 124)⟩]))) (.seq (.ops [⟨(some 126), none, .faddr 0 (.t 10)⟩, ⟨(some 127), none, .load false 1 (.t 126)⟩, ⟨(some 128), none, .bin .lss (.t 127) (.c (.int .i64 9))⟩, ⟨(some 125), none, .mov (.t 128)⟩])
 (.cond (.t 125) (.seq (.ops [⟨(some 129), none, .mov (.t 5)⟩, ⟨(some 130), none, .call 17 [(.t 129)]⟩, ⟨(some 17), none, .mov (.t 130)⟩])
 (.seq (.ops [⟨(some 131), none, .mov (.t 7)⟩, ⟨(some 132), none, .call 18 [(.t 131)]⟩])
 (.ops [⟨(some 133), none, .mov (.t 17)⟩, ⟨(some 134), none, .call 13 [(.t 133)]⟩, ⟨(some 135), none, .bin .eql (.t 134) (.c (.int .i64 0))⟩, ⟨(some 11), none, .mov (.t 135)⟩]))) (.seq (.ops [⟨(some 68), none, .mov (.t 5)⟩, ⟨(some 69), none, .faddr 3 (.t 10)⟩, ⟨(some 70), none, .load true 3 (.t 69)⟩, ⟨(some 71), none, .call 12 [(.t 68), (.t 70)]⟩, ⟨(some 18), none, .mov (.t 71)⟩])
 (.drawn [⟨(some 72), none, .mov (.t 18)⟩, ⟨(some 73), none, .call 13 [(.t 72)]⟩, ⟨(some 74), none, .mov (.t 7)⟩, ⟨(some 75), none, .faddr 3 (.t 10)⟩, ⟨(some 76), none, .load true 3 (.t 75)⟩, ⟨(some 77), none, .call 19 [(.t 74), (.t 76)]⟩, ⟨(some 78), none, .bin .eql (.t 73) (.t 77)⟩, ⟨(some 11), none, .mov (.t 78)⟩] [(4, [0])])))))))))
 (.seq (.ops [⟨(some 136), none, .mov (.t 11)⟩, ⟨(some 137), none, .un .not (.t 136)⟩, ⟨(some 138), none, .mov (.t 137)⟩, ⟨(some 139), (some (138, false)), .mov (.t 5)⟩, ⟨(some 140), (some (138, false)), .call 20 [(.t 139)]⟩, ⟨(some 141), (some (138, false)), .mov (.t 7)⟩, ⟨(some 142), (some (138, false)), .call 21 [(.t 141)]⟩, ⟨(some 143), (some (138, false)), .bin .neq (.t 140) (.t 142)⟩, ⟨(some 144), none, .pick (.t 138) (.c (.bool true)) (.t 143)⟩, ⟨(some 145), none, .mov (.t 144)⟩, ⟨(some 146), (some (145, false)), .mov (.t 5)⟩, ⟨(some 147), (some (145, false)), .call 22 [(.t 146)]⟩, ⟨(some 148), (some (145, false)), .mov (.t 7)⟩, ⟨(some 149), (some (145, false)), .call 23 [(.t 148)]⟩, ⟨(some 150), (some (145, false)), .bin .neq (.t 147) (.t 149)⟩, ⟨(some 151), none, .pick (.t 145) (.c (.bool true)) (.t 150)⟩])
 (.cond (.t 151) (.seq (.ops [⟨(some 4), none, .mov (.c (.bool false))⟩])
 .ret) .skip))))))
 (.ops [⟨(some 62), none, .mov (.t 9)⟩, ⟨(some 63), none, .bin .add (.t 62) (.c (.int .i64 1))⟩, ⟨(some 9), none, .mov (.t 63)⟩])))
def b4_1 : VCode := (.seq (.seq (.ops [⟨(some 152), none, .mov (.t 19)⟩, ⟨(some 153), none, .mov (.t 0)⟩, ⟨(some 154), none, .bin .lss (.t 152) (.t 153)⟩])
 (.cond (.t 154) .skip (.exit 3)))
 (.seq (.block 4 (.seq (.ops [⟨(some 158), none, .mov (.t 5)⟩, ⟨(some 159), none, .mov (.t 19)⟩, ⟨(some 160), none, .call 9 [(.t 158), (.t 159)]⟩, ⟨(some 157), none, .mov (.t 160)⟩, ⟨(some 161), none, .extract (.t 157) 0⟩, ⟨(some 162), none, .extract (.t 157) 1⟩, ⟨(some 20), none, .mov (.t 161)⟩, ⟨(some 21), none, .mov (.t 162)⟩])
 (.seq (.ops [⟨(some 164), none, .mov (.t 7)⟩, ⟨(some 165), none, .mov (.t 19)⟩, ⟨(some 166), none, .call 16 [(.t 164), (.t 165)]⟩, ⟨(some 163), none, .mov (.t 166)⟩, ⟨(some 167), none, .extract (.t 163) 0⟩, ⟨(some 168), none, .extract (.t 163) 1⟩, ⟨(some 22), none, .mov (.t 167)⟩, ⟨(some 23), none, .mov (.t 168)⟩])
 (.seq (.ops [⟨(some 169), none, .mov (.t 20)⟩, ⟨(some 170), none, .mov (.t 22)⟩, ⟨(some 171), none, .bin .neq (.t 169) (.t 170)⟩])
 (.cond (.t 171) (.seq (.ops [⟨(some 4), none, .mov (.c (.bool false))⟩])
 .ret) .skip)))))
 (.ops [⟨(some 155), none, .mov (.t 19)⟩, ⟨(some 156), none, .bin .add (.t 155) (.c (.int .i64 1))⟩, ⟨(some 19), none, .mov (.t 156)⟩])))
/-- furlong/furlonglaw8.DiskActs -/
def v4 : VFun := ⟨2, [(.tmp 4)], (.seq (.ops [⟨(some 4), none, .mov (.c (.bool false))⟩])
 (.seq (.ops [⟨(some 25), none, .mov (.t 0)⟩, ⟨(some 26), none, .call 8 [(.t 25)]⟩, ⟨(some 24), none, .mov (.t 26)⟩, ⟨(some 27), none, .extract (.t 24) 0⟩, ⟨(some 28), none, .extract (.t 24) 1⟩, ⟨(some 5), none, .mov (.t 27)⟩, ⟨(some 6), none, .mov (.t 28)⟩])
 (.seq (.ops [⟨(some 30), none, .mov (.t 0)⟩, ⟨(some 31), none, .call 14 [(.t 30)]⟩, ⟨(some 29), none, .mov (.t 31)⟩, ⟨(some 32), none, .extract (.t 29) 0⟩, ⟨(some 33), none, .extract (.t 29) 1⟩, ⟨(some 7), none, .mov (.t 32)⟩, ⟨(some 8), none, .mov (.t 33)⟩])
 (.seq (.seq (.ops [⟨(some 34), none, .mov (.t 8)⟩, ⟨(some 35), none, .bin .neq (.t 34) (.c (.int .i64 0))⟩])
 (.cond (.t 35) (.seq (.ops [⟨(some 36), none, .mov (.t 6)⟩, ⟨(some 37), none, .call 13 [(.t 36)]⟩, ⟨(some 38), none, .mov (.t 8)⟩, ⟨(some 39), none, .bin .eql (.t 37) (.t 38)⟩, ⟨(some 40), none, .mov (.t 39)⟩, ⟨(some 41), (some (40, true)), .mov (.t 5)⟩, ⟨(some 42), (some (40, true)), .eqs .ptr false (.t 41) (.c .nilp)⟩, ⟨(some 43), none, .pick (.t 40) (.t 42) (.c (.bool false))⟩, ⟨(some 44), none, .mov (.t 43)⟩, ⟨(some 45), (some (44, true)), .call 7 []⟩, ⟨(some 46), none, .pick (.t 44) (.t 45) (.c (.bool false))⟩, ⟨(some 4), none, .mov (.t 46)⟩])
 .ret) .skip))
 (.seq (.seq (.ops [⟨(some 47), none, .mov (.t 6)⟩, ⟨(some 48), none, .call 13 [(.t 47)]⟩, ⟨(some 49), none, .bin .neq (.t 48) (.c (.int .i64 0))⟩, ⟨(some 50), none, .mov (.t 49)⟩, ⟨(some 51), (some (50, false)), .mov (.t 5)⟩, ⟨(some 52), (some (50, false)), .eqs .ptr false (.t 51) (.c .nilp)⟩, ⟨(some 53), none, .pick (.t 50) (.c (.bool true)) (.t 52)⟩])
 (.cond (.t 53) (.seq (.ops [⟨(some 4), none, .mov (.c (.bool false))⟩])
 .ret) .skip))
 (.seq (.seq (.ops [⟨(some 9), none, .mov (.c (.int .i64 0))⟩])
 (.block 0 (.loop b4_0)))
 (.seq (.seq (.ops [⟨(some 19), none, .mov (.c (.int .i64 0))⟩])
 (.block 3 (.loop b4_1)))
 (.seq (.ops [⟨(some 172), none, .call 7 []⟩, ⟨(some 4), none, .mov (.t 172)⟩])
 .ret))))))))⟩
/-- furlong/furlonglaw8.awake -/
def v7 : VFun := ⟨0, [(.tmp 0)], (.seq (.ops [⟨(some 0), none, .mov (.c (.bool false))⟩])
 (.seq (.ops [⟨(some 20), none, .call 8 [(.c (.int .i64 3))]⟩, ⟨(some 19), none, .mov (.t 20)⟩, ⟨(some 21), none, .extract (.t 19) 0⟩, ⟨(some 22), none, .extract (.t 19) 1⟩, ⟨(some 1), none, .mov (.t 21)⟩, ⟨(some 2), none, .mov (.t 22)⟩])
 (.seq (.ops [⟨(some 24), none, .call 8 [(.c (.int .i64 0))]⟩, ⟨(some 23), none, .mov (.t 24)⟩, ⟨(some 25), none, .extract (.t 23) 0⟩, ⟨(some 26), none, .extract (.t 23) 1⟩, ⟨(some 3), none, .mov (.t 25)⟩, ⟨(some 4), none, .mov (.t 26)⟩])
 (.seq (.seq (.ops [⟨(some 27), none, .mov (.t 2)⟩, ⟨(some 28), none, .call 13 [(.t 27)]⟩, ⟨(some 29), none, .bin .neq (.t 28) (.c (.int .i64 0))⟩, ⟨(some 30), none, .mov (.t 29)⟩, ⟨(some 31), (some (30, false)), .mov (.t 1)⟩, ⟨(some 32), (some (30, false)), .eqs .ptr false (.t 31) (.c .nilp)⟩, ⟨(some 33), none, .pick (.t 30) (.c (.bool true)) (.t 32)⟩])
 (.cond (.t 33) (.seq (.ops [⟨(some 0), none, .mov (.c (.bool false))⟩])
 .ret) .skip))
 (.seq (.ops [⟨(some 34), none, .mov (.t 1)⟩, ⟨(some 35), none, .call 11 [(.c (.int .i64 1))]⟩, ⟨(some 36), none, .call 10 [(.t 34), (.c (.int .i64 0)), (.t 35)]⟩, ⟨(some 5), none, .mov (.t 36)⟩])
 (.seq (.ops [⟨(some 37), none, .mov (.t 1)⟩, ⟨(some 38), none, .call 11 [(.c (.int .i64 2))]⟩, ⟨(some 39), none, .call 10 [(.t 37), (.c (.int .i64 1)), (.t 38)]⟩, ⟨(some 6), none, .mov (.t 39)⟩])
 (.seq (.ops [⟨(some 40), none, .mov (.t 1)⟩, ⟨(some 41), none, .call 11 [(.c (.int .i64 3))]⟩, ⟨(some 42), none, .call 10 [(.t 40), (.c (.int .i64 2)), (.t 41)]⟩, ⟨(some 7), none, .mov (.t 42)⟩])
 (.seq (.ops [⟨(some 43), none, .mov (.t 1)⟩, ⟨(some 44), none, .call 20 [(.t 43)]⟩, ⟨(some 8), none, .mov (.t 44)⟩])
 (.seq (.ops [⟨(some 45), none, .mov (.t 1)⟩, ⟨(some 46), none, .build [(.int .i64 0), (.int .i64 0), (.int .i64 0)] [(0, 1, (.c (.int .i64 4))), (1, 1, (.c (.int .i64 1))), (2, 1, (.c (.int .i64 10)))]⟩, ⟨(some 47), none, .call 12 [(.t 45), (.t 46)]⟩, ⟨(some 9), none, .mov (.t 47)⟩])
 (.seq (.ops [⟨(some 49), none, .mov (.t 1)⟩, ⟨(some 50), none, .call 9 [(.t 49), (.c (.int .i64 0))]⟩, ⟨(some 48), none, .mov (.t 50)⟩, ⟨(some 51), none, .extract (.t 48) 0⟩, ⟨(some 52), none, .extract (.t 48) 1⟩, ⟨(some 10), none, .mov (.t 51)⟩, ⟨(some 11), none, .mov (.t 52)⟩])
 (.seq (.ops [⟨(some 54), none, .mov (.t 1)⟩, ⟨(some 55), none, .call 9 [(.t 54), (.c (.int .i64 1))]⟩, ⟨(some 53), none, .mov (.t 55)⟩, ⟨(some 56), none, .extract (.t 53) 0⟩, ⟨(some 57), none, .extract (.t 53) 1⟩, ⟨(some 12), none, .mov (.t 56)⟩, ⟨(some 13), none, .mov (.t 57)⟩])
 (.seq (.ops [⟨(some 59), none, .mov (.t 1)⟩, ⟨(some 60), none, .call 9 [(.t 59), (.c (.int .i64 2))]⟩, ⟨(some 58), none, .mov (.t 60)⟩, ⟨(some 61), none, .extract (.t 58) 0⟩, ⟨(some 62), none, .extract (.t 58) 1⟩, ⟨(some 14), none, .mov (.t 61)⟩, ⟨(some 15), none, .mov (.t 62)⟩])
 (.seq (.ops [⟨(some 63), none, .mov (.t 1)⟩, ⟨(some 64), none, .build [(.int .i64 0), (.int .i64 0), (.int .i64 0)] [(2, 1, (.c (.int .i64 65)))]⟩, ⟨(some 65), none, .call 12 [(.t 63), (.t 64)]⟩, ⟨(some 16), none, .mov (.t 65)⟩])
 (.seq (.ops [⟨(some 67), none, .mov (.t 1)⟩, ⟨(some 68), none, .call 9 [(.t 67), (.c (.int .i64 3))]⟩, ⟨(some 66), none, .mov (.t 68)⟩, ⟨(some 69), none, .extract (.t 66) 0⟩, ⟨(some 70), none, .extract (.t 66) 1⟩, ⟨(some 17), none, .mov (.t 69)⟩, ⟨(some 18), none, .mov (.t 70)⟩])
 (.seq (.drawn [⟨(some 71), none, .mov (.t 4)⟩, ⟨(some 72), none, .call 13 [(.t 71)]⟩, ⟨(some 73), none, .bin .eql (.t 72) (.c (.int .i64 800))⟩, ⟨(some 74), none, .mov (.t 73)⟩, ⟨(some 75), (some (74, true)), .mov (.t 5)⟩, ⟨(some 76), (some (74, true)), .call 13 [(.t 75)]⟩, ⟨(some 77), (some (74, true)), .bin .eql (.t 76) (.c (.int .i64 0))⟩, ⟨(some 78), none, .pick (.t 74) (.t 77) (.c (.bool false))⟩, ⟨(some 79), none, .mov (.t 78)⟩, ⟨(some 80), (some (79, true)), .mov (.t 6)⟩, ⟨(some 81), (some (79, true)), .call 13 [(.t 80)]⟩, ⟨(some 82), (some (79, true)), .bin .eql (.t 81) (.c (.int .i64 0))⟩, ⟨(some 83), none, .pick (.t 79) (.t 82) (.c (.bool false))⟩, ⟨(some 84), none, .mov (.t 83)⟩, ⟨(some 85), (some (84, true)), .mov (.t 7)⟩, ⟨(some 86), (some (84, true)), .call 13 [(.t 85)]⟩, ⟨(some 87), (some (84, true)), .bin .eql (.t 86) (.c (.int .i64 0))⟩, ⟨(some 88), none, .pick (.t 84) (.t 87) (.c (.bool false))⟩, ⟨(some 89), none, .mov (.t 88)⟩, ⟨(some 90), (some (89, true)), .mov (.t 8)⟩, ⟨(some 91), (some (89, true)), .bin .eql (.t 90) (.c (.int .i64 3))⟩, ⟨(some 92), none, .pick (.t 89) (.t 91) (.c (.bool false))⟩, ⟨(some 93), none, .mov (.t 92)⟩, ⟨(some 94), (some (93, true)), .mov (.t 9)⟩, ⟨(some 95), (some (93, true)), .call 13 [(.t 94)]⟩, ⟨(some 96), (some (93, true)), .bin .eql (.t 95) (.c (.int .i64 0))⟩, ⟨(some 97), none, .pick (.t 93) (.t 96) (.c (.bool false))⟩, ⟨(some 98), none, .mov (.t 97)⟩, ⟨(some 99), (some (98, true)), .mov (.t 10)⟩, ⟨(some 100), (some (98, true)), .call 11 [(.c (.int .i64 0))]⟩, ⟨(some 101), (some (98, true)), .bin .eql (.t 99) (.t 100)⟩, ⟨(some 102), none, .pick (.t 98) (.t 101) (.c (.bool false))⟩, ⟨(some 103), none, .mov (.t 102)⟩, ⟨(some 104), (some (103, true)), .mov (.t 12)⟩, ⟨(some 105), (some (103, true)), .call 11 [(.c (.int .i64 2))]⟩, ⟨(some 106), (some (103, true)), .sliceS (.t 105) none (some (.c (.int .i64 10)))⟩, ⟨(some 107), (some (103, true)), .call 11 [(.c (.int .i64 0))]⟩, ⟨(some 108), (some (103, true)), .sliceS (.t 107) (some (.c (.int .i64 10))) none⟩, ⟨(some 109), (some (103, true)), .bin .add (.t 106) (.t 108)⟩, ⟨(some 110), (some (103, true)), .bin .eql (.t 104) (.t 109)⟩, ⟨(some 111), none, .pick (.t 103) (.t 110) (.c (.bool false))⟩, ⟨(some 112), none, .mov (.t 111)⟩, ⟨(some 113), (some (112, true)), .mov (.t 14)⟩, ⟨(some 114), (some (112, true)), .call 11 [(.c (.int .i64 3))]⟩, ⟨(some 115), (some (112, true)), .bin .eql (.t 113) (.t 114)⟩, ⟨(some 116), none, .pick (.t 112) (.t 115) (.c (.bool false))⟩, ⟨(some 117), none, .mov (.t 116)⟩, ⟨(some 118), (some (117, true)), .mov (.t 16)⟩, ⟨(some 119), (some (117, true)), .call 13 [(.t 118)]⟩, ⟨(some 120), (some (117, true)), .bin .eql (.t 119) (.c (.int .i64 800))⟩, ⟨(some 121), none, .pick (.t 117) (.t 120) (.c (.bool false))⟩, ⟨(some 122), none, .mov (.t 121)⟩, ⟨(some 123), (some (122, true)), .mov (.t 18)⟩, ⟨(some 124), (some (122, true)), .call 13 [(.t 123)]⟩, ⟨(some 125), (some (122, true)), .bin .eql (.t 124) (.c (.int .i64 800))⟩, ⟨(some 126), none, .pick (.t 122) (.t 125) (.c (.bool false))⟩, ⟨(some 127), none, .mov (.t 126)⟩, ⟨(some 128), (some (127, true)), .mov (.t 1)⟩, ⟨(some 129), (some (127, true)), .call 20 [(.t 128)]⟩, ⟨(some 130), (some (127, true)), .bin .eql (.t 129) (.c (.int .i64 0))⟩, ⟨(some 131), none, .pick (.t 127) (.t 130) (.c (.bool false))⟩, ⟨(some 132), none, .mov (.t 131)⟩, ⟨(some 133), (some (132, true)), .mov (.t 1)⟩, ⟨(some 134), (some (132, true)), .call 22 [(.t 133)]⟩, ⟨(some 135), (some (132, true)), .bin .eql (.t 134) (.c (.int .i64 3))⟩, ⟨(some 136), none, .pick (.t 132) (.t 135) (.c (.bool false))⟩, ⟨(some 0), none, .mov (.t 136)⟩] [])
 .ret)))))))))))))))⟩
/-- furlong/disk.New -/
def v8 : VFun := ⟨1, [(.tmp 2), (.tmp 3)], (.seq (.ops [⟨(some 2), none, .mov (.c .nilp)⟩, ⟨(some 3), none, .mov (.c (.int .i64 0))⟩])
 (.seq (.seq (.ops [⟨(some 5), none, .mov (.t 0)⟩, ⟨(some 6), none, .bin .lss (.t 5) (.c (.int .i64 1))⟩, ⟨(some 7), none, .mov (.t 6)⟩, ⟨(some 8), (some (7, false)), .mov (.t 0)⟩, ⟨(some 9), (some (7, false)), .bin .gtr (.t 8) (.c (.int .i64 1024))⟩, ⟨(some 10), none, .pick (.t 7) (.c (.bool true)) (.t 9)⟩])
 (.cond (.t 10) (.seq (.ops [⟨(some 2), none, .mov (.c .nilp)⟩, ⟨(some 3), none, .mov (.c (.int .i64 800))⟩])
 .ret) .skip))
 (.seq (.ops [⟨(some 11), none, .mkslice [(.int .u8 0)] 5 1 (.c (.int .i64 64)) (.c (.int .i64 64))⟩, ⟨(some 12), none, .conv .text (.t 11)⟩, ⟨(some 4), none, .mov (.t 12)⟩])
 (.seq (.ops [⟨(some 13), none, .mov (.t 4)⟩, ⟨(some 14), none, .bslice [(.str [])] 9 1 [(0, 1, (.t 13))]⟩, ⟨(some 15), none, .mov (.t 0)⟩, ⟨(some 16), none, .call 24 [(.t 14), (.t 15)]⟩, ⟨(some 17), none, .mkmap⟩, ⟨(some 18), none, .build [.nils, .nilm, (.int .i64 0)] [(0, 1, (.t 16)), (1, 1, (.t 17))]⟩, ⟨(some 19), none, .box 66 (.t 18)⟩, ⟨(some 2), none, .mov (.t 19)⟩, ⟨(some 3), none, .mov (.c (.int .i64 0))⟩])
 .ret))))⟩
/-- (*furlong/disk.Disk).Read -/
def v9 : VFun := ⟨2, [(.tmp 4), (.tmp 5)], (.seq (.ops [⟨(some 4), none, .mov (.c (.str []))⟩, ⟨(some 5), none, .mov (.c (.int .i64 0))⟩])
 (.seq (.block 0 (.seq (.ops [⟨(some 9), none, .mov (.t 0)⟩, ⟨(some 10), none, .eqs .ptr false (.t 9) (.c .nilp)⟩, ⟨(some 8), none, .mov (.t 10)⟩])
 (.cond (.t 8) (.seq (.ops [⟨(some 4), none, .mov (.c (.str []))⟩, ⟨(some 5), none, .mov (.c (.int .i64 1))⟩])
 .ret) (.seq (.ops [⟨(some 12), none, .mov (.t 1)⟩, ⟨(some 13), none, .bin .lss (.t 12) (.c (.int .i64 0))⟩, ⟨(some 14), none, .mov (.t 13)⟩, ⟨(some 15), (some (14, false)), .mov (.t 1)⟩, ⟨(some 16), (some (14, false)), .mov (.t 0)⟩, ⟨(some 17), (some (14, false)), .nilck (.t 16)⟩, ⟨(some 18), (some (14, false)), .faddr 0 (.t 17)⟩, ⟨(some 19), (some (14, false)), .load false 1 (.t 18)⟩, ⟨(some 20), (some (14, false)), .bi (.len 1) [(.t 19)]⟩, ⟨(some 21), (some (14, false)), .bin .geq (.t 15) (.t 20)⟩, ⟨(some 22), none, .pick (.t 14) (.c (.bool true)) (.t 21)⟩, ⟨(some 11), none, .mov (.t 22)⟩])
 (.cond (.t 11) (.seq (.ops [⟨(some 4), none, .mov (.c (.str []))⟩, ⟨(some 5), none, .mov (.c (.int .i64 800))⟩])
 .ret) .skip)))))
 (.seq (.seq (.ops [⟨(some 24), none, .mov (.t 0)⟩, ⟨(some 25), none, .nilck (.t 24)⟩, ⟨(some 26), none, .faddr 1 (.t 25)⟩, ⟨(some 27), none, .load false 1 (.t 26)⟩, ⟨(some 28), none, .mov (.t 1)⟩, ⟨(some 29), none, .lookup .int (.str []) true (.t 27) (.t 28)⟩, ⟨(some 23), none, .mov (.t 29)⟩, ⟨(some 30), none, .extract (.t 23) 0⟩, ⟨(some 31), none, .extract (.t 23) 1⟩, ⟨(some 6), none, .mov (.t 30)⟩, ⟨(some 7), none, .mov (.t 31)⟩])
 (.seq (.ops [⟨(some 32), none, .mov (.t 7)⟩])
 (.cond (.t 32) (.seq (.ops [⟨(some 33), none, .mov (.t 6)⟩, ⟨(some 4), none, .mov (.t 33)⟩, ⟨(some 5), none, .mov (.c (.int .i64 0))⟩])
 .ret) .skip)))
 (.seq (.ops [⟨(some 34), none, .mov (.t 0)⟩, ⟨(some 35), none, .nilck (.t 34)⟩, ⟨(some 36), none, .faddr 0 (.t 35)⟩, ⟨(some 37), none, .load false 1 (.t 36)⟩, ⟨(some 38), none, .mov (.t 1)⟩, ⟨(some 39), none, .iaddr 1 none (.t 37) (.t 38)⟩, ⟨(some 40), none, .load false 1 (.t 39)⟩, ⟨(some 4), none, .mov (.t 40)⟩, ⟨(some 5), none, .mov (.c (.int .i64 0))⟩])
 .ret))))⟩
/-- (*furlong/disk.Disk).Write -/
def v10 : VFun := ⟨3, [(.tmp 6)], (.seq (.ops [⟨(some 6), none, .mov (.c (.int .i64 0))⟩])
 (.seq (.block 0 (.seq (.ops [⟨(some 10), none, .mov (.t 0)⟩, ⟨(some 11), none, .eqs .ptr false (.t 10) (.c .nilp)⟩, ⟨(some 9), none, .mov (.t 11)⟩])
 (.cond (.t 9) (.seq (.ops [⟨(some 6), none, .mov (.c (.int .i64 1))⟩])
 .ret) (.seq (.ops [⟨(some 13), none, .mov (.t 1)⟩, ⟨(some 14), none, .bin .lss (.t 13) (.c (.int .i64 0))⟩, ⟨(some 15), none, .mov (.t 14)⟩, ⟨(some 16), (some (15, false)), .mov (.t 1)⟩, ⟨(some 17), (some (15, false)), .mov (.t 0)⟩, ⟨(some 18), (some (15, false)), .nilck (.t 17)⟩, ⟨(some 19), (some (15, false)), .faddr 0 (.t 18)⟩, ⟨(some 20), (some (15, false)), .load false 1 (.t 19)⟩, ⟨(some 21), (some (15, false)), .bi (.len 1) [(.t 20)]⟩, ⟨(some 22), (some (15, false)), .bin .geq (.t 16) (.t 21)⟩, ⟨(some 23), none, .pick (.t 15) (.c (.bool true)) (.t 22)⟩, ⟨(some 24), none, .mov (.t 23)⟩, ⟨(some 25), (some (24, false)), .mov (.t 2)⟩, ⟨(some 26), (some (24, false)), .bi (.len 0) [(.t 25)]⟩, ⟨(some 27), (some (24, false)), .bin .neq (.t 26) (.c (.int .i64 64))⟩, ⟨(some 28), none, .pick (.t 24) (.c (.bool true)) (.t 27)⟩, ⟨(some 12), none, .mov (.t 28)⟩])
 (.cond (.t 12) (.seq (.ops [⟨(some 6), none, .mov (.c (.int .i64 800))⟩])
 .ret) .skip)))))
 (.seq (.seq (.ops [⟨(some 30), none, .mov (.t 0)⟩, ⟨(some 31), none, .nilck (.t 30)⟩, ⟨(some 32), none, .faddr 1 (.t 31)⟩, ⟨(some 33), none, .load false 1 (.t 32)⟩, ⟨(some 34), none, .mov (.t 1)⟩, ⟨(some 35), none, .lookup .int (.str []) true (.t 33) (.t 34)⟩, ⟨(some 29), none, .mov (.t 35)⟩, ⟨(some 36), none, .extract (.t 29) 0⟩, ⟨(some 37), none, .extract (.t 29) 1⟩, ⟨(some 7), none, .mov (.t 36)⟩, ⟨(some 8), none, .mov (.t 37)⟩])
 (.seq (.ops [⟨(some 38), none, .mov (.t 8)⟩, ⟨(some 39), none, .un .not (.t 38)⟩])
 (.cond (.t 39) (.ops [⟨(some 40), none, .mov (.t 0)⟩, ⟨(some 41), none, .nilck (.t 40)⟩, ⟨(some 42), none, .faddr 2 (.t 41)⟩, ⟨(some 43), none, .call 25 [(.t 42), (.c (.int .i64 1))]⟩]) .skip)))
 (.seq (.ops [⟨(some 44), none, .mov (.t 0)⟩, ⟨(some 45), none, .nilck (.t 44)⟩, ⟨(some 46), none, .faddr 1 (.t 45)⟩, ⟨(some 47), none, .load false 1 (.t 46)⟩, ⟨(some 48), none, .mov (.t 1)⟩, ⟨(some 49), none, .mov (.t 2)⟩, ⟨none, none, .mupd .int (.t 47) (.t 48) (.t 49)⟩])
 (.seq (.ops [⟨(some 6), none, .mov (.c (.int .i64 0))⟩])
 .ret)))))⟩
def b11_0 : VCode := (.seq (.seq (.ops [⟨(some 6), none, .mov (.t 4)⟩, ⟨(some 7), none, .mov (.t 3)⟩, ⟨(some 8), none, .bi (.len 1) [(.t 7)]⟩, ⟨(some 9), none, .bin .lss (.t 6) (.t 8)⟩])
 (.cond (.t 9) .skip (.exit 0)))
 (.seq (.block 1 (.ops [⟨(some 12), none, .mov (.t 3)⟩, ⟨(some 13), none, .mov (.t 4)⟩, ⟨(some 14), none, .mov (.t 0)⟩, ⟨(some 15), none, .conv (.int .u8) (.t 14)⟩, ⟨(some 16), none, .iaddr 1 none (.t 12) (.t 13)⟩, ⟨none, none, .store 1 (.t 16) (.t 15)⟩]))
 (.ops [⟨(some 10), none, .mov (.t 4)⟩, ⟨(some 11), none, .bin .add (.t 10) (.c (.int .i64 1))⟩, ⟨(some 4), none, .mov (.t 11)⟩])))
/-- furlong/furlonglaw8.sector -/
def v11 : VFun := ⟨1, [(.tmp 2)], (.seq (.ops [⟨(some 2), none, .mov (.c (.str []))⟩])
 (.seq (.ops [⟨(some 5), none, .mkslice [(.int .u8 0)] 5 1 (.c (.int .i64 64)) (.c (.int .i64 64))⟩, ⟨(some 3), none, .mov (.t 5)⟩])
 (.seq (.seq (.ops [⟨(some 4), none, .mov (.c (.int .i64 0))⟩])
 (.block 0 (.loop b11_0)))
 (.seq (.ops [⟨(some 17), none, .mov (.t 3)⟩, ⟨(some 18), none, .conv .text (.t 17)⟩, ⟨(some 2), none, .mov (.t 18)⟩])
 .ret))))⟩
def b12_0 : VCode := (.seq (.ops [⟨(some 27), none, .bin .lss (.t 26) (.t 25)⟩])
 (.seq (.cond (.t 27) .skip (.exit 1))
 (.seq (.block 2 (.seq (.ops [⟨(some 28), none, .mov (.t 26)⟩, ⟨(some 29), none, .iaddr 1 none (.t 24) (.t 26)⟩, ⟨(some 30), none, .load false 1 (.t 29)⟩, ⟨(some 5), none, .mov (.t 28)⟩, ⟨(some 6), none, .mov (.t 30)⟩])
 (.block 3 (.seq (.ops [⟨(some 32), none, .mov (.t 5)⟩, ⟨(some 33), none, .faddr 1 (.t 3)⟩, ⟨(some 34), none, .load false 1 (.t 33)⟩, ⟨(some 35), none, .bin .eql (.t 32) (.t 34)⟩, ⟨(some 31), none, .mov (.t 35)⟩])
 (.cond (.t 31) (.drawn [⟨(some 36), none, .mov (.t 0)⟩, ⟨(some 37), none, .nilck (.t 36)⟩, ⟨(some 38), none, .faddr 0 (.t 37)⟩, ⟨(some 39), none, .load false 1 (.t 38)⟩, ⟨(some 40), none, .mov (.t 6)⟩, ⟨(some 41), none, .mov (.t 0)⟩, ⟨(some 42), none, .nilck (.t 41)⟩, ⟨(some 43), none, .faddr 1 (.t 42)⟩, ⟨(some 44), none, .load false 1 (.t 43)⟩, ⟨(some 45), none, .mov (.t 6)⟩, ⟨(some 46), none, .lookup .int (.str []) false (.t 44) (.t 45)⟩, ⟨(some 47), none, .faddr 2 (.t 3)⟩, ⟨(some 48), none, .load false 1 (.t 47)⟩, ⟨(some 49), none, .sliceS (.t 46) none (some (.t 48))⟩, ⟨(some 50), none, .mov (.t 0)⟩, ⟨(some 51), none, .nilck (.t 50)⟩, ⟨(some 52), none, .faddr 0 (.t 51)⟩, ⟨(some 53), none, .load false 1 (.t 52)⟩, ⟨(some 54), none, .mov (.t 6)⟩, ⟨(some 55), none, .iaddr 1 none (.t 53) (.t 54)⟩, ⟨(some 56), none, .load false 1 (.t 55)⟩, ⟨(some 57), none, .faddr 2 (.t 3)⟩, ⟨(some 58), none, .load false 1 (.t 57)⟩, ⟨(some 59), none, .sliceS (.t 56) (some (.t 58)) none⟩, ⟨(some 60), none, .bin .add (.t 49) (.t 59)⟩, ⟨(some 61), none, .iaddr 1 none (.t 39) (.t 40)⟩, ⟨none, none, .store 1 (.t 61) (.t 60)⟩] []) (.seq (.ops [⟨(some 63), none, .mov (.t 5)⟩, ⟨(some 64), none, .bin .lss (.t 63) (.c (.int .i64 62))⟩, ⟨(some 65), none, .mov (.t 64)⟩, ⟨(some 66), (some (65, true)), .faddr 0 (.t 3)⟩, ⟨(some 67), (some (65, true)), .load false 1 (.t 66)⟩, ⟨(some 68), (some (65, true)), .mov (.t 5)⟩, ⟨(some 69), (some (65, true)), .bin .shr (.t 67) (.t 68)⟩, ⟨(some 70), (some (65, true)), .bin .and (.t 69) (.c (.int .i64 1))⟩, ⟨(some 71), (some (65, true)), .bin .eql (.t 70) (.c (.int .i64 1))⟩, ⟨(some 72), none, .pick (.t 65) (.t 71) (.c (.bool false))⟩, ⟨(some 62), none, .mov (.t 72)⟩])
 (.cond (.t 62) (.drawn [⟨(some 73), none, .mov (.t 0)⟩, ⟨(some 74), none, .nilck (.t 73)⟩, ⟨(some 75), none, .faddr 0 (.t 74)⟩, ⟨(some 76), none, .load false 1 (.t 75)⟩, ⟨(some 77), none, .mov (.t 6)⟩, ⟨(some 78), none, .mov (.t 0)⟩, ⟨(some 79), none, .nilck (.t 78)⟩, ⟨(some 80), none, .faddr 1 (.t 79)⟩, ⟨(some 81), none, .load false 1 (.t 80)⟩, ⟨(some 82), none, .mov (.t 6)⟩, ⟨(some 83), none, .lookup .int (.str []) false (.t 81) (.t 82)⟩, ⟨(some 84), none, .iaddr 1 none (.t 76) (.t 77)⟩, ⟨none, none, .store 1 (.t 84) (.t 83)⟩] []) .skip)))))))
 (.ops [⟨(some 85), none, .bin .add (.t 26) (.c (.int .i64 1))⟩, ⟨(some 26), none, .mov (.t 85)⟩]))))
/-- (*furlong/disk.Disk).Crash -/
def v12 : VFun := ⟨2, [(.tmp 4)], (.seq (.ops [⟨(some 3), none, .box 34 (.t 1)⟩, ⟨(some 4), none, .mov (.c (.int .i64 0))⟩])
 (.seq (.block 0 (.seq (.ops [⟨(some 8), none, .mov (.t 0)⟩, ⟨(some 9), none, .eqs .ptr false (.t 8) (.c .nilp)⟩, ⟨(some 7), none, .mov (.t 9)⟩])
 (.cond (.t 7) (.seq (.ops [⟨(some 4), none, .mov (.c (.int .i64 1))⟩])
 .ret) (.seq (.ops [⟨(some 11), none, .faddr 2 (.t 3)⟩, ⟨(some 12), none, .load false 1 (.t 11)⟩, ⟨(some 13), none, .bin .lss (.t 12) (.c (.int .i64 0))⟩, ⟨(some 14), none, .mov (.t 13)⟩, ⟨(some 15), (some (14, false)), .faddr 2 (.t 3)⟩, ⟨(some 16), (some (14, false)), .load false 1 (.t 15)⟩, ⟨(some 17), (some (14, false)), .bin .gtr (.t 16) (.c (.int .i64 64))⟩, ⟨(some 18), none, .pick (.t 14) (.c (.bool true)) (.t 17)⟩, ⟨(some 10), none, .mov (.t 18)⟩])
 (.cond (.t 10) (.seq (.ops [⟨(some 4), none, .mov (.c (.int .i64 800))⟩])
 .ret) .skip)))))
 (.seq (.seq (.ops [⟨(some 19), none, .mov (.t 0)⟩, ⟨(some 20), none, .nilck (.t 19)⟩, ⟨(some 21), none, .faddr 1 (.t 20)⟩, ⟨(some 22), none, .load false 1 (.t 21)⟩, ⟨(some 23), none, .call 27 [(.t 22)]⟩, ⟨(some 24), none, .call 26 [(.t 23)]⟩, ⟨(some 25), none, .bi (.len 1) [(.t 24)]⟩, ⟨(some 26), none, .mov (.c (.int .i64 0))⟩])
 (.block 1 (.loop b12_0)))
 (.seq (.ops [⟨(some 86), none, .mov (.t 0)⟩, ⟨(some 87), none, .call 28 [(.t 86)]⟩])
 (.seq (.ops [⟨(some 4), none, .mov (.c (.int .i64 0))⟩])
 .ret)))))⟩
/-- furlong/furlonglaw0.Num -/
def v13 : VFun := ⟨1, [(.tmp 2)], (.seq (.ops [⟨(some 2), none, .mov (.c (.int .i64 0))⟩])
 (.seq (.ops [⟨(some 3), none, .mov (.t 0)⟩, ⟨(some 2), none, .mov (.t 3)⟩])
 .ret))⟩
def b14_0 : VCode := (.seq (.seq (.ops [⟨(some 19), none, .mov (.t 6)⟩, ⟨(some 20), none, .mov (.t 0)⟩, ⟨(some 21), none, .bin .lss (.t 19) (.t 20)⟩])
 (.cond (.t 21) .skip (.exit 0)))
 (.seq (.block 1 (.seq (.ops [⟨(some 24), none, .mov (.t 4)⟩, ⟨(some 25), none, .mov (.t 4)⟩, ⟨(some 26), none, .nilck (.t 25)⟩, ⟨(some 27), none, .faddr 0 (.t 26)⟩, ⟨(some 28), none, .load false 1 (.t 27)⟩, ⟨(some 29), none, .mov (.t 5)⟩, ⟨(some 30), none, .bslice [(.str [])] 9 1 [(0, 1, (.t 29))]⟩, ⟨(some 31), none, .bi (.append 1 16 9) [(.t 28), (.t 30)]⟩, ⟨(some 32), none, .nilck (.t 24)⟩, ⟨(some 33), none, .faddr 0 (.t 32)⟩, ⟨none, none, .store 1 (.t 33) (.t 31)⟩])
 (.ops [⟨(some 34), none, .mov (.t 4)⟩, ⟨(some 35), none, .mov (.t 4)⟩, ⟨(some 36), none, .nilck (.t 35)⟩, ⟨(some 37), none, .faddr 1 (.t 36)⟩, ⟨(some 38), none, .load false 1 (.t 37)⟩, ⟨(some 39), none, .mov (.t 5)⟩, ⟨(some 40), none, .bslice [(.str [])] 9 1 [(0, 1, (.t 39))]⟩, ⟨(some 41), none, .bi (.append 1 16 9) [(.t 38), (.t 40)]⟩, ⟨(some 42), none, .nilck (.t 34)⟩, ⟨(some 43), none, .faddr 1 (.t 42)⟩, ⟨none, none, .store 1 (.t 43) (.t 41)⟩])))
 (.ops [⟨(some 22), none, .mov (.t 6)⟩, ⟨(some 23), none, .bin .add (.t 22) (.c (.int .i64 1))⟩, ⟨(some 6), none, .mov (.t 23)⟩])))
/-- furlong/furlongref8.NewDisk -/
def v14 : VFun := ⟨1, [(.tmp 2), (.tmp 3)], (.seq (.ops [⟨(some 2), none, .mov (.c .nilp)⟩, ⟨(some 3), none, .mov (.c (.int .i64 0))⟩])
 (.seq (.seq (.ops [⟨(some 7), none, .mov (.t 0)⟩, ⟨(some 8), none, .bin .lss (.t 7) (.c (.int .i64 1))⟩, ⟨(some 9), none, .mov (.t 8)⟩, ⟨(some 10), (some (9, false)), .mov (.t 0)⟩, ⟨(some 11), (some (9, false)), .bin .gtr (.t 10) (.c (.int .i64 1024))⟩, ⟨(some 12), none, .pick (.t 9) (.c (.bool true)) (.t 11)⟩])
 (.cond (.t 12) (.seq (.ops [⟨(some 2), none, .mov (.c .nilp)⟩, ⟨(some 3), none, .mov (.c (.int .i64 800))⟩])
 .ret) .skip))
 (.seq (.ops [⟨(some 13), none, .mov (.t 0)⟩, ⟨(some 14), none, .mkslice [(.bool false)] 4 1 (.t 13) (.t 13)⟩, ⟨(some 15), none, .build [.nils, .nils, .nils] [(2, 1, (.t 14))]⟩, ⟨(some 16), none, .box 75 (.t 15)⟩, ⟨(some 4), none, .mov (.t 16)⟩])
 (.seq (.ops [⟨(some 17), none, .mkslice [(.int .u8 0)] 5 1 (.c (.int .i64 64)) (.c (.int .i64 64))⟩, ⟨(some 18), none, .conv .text (.t 17)⟩, ⟨(some 5), none, .mov (.t 18)⟩])
 (.seq (.seq (.ops [⟨(some 6), none, .mov (.c (.int .i64 0))⟩])
 (.block 0 (.loop b14_0)))
 (.seq (.ops [⟨(some 44), none, .mov (.t 4)⟩, ⟨(some 2), none, .mov (.t 44)⟩, ⟨(some 3), none, .mov (.c (.int .i64 0))⟩])
 .ret))))))⟩
/-- (*furlong/furlongref8.Disk).Write -/
def v15 : VFun := ⟨3, [(.tmp 6)], (.seq (.ops [⟨(some 6), none, .mov (.c (.int .i64 0))⟩])
 (.seq (.seq (.ops [⟨(some 7), none, .mov (.t 1)⟩, ⟨(some 8), none, .bin .lss (.t 7) (.c (.int .i64 0))⟩, ⟨(some 9), none, .mov (.t 8)⟩, ⟨(some 10), (some (9, false)), .mov (.t 1)⟩, ⟨(some 11), (some (9, false)), .mov (.t 0)⟩, ⟨(some 12), (some (9, false)), .nilck (.t 11)⟩, ⟨(some 13), (some (9, false)), .faddr 0 (.t 12)⟩, ⟨(some 14), (some (9, false)), .load false 1 (.t 13)⟩, ⟨(some 15), (some (9, false)), .bi (.len 1) [(.t 14)]⟩, ⟨(some 16), (some (9, false)), .bin .geq (.t 10) (.t 15)⟩, ⟨(some 17), none, .pick (.t 9) (.c (.bool true)) (.t 16)⟩, ⟨(some 18), none, .mov (.t 17)⟩, ⟨(some 19), (some (18, false)), .mov (.t 2)⟩, ⟨(some 20), (some (18, false)), .bi (.len 0) [(.t 19)]⟩, ⟨(some 21), (some (18, false)), .bin .neq (.t 20) (.c (.int .i64 64))⟩, ⟨(some 22), none, .pick (.t 18) (.c (.bool true)) (.t 21)⟩])
 (.cond (.t 22) (.seq (.ops [⟨(some 6), none, .mov (.c (.int .i64 800))⟩])
 .ret) .skip))
 (.seq (.ops [⟨(some 23), none, .mov (.t 0)⟩, ⟨(some 24), none, .nilck (.t 23)⟩, ⟨(some 25), none, .faddr 0 (.t 24)⟩, ⟨(some 26), none, .load false 1 (.t 25)⟩, ⟨(some 27), none, .mov (.t 1)⟩, ⟨(some 28), none, .mov (.t 2)⟩, ⟨(some 29), none, .iaddr 1 none (.t 26) (.t 27)⟩, ⟨none, none, .store 1 (.t 29) (.t 28)⟩])
 (.seq (.ops [⟨(some 30), none, .mov (.t 0)⟩, ⟨(some 31), none, .nilck (.t 30)⟩, ⟨(some 32), none, .faddr 2 (.t 31)⟩, ⟨(some 33), none, .load false 1 (.t 32)⟩, ⟨(some 34), none, .mov (.t 1)⟩, ⟨(some 35), none, .iaddr 1 none (.t 33) (.t 34)⟩, ⟨none, none, .store 1 (.t 35) (.c (.bool true))⟩])
 (.seq (.ops [⟨(some 6), none, .mov (.c (.int .i64 0))⟩])
 .ret)))))⟩
/-- (*furlong/furlongref8.Disk).Read -/
def v16 : VFun := ⟨2, [(.tmp 4), (.tmp 5)], (.seq (.ops [⟨(some 4), none, .mov (.c (.str []))⟩, ⟨(some 5), none, .mov (.c (.int .i64 0))⟩])
 (.seq (.seq (.ops [⟨(some 6), none, .mov (.t 1)⟩, ⟨(some 7), none, .bin .lss (.t 6) (.c (.int .i64 0))⟩, ⟨(some 8), none, .mov (.t 7)⟩, ⟨(some 9), (some (8, false)), .mov (.t 1)⟩, ⟨(some 10), (some (8, false)), .mov (.t 0)⟩, ⟨(some 11), (some (8, false)), .nilck (.t 10)⟩, ⟨(some 12), (some (8, false)), .faddr 0 (.t 11)⟩, ⟨(some 13), (some (8, false)), .load false 1 (.t 12)⟩, ⟨(some 14), (some (8, false)), .bi (.len 1) [(.t 13)]⟩, ⟨(some 15), (some (8, false)), .bin .geq (.t 9) (.t 14)⟩, ⟨(some 16), none, .pick (.t 8) (.c (.bool true)) (.t 15)⟩])
 (.cond (.t 16) (.seq (.ops [⟨(some 4), none, .mov (.c (.str []))⟩, ⟨(some 5), none, .mov (.c (.int .i64 800))⟩])
 .ret) .skip))
 (.seq (.ops [⟨(some 17), none, .mov (.t 0)⟩, ⟨(some 18), none, .nilck (.t 17)⟩, ⟨(some 19), none, .faddr 0 (.t 18)⟩, ⟨(some 20), none, .load false 1 (.t 19)⟩, ⟨(some 21), none, .mov (.t 1)⟩, ⟨(some 22), none, .iaddr 1 none (.t 20) (.t 21)⟩, ⟨(some 23), none, .load false 1 (.t 22)⟩, ⟨(some 4), none, .mov (.t 23)⟩, ⟨(some 5), none, .mov (.c (.int .i64 0))⟩])
 .ret)))⟩
def b17_0 : VCode := (.ops [⟨(some 17), none, .mov (.t 0)⟩, ⟨(some 18), none, .nilck (.t 17)⟩, ⟨(some 19), none, .faddr 0 (.t 18)⟩, ⟨(some 20), none, .load false 1 (.t 19)⟩, ⟨(some 21), none, .mov (.t 3)⟩, ⟨(some 22), none, .mov (.t 4)⟩, ⟨(some 23), none, .iaddr 1 none (.t 20) (.t 21)⟩, ⟨none, none, .store 1 (.t 23) (.t 22)⟩])
/-- (*furlong/disk.Disk).Sync -/
def v17 : VFun := ⟨1, [(.tmp 2)], (.seq (.ops [⟨(some 2), none, .mov (.c (.int .i64 0))⟩])
 (.seq (.seq (.ops [⟨(some 5), none, .mov (.t 0)⟩, ⟨(some 6), none, .eqs .ptr false (.t 5) (.c .nilp)⟩])
 (.cond (.t 6) (.seq (.ops [⟨(some 2), none, .mov (.c (.int .i64 1))⟩])
 .ret) .skip))
 (.seq (.rangeM [⟨(some 7), none, .mov (.t 0)⟩, ⟨(some 8), none, .nilck (.t 7)⟩, ⟨(some 9), none, .faddr 1 (.t 8)⟩, ⟨(some 10), none, .load false 1 (.t 9)⟩] 11 (.t 10) 0 12 13 1 14 [⟨(some 15), none, .extract (.t 14) 0⟩, ⟨(some 16), none, .extract (.t 14) 1⟩, ⟨(some 3), none, .mov (.t 15)⟩, ⟨(some 4), none, .mov (.t 16)⟩] b17_0)
 (.seq (.ops [⟨(some 24), none, .mov (.t 0)⟩, ⟨(some 25), none, .call 28 [(.t 24)]⟩])
 (.seq (.ops [⟨(some 2), none, .mov (.c (.int .i64 0))⟩])
 .ret)))))⟩
def b18_0 : VCode := (.seq (.seq (.ops [⟨(some 3), none, .mov (.t 2)⟩, ⟨(some 4), none, .mov (.t 0)⟩, ⟨(some 5), none, .nilck (.t 4)⟩, ⟨(some 6), none, .faddr 0 (.t 5)⟩, ⟨(some 7), none, .load false 1 (.t 6)⟩, ⟨(some 8), none, .bi (.len 1) [(.t 7)]⟩, ⟨(some 9), none, .bin .lss (.t 3) (.t 8)⟩])
 (.cond (.t 9) .skip (.exit 0)))
 (.seq (.block 1 (.seq (.drawn [⟨(some 12), none, .mov (.t 0)⟩, ⟨(some 13), none, .nilck (.t 12)⟩, ⟨(some 14), none, .faddr 1 (.t 13)⟩, ⟨(some 15), none, .load false 1 (.t 14)⟩, ⟨(some 16), none, .mov (.t 2)⟩, ⟨(some 17), none, .mov (.t 0)⟩, ⟨(some 18), none, .nilck (.t 17)⟩, ⟨(some 19), none, .faddr 0 (.t 18)⟩, ⟨(some 20), none, .load false 1 (.t 19)⟩, ⟨(some 21), none, .mov (.t 2)⟩, ⟨(some 22), none, .iaddr 1 none (.t 20) (.t 21)⟩, ⟨(some 23), none, .load false 1 (.t 22)⟩, ⟨(some 24), none, .iaddr 1 none (.t 15) (.t 16)⟩, ⟨none, none, .store 1 (.t 24) (.t 23)⟩] [])
 (.ops [⟨(some 25), none, .mov (.t 0)⟩, ⟨(some 26), none, .nilck (.t 25)⟩, ⟨(some 27), none, .faddr 2 (.t 26)⟩, ⟨(some 28), none, .load false 1 (.t 27)⟩, ⟨(some 29), none, .mov (.t 2)⟩, ⟨(some 30), none, .iaddr 1 none (.t 28) (.t 29)⟩, ⟨none, none, .store 1 (.t 30) (.c (.bool false))⟩])))
 (.ops [⟨(some 10), none, .mov (.t 2)⟩, ⟨(some 11), none, .bin .add (.t 10) (.c (.int .i64 1))⟩, ⟨(some 2), none, .mov (.t 11)⟩])))
/-- (*furlong/furlongref8.Disk).Sync -/
def v18 : VFun := ⟨1, [], (.seq (.ops [⟨(some 2), none, .mov (.c (.int .i64 0))⟩])
 (.block 0 (.loop b18_0)))⟩
def b19_0 : VCode := (.seq (.seq (.ops [⟨(some 15), none, .mov (.t 6)⟩, ⟨(some 16), none, .mov (.t 0)⟩, ⟨(some 17), none, .nilck (.t 16)⟩, ⟨(some 18), none, .faddr 0 (.t 17)⟩, ⟨(some 19), none, .load false 1 (.t 18)⟩, ⟨(some 20), none, .bi (.len 1) [(.t 19)]⟩, ⟨(some 21), none, .bin .lss (.t 15) (.t 20)⟩])
 (.cond (.t 21) .skip (.exit 0)))
 (.seq (.block 1 (.seq (.seq (.ops [⟨(some 24), none, .mov (.t 0)⟩, ⟨(some 25), none, .nilck (.t 24)⟩, ⟨(some 26), none, .faddr 2 (.t 25)⟩, ⟨(some 27), none, .load false 1 (.t 26)⟩, ⟨(some 28), none, .mov (.t 6)⟩, ⟨(some 29), none, .iaddr 1 none (.t 27) (.t 28)⟩, ⟨(some 30), none, .load false 1 (.t 29)⟩, ⟨(some 31), none, .un .not (.t 30)⟩])
 (.cond (.t 31) (.exit 1) .skip))
 (.seq (.block 2 (.seq (.ops [⟨(some 33), none, .mov (.t 5)⟩, ⟨(some 34), none, .faddr 1 (.t 3)⟩, ⟨(some 35), none, .load false 1 (.t 34)⟩, ⟨(some 36), none, .bin .eql (.t 33) (.t 35)⟩, ⟨(some 32), none, .mov (.t 36)⟩])
 (.cond (.t 32) (.drawn [⟨(some 37), none, .mov (.t 0)⟩, ⟨(some 38), none, .nilck (.t 37)⟩, ⟨(some 39), none, .faddr 0 (.t 38)⟩, ⟨(some 40), none, .load false 1 (.t 39)⟩, ⟨(some 41), none, .mov (.t 6)⟩, ⟨(some 42), none, .mov (.t 0)⟩, ⟨(some 43), none, .nilck (.t 42)⟩, ⟨(some 44), none, .faddr 0 (.t 43)⟩, ⟨(some 45), none, .load false 1 (.t 44)⟩, ⟨(some 46), none, .mov (.t 6)⟩, ⟨(some 47), none, .iaddr 1 none (.t 45) (.t 46)⟩, ⟨(some 48), none, .load false 1 (.t 47)⟩, ⟨(some 49), none, .faddr 2 (.t 3)⟩, ⟨(some 50), none, .load false 1 (.t 49)⟩, ⟨(some 51), none, .sliceS (.t 48) none (some (.t 50))⟩, ⟨(some 52), none, .mov (.t 0)⟩, ⟨(some 53), none, .nilck (.t 52)⟩, ⟨(some 54), none, .faddr 1 (.t 53)⟩, ⟨(some 55), none, .load false 1 (.t 54)⟩, ⟨(some 56), none, .mov (.t 6)⟩, ⟨(some 57), none, .iaddr 1 none (.t 55) (.t 56)⟩, ⟨(some 58), none, .load false 1 (.t 57)⟩, ⟨(some 59), none, .faddr 2 (.t 3)⟩, ⟨(some 60), none, .load false 1 (.t 59)⟩, ⟨(some 61), none, .sliceS (.t 58) (some (.t 60)) none⟩, ⟨(some 62), none, .bin .add (.t 51) (.t 61)⟩, ⟨(some 63), none, .iaddr 1 none (.t 40) (.t 41)⟩, ⟨none, none, .store 1 (.t 63) (.t 62)⟩] []) (.seq (.ops [⟨(some 65), none, .mov (.t 5)⟩, ⟨(some 66), none, .bin .geq (.t 65) (.c (.int .i64 62))⟩, ⟨(some 67), none, .mov (.t 66)⟩, ⟨(some 68), (some (67, false)), .faddr 0 (.t 3)⟩, ⟨(some 69), (some (67, false)), .load false 1 (.t 68)⟩, ⟨(some 70), (some (67, false)), .mov (.t 5)⟩, ⟨(some 71), (some (67, false)), .bin .shr (.t 69) (.t 70)⟩, ⟨(some 72), (some (67, false)), .bin .and (.t 71) (.c (.int .i64 1))⟩, ⟨(some 73), (some (67, false)), .bin .eql (.t 72) (.c (.int .i64 0))⟩, ⟨(some 74), none, .pick (.t 67) (.c (.bool true)) (.t 73)⟩, ⟨(some 64), none, .mov (.t 74)⟩])
 (.cond (.t 64) (.drawn [⟨(some 75), none, .mov (.t 0)⟩, ⟨(some 76), none, .nilck (.t 75)⟩, ⟨(some 77), none, .faddr 0 (.t 76)⟩, ⟨(some 78), none, .load false 1 (.t 77)⟩, ⟨(some 79), none, .mov (.t 6)⟩, ⟨(some 80), none, .mov (.t 0)⟩, ⟨(some 81), none, .nilck (.t 80)⟩, ⟨(some 82), none, .faddr 1 (.t 81)⟩, ⟨(some 83), none, .load false 1 (.t 82)⟩, ⟨(some 84), none, .mov (.t 6)⟩, ⟨(some 85), none, .iaddr 1 none (.t 83) (.t 84)⟩, ⟨(some 86), none, .load false 1 (.t 85)⟩, ⟨(some 87), none, .iaddr 1 none (.t 78) (.t 79)⟩, ⟨none, none, .store 1 (.t 87) (.t 86)⟩] []) .skip)))))
 (.ops [⟨(some 88), none, .mov (.t 5)⟩, ⟨(some 89), none, .bin .add (.t 88) (.c (.int .i64 1))⟩, ⟨(some 5), none, .mov (.t 89)⟩]))))
 (.ops [⟨(some 22), none, .mov (.t 6)⟩, ⟨(some 23), none, .bin .add (.t 22) (.c (.int .i64 1))⟩, ⟨(some 6), none, .mov (.t 23)⟩])))
/-- (*furlong/furlongref8.Disk).Crash -/
def v19 : VFun := ⟨2, [(.tmp 4)], (.seq (.ops [⟨(some 3), none, .box 34 (.t 1)⟩, ⟨(some 4), none, .mov (.c (.int .i64 0))⟩])
 (.seq (.seq (.ops [⟨(some 7), none, .faddr 2 (.t 3)⟩, ⟨(some 8), none, .load false 1 (.t 7)⟩, ⟨(some 9), none, .bin .lss (.t 8) (.c (.int .i64 0))⟩, ⟨(some 10), none, .mov (.t 9)⟩, ⟨(some 11), (some (10, false)), .faddr 2 (.t 3)⟩, ⟨(some 12), (some (10, false)), .load false 1 (.t 11)⟩, ⟨(some 13), (some (10, false)), .bin .gtr (.t 12) (.c (.int .i64 64))⟩, ⟨(some 14), none, .pick (.t 10) (.c (.bool true)) (.t 13)⟩])
 (.cond (.t 14) (.seq (.ops [⟨(some 4), none, .mov (.c (.int .i64 800))⟩])
 .ret) .skip))
 (.seq (.ops [⟨(some 5), none, .mov (.c (.int .i64 0))⟩])
 (.seq (.seq (.ops [⟨(some 6), none, .mov (.c (.int .i64 0))⟩])
 (.block 0 (.loop b19_0)))
 (.seq (.ops [⟨(some 90), none, .mov (.t 0)⟩, ⟨(some 91), none, .call 18 [(.t 90)]⟩])
 (.seq (.ops [⟨(some 4), none, .mov (.c (.int .i64 0))⟩])
 .ret))))))⟩
/-- (*furlong/disk.Disk).Dirty -/
def v20 : VFun := ⟨1, [(.tmp 2)], (.seq (.ops [⟨(some 2), none, .mov (.c (.int .i64 0))⟩])
 (.seq (.seq (.ops [⟨(some 3), none, .mov (.t 0)⟩, ⟨(some 4), none, .eqs .ptr false (.t 3) (.c .nilp)⟩])
 (.cond (.t 4) (.seq (.ops [⟨(some 2), none, .mov (.c (.int .i64 0))⟩])
 .ret) .skip))
 (.seq (.ops [⟨(some 5), none, .mov (.t 0)⟩, ⟨(some 6), none, .nilck (.t 5)⟩, ⟨(some 7), none, .faddr 2 (.t 6)⟩, ⟨(some 8), none, .call 29 [(.t 7)]⟩, ⟨(some 2), none, .mov (.t 8)⟩])
 .ret)))⟩
def b21_0 : VCode := (.seq (.seq (.ops [⟨(some 5), none, .mov (.t 4)⟩, ⟨(some 6), none, .mov (.t 0)⟩, ⟨(some 7), none, .nilck (.t 6)⟩, ⟨(some 8), none, .faddr 2 (.t 7)⟩, ⟨(some 9), none, .load false 1 (.t 8)⟩, ⟨(some 10), none, .bi (.len 1) [(.t 9)]⟩, ⟨(some 11), none, .bin .lss (.t 5) (.t 10)⟩])
 (.cond (.t 11) .skip (.exit 0)))
 (.seq (.block 1 (.seq (.ops [⟨(some 14), none, .mov (.t 0)⟩, ⟨(some 15), none, .nilck (.t 14)⟩, ⟨(some 16), none, .faddr 2 (.t 15)⟩, ⟨(some 17), none, .load false 1 (.t 16)⟩, ⟨(some 18), none, .mov (.t 4)⟩, ⟨(some 19), none, .iaddr 1 none (.t 17) (.t 18)⟩, ⟨(some 20), none, .load false 1 (.t 19)⟩])
 (.cond (.t 20) (.ops [⟨(some 21), none, .mov (.t 3)⟩, ⟨(some 22), none, .bin .add (.t 21) (.c (.int .i64 1))⟩, ⟨(some 3), none, .mov (.t 22)⟩]) .skip)))
 (.ops [⟨(some 12), none, .mov (.t 4)⟩, ⟨(some 13), none, .bin .add (.t 12) (.c (.int .i64 1))⟩, ⟨(some 4), none, .mov (.t 13)⟩])))
/-- (*furlong/furlongref8.Disk).Dirty -/
def v21 : VFun := ⟨1, [(.tmp 2)], (.seq (.ops [⟨(some 2), none, .mov (.c (.int .i64 0))⟩])
 (.seq (.ops [⟨(some 3), none, .mov (.c (.int .i64 0))⟩])
 (.seq (.seq (.ops [⟨(some 4), none, .mov (.c (.int .i64 0))⟩])
 (.block 0 (.loop b21_0)))
 (.seq (.ops [⟨(some 23), none, .mov (.t 3)⟩, ⟨(some 2), none, .mov (.t 23)⟩])
 .ret))))⟩
/-- (*furlong/disk.Disk).Sectors -/
def v22 : VFun := ⟨1, [(.tmp 2)], (.seq (.ops [⟨(some 2), none, .mov (.c (.int .i64 0))⟩])
 (.seq (.seq (.ops [⟨(some 3), none, .mov (.t 0)⟩, ⟨(some 4), none, .eqs .ptr false (.t 3) (.c .nilp)⟩])
 (.cond (.t 4) (.seq (.ops [⟨(some 2), none, .mov (.c (.int .i64 0))⟩])
 .ret) .skip))
 (.seq (.ops [⟨(some 5), none, .mov (.t 0)⟩, ⟨(some 6), none, .nilck (.t 5)⟩, ⟨(some 7), none, .faddr 0 (.t 6)⟩, ⟨(some 8), none, .load false 1 (.t 7)⟩, ⟨(some 9), none, .bi (.len 1) [(.t 8)]⟩, ⟨(some 2), none, .mov (.t 9)⟩])
 .ret)))⟩
/-- (*furlong/furlongref8.Disk).Sectors -/
def v23 : VFun := ⟨1, [(.tmp 2)], (.seq (.ops [⟨(some 2), none, .mov (.c (.int .i64 0))⟩])
 (.seq (.ops [⟨(some 3), none, .mov (.t 0)⟩, ⟨(some 4), none, .nilck (.t 3)⟩, ⟨(some 5), none, .faddr 0 (.t 4)⟩, ⟨(some 6), none, .load false 1 (.t 5)⟩, ⟨(some 7), none, .bi (.len 1) [(.t 6)]⟩, ⟨(some 2), none, .mov (.t 7)⟩])
 .ret))⟩
def b24_0 : VCode := (.seq (.seq (.ops [⟨(some 34), none, .mov (.t 8)⟩, ⟨(some 35), none, .mov (.t 7)⟩, ⟨(some 36), none, .bi (.len 1) [(.t 35)]⟩, ⟨(some 37), none, .bin .lss (.t 34) (.t 36)⟩])
 (.cond (.t 37) .skip (.exit 0)))
 (.block 1 (.drawn [⟨(some 38), none, .mov (.t 8)⟩, ⟨(some 39), none, .mov (.t 7)⟩, ⟨(some 40), none, .mov (.t 8)⟩, ⟨(some 41), none, .slice 1 (.t 39) (some (.t 40)) none none⟩, ⟨(some 42), none, .mov (.t 7)⟩, ⟨(some 43), none, .mov (.t 8)⟩, ⟨(some 44), none, .slice 1 (.t 42) none (some (.t 43)) none⟩, ⟨(some 45), none, .bi (.copy 1) [(.t 41), (.t 44)]⟩, ⟨(some 46), none, .bin .add (.t 38) (.t 45)⟩, ⟨(some 8), none, .mov (.t 46)⟩] [])))
/-- slices.Repeat[[]string,string] -/
def v24 : VFun := ⟨2, [(.tmp 4)], (.seq (.ops [⟨(some 4), none, .mov (.c .nils)⟩])
 (.seq (.seq (.ops [⟨(some 9), none, .mov (.t 1)⟩, ⟨(some 10), none, .bin .lss (.t 9) (.c (.int .i64 0))⟩])
 (.cond (.t 10) (.ops [⟨(some 11), none, .bad⟩, ⟨none, none, .bad⟩]) .skip))
 (.seq (.ops [⟨(some 13), none, .mov (.t 0)⟩, ⟨(some 14), none, .bi (.len 1) [(.t 13)]⟩, ⟨(some 15), none, .conv (.int .u64) (.t 14)⟩, ⟨(some 16), none, .mov (.t 1)⟩, ⟨(some 17), none, .conv (.int .u64) (.t 16)⟩, ⟨(some 18), none, .call 30 [(.t 15), (.t 17)]⟩, ⟨(some 12), none, .mov (.t 18)⟩, ⟨(some 19), none, .extract (.t 12) 0⟩, ⟨(some 20), none, .extract (.t 12) 1⟩, ⟨(some 5), none, .mov (.t 19)⟩, ⟨(some 6), none, .mov (.t 20)⟩])
 (.seq (.seq (.ops [⟨(some 21), none, .mov (.t 5)⟩, ⟨(some 22), none, .bin .gtr (.t 21) (.c (.int .u64 0))⟩, ⟨(some 23), none, .mov (.t 22)⟩, ⟨(some 24), (some (23, false)), .mov (.t 6)⟩, ⟨(some 25), (some (23, false)), .bin .gtr (.t 24) (.c (.int .u64 9223372036854775807))⟩, ⟨(some 26), none, .pick (.t 23) (.c (.bool true)) (.t 25)⟩])
 (.cond (.t 26) (.ops [⟨(some 27), none, .bad⟩, ⟨none, none, .bad⟩]) .skip))
 (.seq (.ops [⟨(some 28), none, .mov (.t 6)⟩, ⟨(some 29), none, .conv (.int .i64) (.t 28)⟩, ⟨(some 30), none, .mkslice [(.str [])] 9 16 (.t 29) (.t 29)⟩, ⟨(some 7), none, .mov (.t 30)⟩])
 (.seq (.ops [⟨(some 31), none, .mov (.t 7)⟩, ⟨(some 32), none, .mov (.t 0)⟩, ⟨(some 33), none, .bi (.copy 1) [(.t 31), (.t 32)]⟩, ⟨(some 8), none, .mov (.t 33)⟩])
 (.seq (.block 0 (.loop b24_0))
 (.seq (.ops [⟨(some 47), none, .mov (.t 7)⟩, ⟨(some 4), none, .mov (.t 47)⟩])
 .ret))))))))⟩
/-- (*sync/atomic.Int64).Add -/
def v25 : VFun := ⟨2, [(.tmp 4)], (.seq (.ops [⟨(some 4), none, .mov (.c (.int .i64 0))⟩])
 (.seq (.ops [⟨(some 5), none, .mov (.t 0)⟩, ⟨(some 6), none, .nilck (.t 5)⟩, ⟨(some 7), none, .faddr 0 (.t 6)⟩, ⟨(some 8), none, .mov (.t 1)⟩, ⟨(some 9), none, .atom 0 (.t 7) (.t 8)⟩, ⟨(some 4), none, .mov (.t 9)⟩])
 .ret))⟩
/-- (*furlong/disk.Disk).clean -/
def v28 : VFun := ⟨1, [], (.seq (.ops [⟨(some 2), none, .mov (.t 0)⟩, ⟨(some 3), none, .nilck (.t 2)⟩, ⟨(some 4), none, .faddr 1 (.t 3)⟩, ⟨(some 5), none, .load false 1 (.t 4)⟩, ⟨none, none, .bi .clear [(.t 5)]⟩])
 (.ops [⟨(some 6), none, .mov (.t 0)⟩, ⟨(some 7), none, .nilck (.t 6)⟩, ⟨(some 8), none, .faddr 2 (.t 7)⟩, ⟨(some 9), none, .call 35 [(.t 8), (.c (.int .i64 0))]⟩]))⟩
/-- (*sync/atomic.Int64).Load -/
def v29 : VFun := ⟨1, [(.tmp 2)], (.seq (.ops [⟨(some 2), none, .mov (.c (.int .i64 0))⟩])
 (.seq (.ops [⟨(some 3), none, .mov (.t 0)⟩, ⟨(some 4), none, .nilck (.t 3)⟩, ⟨(some 5), none, .faddr 0 (.t 4)⟩, ⟨(some 6), none, .atom 1 (.t 5) (.t 5)⟩, ⟨(some 2), none, .mov (.t 6)⟩])
 .ret))⟩
/-- math/bits.Mul -/
def v30 : VFun := ⟨2, [(.tmp 4), (.tmp 5)], (.seq (.ops [⟨(some 4), none, .mov (.c (.int .u64 0))⟩, ⟨(some 5), none, .mov (.c (.int .u64 0))⟩])
 (.seq (.cond (.c (.bool false)) (.seq (.ops [⟨(some 11), none, .mov (.t 0)⟩, ⟨(some 12), none, .conv (.int .u32) (.t 11)⟩, ⟨(some 13), none, .mov (.t 1)⟩, ⟨(some 14), none, .conv (.int .u32) (.t 13)⟩, ⟨(some 15), none, .call 37 [(.t 12), (.t 14)]⟩, ⟨(some 10), none, .mov (.t 15)⟩, ⟨(some 16), none, .extract (.t 10) 0⟩, ⟨(some 17), none, .extract (.t 10) 1⟩, ⟨(some 6), none, .mov (.t 16)⟩, ⟨(some 7), none, .mov (.t 17)⟩])
 (.seq (.ops [⟨(some 18), none, .mov (.t 6)⟩, ⟨(some 19), none, .conv (.int .u64) (.t 18)⟩, ⟨(some 20), none, .mov (.t 7)⟩, ⟨(some 21), none, .conv (.int .u64) (.t 20)⟩, ⟨(some 4), none, .mov (.t 19)⟩, ⟨(some 5), none, .mov (.t 21)⟩])
 .ret)) .skip)
 (.seq (.ops [⟨(some 23), none, .mov (.t 0)⟩, ⟨(some 24), none, .mov (.t 1)⟩, ⟨(some 25), none, .call 38 [(.t 23), (.t 24)]⟩, ⟨(some 22), none, .mov (.t 25)⟩, ⟨(some 26), none, .extract (.t 22) 0⟩, ⟨(some 27), none, .extract (.t 22) 1⟩, ⟨(some 8), none, .mov (.t 26)⟩, ⟨(some 9), none, .mov (.t 27)⟩])
 (.seq (.ops [⟨(some 28), none, .mov (.t 8)⟩, ⟨(some 29), none, .mov (.t 9)⟩, ⟨(some 4), none, .mov (.t 28)⟩, ⟨(some 5), none, .mov (.t 29)⟩])
 .ret))))⟩
/-- (*sync/atomic.Int64).Store -/
def v35 : VFun := ⟨2, [], (.ops [⟨(some 4), none, .mov (.t 0)⟩, ⟨(some 5), none, .nilck (.t 4)⟩, ⟨(some 6), none, .faddr 0 (.t 5)⟩, ⟨(some 7), none, .mov (.t 1)⟩, ⟨(some 8), none, .atom 2 (.t 6) (.t 7)⟩])⟩
/-- math/bits.Mul32 -/
def v37 : VFun := ⟨2, [(.tmp 4), (.tmp 5)], (.seq (.ops [⟨(some 4), none, .mov (.c (.int .u32 0))⟩, ⟨(some 5), none, .mov (.c (.int .u32 0))⟩])
 (.seq (.ops [⟨(some 7), none, .mov (.t 0)⟩, ⟨(some 8), none, .conv (.int .u64) (.t 7)⟩, ⟨(some 9), none, .mov (.t 1)⟩, ⟨(some 10), none, .conv (.int .u64) (.t 9)⟩, ⟨(some 11), none, .bin .mul (.t 8) (.t 10)⟩, ⟨(some 6), none, .mov (.t 11)⟩])
 (.seq (.ops [⟨(some 12), none, .mov (.t 6)⟩, ⟨(some 13), none, .bin .shr (.t 12) (.c (.int .u64 32))⟩, ⟨(some 14), none, .conv (.int .u32) (.t 13)⟩, ⟨(some 15), none, .mov (.t 6)⟩, ⟨(some 16), none, .conv (.int .u32) (.t 15)⟩, ⟨(some 4), none, .mov (.t 14)⟩, ⟨(some 5), none, .mov (.t 16)⟩])
 .ret)))⟩
/-- math/bits.Mul64 -/
def v38 : VFun := ⟨2, [(.tmp 4), (.tmp 5)], (.seq (.ops [⟨(some 4), none, .mov (.c (.int .u64 0))⟩, ⟨(some 5), none, .mov (.c (.int .u64 0))⟩])
 (.seq (.ops [⟨(some 14), none, .mov (.t 0)⟩, ⟨(some 15), none, .bin .and (.t 14) (.c (.int .u64 4294967295))⟩, ⟨(some 6), none, .mov (.t 15)⟩])
 (.seq (.ops [⟨(some 16), none, .mov (.t 0)⟩, ⟨(some 17), none, .bin .shr (.t 16) (.c (.int .u64 32))⟩, ⟨(some 7), none, .mov (.t 17)⟩])
 (.seq (.ops [⟨(some 18), none, .mov (.t 1)⟩, ⟨(some 19), none, .bin .and (.t 18) (.c (.int .u64 4294967295))⟩, ⟨(some 8), none, .mov (.t 19)⟩])
 (.seq (.ops [⟨(some 20), none, .mov (.t 1)⟩, ⟨(some 21), none, .bin .shr (.t 20) (.c (.int .u64 32))⟩, ⟨(some 9), none, .mov (.t 21)⟩])
 (.seq (.ops [⟨(some 22), none, .mov (.t 6)⟩, ⟨(some 23), none, .mov (.t 8)⟩, ⟨(some 24), none, .bin .mul (.t 22) (.t 23)⟩, ⟨(some 10), none, .mov (.t 24)⟩])
 (.seq (.ops [⟨(some 25), none, .mov (.t 7)⟩, ⟨(some 26), none, .mov (.t 8)⟩, ⟨(some 27), none, .bin .mul (.t 25) (.t 26)⟩, ⟨(some 28), none, .mov (.t 10)⟩, ⟨(some 29), none, .bin .shr (.t 28) (.c (.int .u64 32))⟩, ⟨(some 30), none, .bin .add (.t 27) (.t 29)⟩, ⟨(some 11), none, .mov (.t 30)⟩])
 (.seq (.ops [⟨(some 31), none, .mov (.t 11)⟩, ⟨(some 32), none, .bin .and (.t 31) (.c (.int .u64 4294967295))⟩, ⟨(some 12), none, .mov (.t 32)⟩])
 (.seq (.ops [⟨(some 33), none, .mov (.t 11)⟩, ⟨(some 34), none, .bin .shr (.t 33) (.c (.int .u64 32))⟩, ⟨(some 13), none, .mov (.t 34)⟩])
 (.seq (.ops [⟨(some 35), none, .mov (.t 12)⟩, ⟨(some 36), none, .mov (.t 6)⟩, ⟨(some 37), none, .mov (.t 9)⟩, ⟨(some 38), none, .bin .mul (.t 36) (.t 37)⟩, ⟨(some 39), none, .bin .add (.t 35) (.t 38)⟩, ⟨(some 12), none, .mov (.t 39)⟩])
 (.seq (.ops [⟨(some 40), none, .mov (.t 7)⟩, ⟨(some 41), none, .mov (.t 9)⟩, ⟨(some 42), none, .bin .mul (.t 40) (.t 41)⟩, ⟨(some 43), none, .mov (.t 13)⟩, ⟨(some 44), none, .bin .add (.t 42) (.t 43)⟩, ⟨(some 45), none, .mov (.t 12)⟩, ⟨(some 46), none, .bin .shr (.t 45) (.c (.int .u64 32))⟩, ⟨(some 47), none, .bin .add (.t 44) (.t 46)⟩, ⟨(some 4), none, .mov (.t 47)⟩])
 (.seq (.ops [⟨(some 48), none, .mov (.t 0)⟩, ⟨(some 49), none, .mov (.t 1)⟩, ⟨(some 50), none, .bin .mul (.t 48) (.t 49)⟩, ⟨(some 5), none, .mov (.t 50)⟩])
 .ret))))))))))))⟩
def tab : Nat → Option VFun := tableOf [(4, v4), (7, v7), (8, v8), (9, v9), (10, v10), (11, v11), (12, v12), (13, v13), (14, v14), (15, v15), (16, v16), (17, v17), (18, v18), (19, v19), (20, v20), (21, v21), (22, v22), (23, v23), (24, v24), (25, v25), (28, v28), (29, v29), (30, v30), (35, v35), (37, v37), (38, v38)]
end Go.Proofs.Ytlemediphmnffaa.VM
namespace Go.Proofs.Ytlemediphmnffaa.VM
attribute [local irreducible] Af Nx EvO Ev Un Gd Cd EvR EvQ EvC Nc Gc Lp EvM NxM AfM GdM EvMR EvMQ EvMD EvMC Nm Gm
/-- numbers, rising -/
def rsort (zs : List Int) : List Int := zs.mergeSort fun x y => decide (x ≤ y)
theorem rsort_up {zs : List Int} (h : zs.Pairwise (· < ·)) : rsort zs = zs :=
  List.mergeSort_of_pairwise (h.imp fun h => by simp; omega)
/-- what the walk asks of maps.Keys and slices.Sorted -/
structure SrtK (P : Program) (fk fs fy ty : Nat) : Prop where
  keys : ∀ {H : Heap} {mb : Nat}, OK P fk [.map mb] H (.fn fy [.ptr H.next 0]) (H.mk' H.next (.kf mb))
  srt : ∀ {H : Heap} {cb mb ver : Nat} {es : List (AV × AV)} {ks : List Int}, H.get cb = some (.kf mb) → H.get mb = some (.map es ver) → es.map (·.1) = ks.map (AV.int .i64) → ks.Nodup → (∀ k ∈ ks, -9223372036854775808 ≤ k ∧ k ≤ 9223372036854775807) → es.length ≤ 1000000 →
    (es.length = 0 → OK P fs [.fn fy [.ptr cb 0]] H .nils H) ∧ (0 < es.length → OK P fs [.fn fy [.ptr cb 0]] H (.sl H.next 0 es.length es.length 1) (H.mk' H.next (.cells ((rsort ks).map (.int .i64)) ty 0)))
def keysOf : List (AV × AV) → Option (List Int)
  | [] => some []
  | (.int .i64 k, _) :: l => (keysOf l).map (k :: ·)
  | _ => none
theorem keysOf_spec : ∀ {es : List (AV × AV)} {ks : List Int}, keysOf es = some ks → es.map (·.1) = ks.map (AV.int .i64)
  | [], _, h => by cases h; rfl
  | (.int .i64 k, v) :: l, ks, h => by
    simp only [keysOf, Option.map_eq_some_iff] at h
    obtain ⟨r, hr, rfl⟩ := h
    rw [List.map_cons, List.map_cons, keysOf_spec hr]
def upB : List Int → Bool
  | [] => true
  | [x] => decide (-9223372036854775808 ≤ x) && decide (x ≤ 9223372036854775807)
  | x :: y :: l => decide (-9223372036854775808 ≤ x) && decide (x ≤ 9223372036854775807) && decide (x < y) && upB (y :: l)
theorem upB_spec : ∀ {l : List Int}, upB l = true → l.Pairwise (· < ·) ∧ ∀ k ∈ l, -9223372036854775808 ≤ k ∧ k ≤ 9223372036854775807
  | [], _ => ⟨.nil, fun k h => by simp at h⟩
  | [x], h => by simp [upB] at h; exact ⟨by simp, fun k hk => by simp at hk; subst hk; exact h⟩
  | x :: y :: l, h => by
    simp only [upB, Bool.and_eq_true, decide_eq_true_eq] at h
    obtain ⟨h1, h2⟩ := upB_spec h.2
    refine ⟨List.pairwise_cons.2 ⟨fun z hz => ?_, h1⟩, fun k hk => ?_⟩
    · rcases List.mem_cons.1 hz with rfl | hz
      · exact h.1.2
      · have := (List.pairwise_cons.1 h1).1 z hz
        have := h.1.2
        omega
    · rcases List.mem_cons.1 hk with rfl | hk
      · exact h.1.1
      · exact h2 k hk
/-- these two, told -/
def xKeys (fk fs fy ty : Nat) : Told := fun f args h =>
  bif Nat.beq f fk then (match args with
    | [.map mb] => some (.fn fy [.ptr h.next 0], h.mk' h.next (.kf mb))
    | _ => none)
  else bif Nat.beq f fs then (match args with
    | [.fn g [.ptr cb 0]] => bif Nat.beq g fy then (match h.get cb with
      | some (.kf mb) => (match h.get mb with
        | some (.map es _) => (match keysOf es with
          | some ks => bif upB ks && Nat.ble es.length 1000000 then (bif Nat.beq es.length 0 then some (.nils, h) else some (.sl h.next 0 es.length es.length 1, h.mk' h.next (.cells (ks.map (.int .i64)) ty 0))) else none
          | none => none)
        | _ => none)
      | _ => none) else none
    | _ => none)
  else none
theorem xKeys_ok {P : Program} {fk fs fy ty : Nat} (K : SrtK P fk fs fy ty) : CallOk P (xKeys fk fs fy ty) := by
  intro f args h v h' e
  unfold xKeys at e
  rw [T.beq_dec, T.beq_dec] at e
  by_cases hf : f = fk
  · rw [decide_eq_true hf, cond_true] at e
    subst hf
    split at e
    · cases e; exact K.keys
    · cases e
  · rw [decide_eq_false hf, cond_false] at e
    by_cases hs : f = fs
    · rw [decide_eq_true hs, cond_true] at e
      subst hs
      split at e
      · rename_i g cb
        rw [T.beq_dec] at e
        by_cases hg : g = fy
        · rw [decide_eq_true hg, cond_true] at e
          subst hg
          split at e
          · rename_i mb h1
            split at e
            · rename_i es ver h2
              split at e
              · rename_i ks h3
                cases hc : (upB ks && Nat.ble es.length 1000000) with
                | false => rw [hc, cond_false] at e; cases e
                | true =>
                  rw [hc, cond_true, T.beq_dec] at e
                  rw [Bool.and_eq_true, Nat.ble_eq] at hc
                  obtain ⟨u1, u2⟩ := upB_spec hc.1
                  obtain ⟨k1, k2⟩ := K.srt h1 h2 (keysOf_spec h3) (u1.imp fun h => by omega) u2 hc.2
                  by_cases h0 : es.length = 0
                  · rw [decide_eq_true h0, cond_true] at e
                    cases e
                    exact k1 h0
                  · rw [decide_eq_false h0, cond_false] at e
                    cases e
                    have := k2 (by omega)
                    rwa [rsort_up u1] at this
              · cases e
            · cases e
          · cases e
        · rw [decide_eq_false hg, cond_false] at e; cases e
      · cases e
    · rw [decide_eq_false hs, cond_false] at e; cases e
section
variable {P : Program} {F : Nat → Option VFun}
theorem Pg.runX (g : Pg P F) {X : Told} (hX : CallOk P X) {n f : Nat} {args : List AV} {w : AV} (hv : (vcall F X n f args ⟨0, .e⟩).bind (fun r => fz false r.2 40 r.1) = some w) : Pu P f args (fun v => v = w) := by
  obtain ⟨⟨v, h'⟩, e1, e2⟩ := Option.bind_eq_some_iff.1 hv
  exact ⟨_, _, h', (vm_ok (drawn_ok g.hm) g.tb hX n).2.2 f args _ _ _ e1, fz_ok _ _ _ e2, rfl⟩
theorem awake8_pu (g : Pg P tab) (K : SrtK P 27 26 34 3) : Pu P 7 [] (fun v => v = .bool true) := g.runX (xKeys_ok K) (n := 2000) (by kernel_rfl)
end
end Go.Proofs.Ytlemediphmnffaa.VM
namespace Go.Proofs.Ytlemediphmnffaa.VM
attribute [local irreducible] Af Nx EvO Ev Un Gd Cd EvR EvQ EvC Nc Gc Lp EvM NxM AfM GdM EvMR EvMQ EvMD EvMC Nm Gm
abbrev Sec := List Nat
/-- sectors that are not synced, as they came -/
abbrev Frs := List (Nat × Sec)
def cSec (l : List Sec) : List AV := l.map AV.str
def cFr (l : Frs) : List (AV × AV) := l.map fun p => (AV.int .i64 (p.1 : Int), AV.str p.2)
def lk : Frs → Nat → Option Sec
  | [], _ => none
  | p :: l, k => if p.1 = k then some p.2 else lk l k
def upd1 : Frs → Nat → Sec → Frs
  | [], k, s => [(k, s)]
  | p :: l, k, s => if p.1 = k then (k, s) :: l else p :: upd1 l k s
theorem findE_fr (k : Nat) : ∀ l : Frs, findE .int (.int .i64 (k : Int)) (cFr l) = some ((lk l k).map AV.str)
  | [] => rfl
  | p :: l => by
    show (match sameK .int (.int .i64 (k : Int)) (.int .i64 (p.1 : Int)) with | some true => some (some (AV.str p.2)) | some false => findE .int (.int .i64 (k : Int)) (cFr l) | none => none) = _
    simp only [sameK, if_true]
    by_cases e : p.1 = k
    · simp [lk, e]
    · have : ¬ (k : Int) = (p.1 : Int) := by omega
      simp [lk, e, this, findE_fr k l]
theorem updE_fr (k : Nat) (s : Sec) : ∀ l : Frs, updE .int (.int .i64 (k : Int)) (.str s) (cFr l) = cFr (upd1 l k s)
  | [] => rfl
  | p :: l => by
    show (match sameK .int (.int .i64 (k : Int)) (.int .i64 (p.1 : Int)) with | some true => (AV.int .i64 (k : Int), AV.str s) :: cFr l | _ => (AV.int .i64 (p.1 : Int), AV.str p.2) :: updE .int (.int .i64 (k : Int)) (.str s) (cFr l)) = _
    simp only [sameK, if_true]
    by_cases e : p.1 = k
    · simp [upd1, e, cFr]
    · have : ¬ (k : Int) = (p.1 : Int) := by omega
      simp only [decide_eq_false this]
      rw [updE_fr k s l]
      simp [upd1, e, cFr]
theorem lk_upd1 (k : Nat) (s : Sec) (j : Nat) : ∀ l : Frs, lk (upd1 l k s) j = if j = k then some s else lk l j
  | [] => by simp only [upd1, lk]; by_cases e : j = k <;> simp [e]; exact fun h => absurd h.symm e
  | p :: l => by
    unfold upd1
    by_cases e : p.1 = k
    · rw [if_pos e]
      simp only [lk]
      by_cases e2 : j = k
      · rw [if_pos e2.symm, if_pos e2]
      · rw [if_neg (fun h => e2 h.symm), if_neg e2, if_neg (fun h => e2 (by omega))]
    · rw [if_neg e]
      simp only [lk]
      by_cases e2 : p.1 = j
      · rw [if_pos e2, if_neg (by omega)]
        rw [if_pos e2]
      · rw [if_neg e2, lk_upd1 k s j l, if_neg e2]
theorem lk_none {k : Nat} : ∀ {l : Frs}, lk l k = none ↔ ∀ p ∈ l, p.1 ≠ k
  | [] => by simp [lk]
  | p :: l => by
    simp only [lk]
    by_cases e : p.1 = k
    · simp [e]
    · simp [e, lk_none (k := k) (l := l)]
/-- no sector twice, all of them there -/
def FrOk (n : Nat) (l : Frs) : Prop := (l.map (·.1)).Nodup ∧ ∀ p ∈ l, p.1 < n
theorem frOk_nil (n : Nat) : FrOk n [] := ⟨List.nodup_nil, fun p h => by simp at h⟩
theorem upd1_keys (k : Nat) (s : Sec) : ∀ l : Frs, (upd1 l k s).map (·.1) = if lk l k = none then l.map (·.1) ++ [k] else l.map (·.1)
  | [] => rfl
  | p :: l => by
    simp only [upd1, lk]
    by_cases e : p.1 = k
    · simp [e]
    · simp only [e, if_false, List.map_cons, upd1_keys k s l]
      by_cases h : lk l k = none <;> simp [h]
theorem upd1_len (k : Nat) (s : Sec) (l : Frs) : (upd1 l k s).length = l.length + (if lk l k = none then 1 else 0) := by
  have := congrArg List.length (upd1_keys k s l)
  simp only [List.length_map] at this
  rw [this]
  split <;> simp
theorem FrOk.upd {n : Nat} {l : Frs} (h : FrOk n l) {k : Nat} (hk : k < n) (s : Sec) : FrOk n (upd1 l k s) := by
  have key := upd1_keys k s l
  refine ⟨?_, fun p hp => ?_⟩
  · rw [key]
    split
    · rename_i hn
      rw [List.nodup_append]
      refine ⟨h.1, by simp, fun a ha b hb e => ?_⟩
      simp at hb
      obtain ⟨p, hp, e2⟩ := List.mem_map.1 ha
      exact lk_none.1 hn p hp (by omega)
    · exact h.1
  · have : p.1 ∈ (upd1 l k s).map (·.1) := List.mem_map.2 ⟨p, hp, rfl⟩
    rw [key] at this
    have base : ∀ x, x ∈ l.map (·.1) → x < n := fun x hx => by
      obtain ⟨q, hq, e⟩ := List.mem_map.1 hx
      have := h.2 q hq
      omega
    split at this
    · rcases List.mem_append.1 this with c | c
      · exact base _ c
      · simp at c; omega
    · exact base _ this
theorem upd1_ln {k : Nat} {s : Sec} : ∀ {l : Frs}, (∀ p ∈ l, p.2.length = 64) → s.length = 64 → ∀ p ∈ upd1 l k s, p.2.length = 64
  | [], _, hs, p, hp => by simp [upd1] at hp; rw [hp]; exact hs
  | q :: l, h, hs, p, hp => by
    simp only [upd1] at hp
    split at hp
    · rcases List.mem_cons.1 hp with rfl | hp
      · exact hs
      · exact h p (.tail _ hp)
    · rcases List.mem_cons.1 hp with rfl | hp
      · exact h _ (.head _)
      · exact upd1_ln (fun p hp => h p (.tail _ hp)) hs p hp
theorem lk_mem {k : Nat} {x : Sec} : ∀ {l : Frs}, lk l k = some x → (k, x) ∈ l
  | [], h => by cases h
  | p :: l, h => by
    simp only [lk] at h
    split at h
    · rename_i e; cases h; rw [← e]; exact .head _
    · exact .tail _ (lk_mem h)
/-- some blocks may turn -/
def KB (L : List Nat) (h h' : Heap) : Prop := h.next ≤ h'.next ∧ ∀ b, b < h.next → b ∉ L → h'.get b = h.get b
theorem KB.refl (L : List Nat) (h : Heap) : KB L h h := ⟨Nat.le_refl _, fun _ _ _ => rfl⟩
theorem KB.trans {L : List Nat} {a b c : Heap} (x : KB L a b) (y : KB L b c) : KB L a c := ⟨Nat.le_trans x.1 y.1, fun n hn hl => (y.2 n (Nat.lt_of_lt_of_le hn x.1) hl).trans (x.2 n hn hl)⟩
theorem Ext.kb {L : List Nat} {h h' : Heap} (x : Ext h h') : KB L h h' := ⟨x.1, fun b hb _ => x.2 b hb⟩
theorem KB.put {L : List Nat} {h : Heap} {b : Nat} (hb : b ∈ L) (o : Blk) : KB L h (h.put b o) := ⟨Nat.le_refl _, fun c _ hc => by rw [Heap.get_put, if_neg (fun e => hc (by rw [e]; exact hb))]⟩
/-- a disk -/
structure Dk (h : Heap) (db sb mb : Nat) (sy : List Sec) (fr : Frs) : Prop where
  d : ∃ e v, h.get db = some (.cells [.sl sb 0 sy.length sy.length 1, .map mb, .int .i64 (fr.length : Int)] e v)
  s : ∃ e v, h.get sb = some (.cells (cSec sy) e v)
  m : ∃ v, h.get mb = some (.map (cFr fr) v)
  ne : db ≠ sb ∧ db ≠ mb ∧ sb ≠ mb
  lt : db < h.next ∧ sb < h.next ∧ mb < h.next
  ok : FrOk sy.length fr
  sm : sy.length ≤ 1024
  ln : (∀ s ∈ sy, s.length = 64) ∧ ∀ p ∈ fr, p.2.length = 64
theorem Dk.frame {h h' : Heap} {db sb mb : Nat} {sy : List Sec} {fr : Frs} (D : Dk h db sb mb sy fr) {L : List Nat} (k : KB L h h') (n1 : db ∉ L) (n2 : sb ∉ L) (n3 : mb ∉ L) : Dk h' db sb mb sy fr := by
  obtain ⟨⟨e1, v1, d⟩, ⟨e2, v2, s⟩, ⟨v3, m⟩, ne, lt, ok, sm, ln⟩ := D
  have := k.1
  exact ⟨⟨e1, v1, (k.2 _ lt.1 n1).trans d⟩, ⟨e2, v2, (k.2 _ lt.2.1 n2).trans s⟩, ⟨v3, (k.2 _ lt.2.2 n3).trans m⟩, ne, ⟨by omega, by omega, by omega⟩, ok, sm, ln⟩
theorem Dk.frLen {h : Heap} {db sb mb : Nat} {sy : List Sec} {fr : Frs} (D : Dk h db sb mb sy fr) : fr.length ≤ 1024 := by
  have h1 : (fr.map (·.1)).length ≤ (List.range sy.length).length := by
    refine List.Nodup.length_le_of_subset ?_ ?_
    · exact D.ok.1
    · intro x hx
      obtain ⟨p, hp, rfl⟩ := List.mem_map.1 hx
      exact List.mem_range.2 (D.ok.2 p hp)
  have := D.sm
  simp at h1
  omega
/-- what a sector holds -/
def now (sy : List Sec) (fr : Frs) (k : Nat) : Sec := (lk fr k).getD (sy.getD k [])
theorem vop_atom {s : T AV} {h : Heap} {nm k : Nat} {a x : Opd} : vop ⟨s, h⟩ nm (.atom k a x) = atomV h k (ev s a) (ev s x) := by
  simp only [vop, eval_eq]
section
variable {h : Heap} {db : Nat} {a b : AV} {n d : Int} {e : TypeId} {v : Nat}
theorem at_ld {x : AV} (hg : h.get db = some (.cells [a, b, .int .i64 n] e v)) : atomV h 1 (.ptr db 2) x = .val (.int .i64 n) h := by
  simp [atomV, hg, part, cut]
theorem at_add (ha : a.one = true) (hb : b.one = true) (hg : h.get db = some (.cells [a, b, .int .i64 n] e v)) : atomV h 0 (.ptr db 2) (.int .i64 d) = .val (.int .i64 (IntKind.i64.wrap (n + d))) (h.put db (.cells [a, b, .int .i64 (IntKind.i64.wrap (n + d))] e (v + 1))) := by
  simp [atomV, hg, part, cut, writeAt, lsets, AV.one, List.all_cons, ha, hb]
  rfl
theorem at_st (ha : a.one = true) (hb : b.one = true) (hg : h.get db = some (.cells [a, b, .int .i64 n] e v)) : atomV h 2 (.ptr db 2) (.int .i64 d) = .val (.tup []) (h.put db (.cells [a, b, .int .i64 d] e (v + 1))) := by
  simp [atomV, hg, part, cut, writeAt, lsets, AV.one, List.all_cons, ha, hb]
  rfl
end
section
variable {P : Program}
theorem num_pu (g : Pg P tab) (n : Int) : Pu P 13 [.int .i64 n] (fun v => v = .int .i64 n) := by
  refine g.pu (vf := v13) rfl rfl ?_
  simp +contextual (maxSteps := 2000000) (disch := omega) only [v13, RX, VOp.fresh, bxC, bsC, un, most, callsOf, seval, Int.reducePow, ↓reduceIte, Nat.reduceEqDiff, reduceCtorEq]
theorem dirty_cl (g : Pg P tab) {h : Heap} {db sb mb : Nat} {sy : List Sec} {fr : Frs} (D : Dk h db sb mb sy fr) {Q : AV → Heap → Prop} (q : Q (.int .i64 fr.length) h) : Cl P 20 [.ptr db 0] h Q := by
  obtain ⟨e1, v1, d⟩ := D.d
  refine g.cl (vf := v20) rfl rfl ?_
  simp only [v20, eqv_p0, RX, VOp.fresh, bxC, bsC, un, most, callsOf, seval, Int.reducePow, ↓reduceIte, Nat.reduceEqDiff, reduceCtorEq]
  refine g.cl (vf := v29) rfl rfl ?_
  simp only [v29, vop_atom, at_ld d, RX, VOp.fresh, bxC, bsC, un, most, callsOf, seval, Int.reducePow, ↓reduceIte, Nat.reduceEqDiff, reduceCtorEq]
  exact q
theorem sectors_cl (g : Pg P tab) {h : Heap} {db sb mb : Nat} {sy : List Sec} {fr : Frs} (D : Dk h db sb mb sy fr) {Q : AV → Heap → Prop} (q : Q (.int .i64 sy.length) h) : Cl P 22 [.ptr db 0] h Q := by
  obtain ⟨e1, v1, d⟩ := D.d
  refine g.cl (vf := v22) rfl rfl ?_
  simp only [v22, eqv_p0, d, RX, VOp.fresh, bxC, bsC, un, most, callsOf, seval, Int.reducePow, ↓reduceIte, Nat.reduceEqDiff, reduceCtorEq]
  exact q
theorem cSec_part (sy : List Sec) {k : Nat} (hk : k < sy.length) : part false (cSec sy) k 1 = some (.str (sy.getD k [])) := by
  have : (cSec sy).drop k = .str (sy.getD k []) :: (cSec sy).drop (k + 1) := by
    rw [List.drop_eq_getElem_cons (by simpa [cSec] using hk)]
    congr 1
    simp [cSec, List.getD_eq_getElem?_getD, List.getElem?_eq_getElem hk]
  simp [part, cut, this]
/-- what Read tells -/
def rdV (sy : List Sec) (fr : Frs) (k : Int) : AV := if 0 ≤ k ∧ k < (sy.length : Int) then .tup [.str (now sy fr k.toNat), .int .i64 0] else .tup [.str [], .int .i64 800]
theorem read_cl (g : Pg P tab) {h : Heap} {db sb mb : Nat} {sy : List Sec} {fr : Frs} (D : Dk h db sb mb sy fr) (k : Int) {Q : AV → Heap → Prop} (q : Q (rdV sy fr k) h) : Cl P 9 [.ptr db 0, .int .i64 k] h Q := by
  obtain ⟨e1, v1, d⟩ := D.d
  obtain ⟨e2, v2, s⟩ := D.s
  obtain ⟨v3, m⟩ := D.m
  refine g.cl (vf := v9) rfl rfl ?_
  unfold rdV at q
  by_cases c1 : k < 0
  · rw [if_neg (by omega)] at q
    simp only [v9, eqv_p0, c1, d, RX, VOp.fresh, bxC, bsC, un, most, callsOf, seval, Int.reducePow, ↓reduceIte, Nat.reduceEqDiff, reduceCtorEq]
    exact q
  · by_cases c2 : (sy.length : Int) ≤ k
    · rw [if_neg (by omega)] at q
      simp only [v9, eqv_p0, c1, c2, d, RX, VOp.fresh, bxC, bsC, un, most, callsOf, seval, Int.reducePow, ↓reduceIte, Nat.reduceEqDiff, reduceCtorEq]
      exact q
    · rw [if_pos ⟨by omega, by omega⟩] at q
      obtain ⟨n, rfl⟩ := Int.eq_ofNat_of_zero_le (show 0 ≤ k by omega)
      have hn : n < sy.length := by omega
      rw [Int.toNat_natCast] at q
      unfold now at q
      cases hk : lk fr n with
      | none =>
        rw [hk] at q
        have hl : lkB .int (.str []) true h (.int .i64 (n : Int)) (some (.map (cFr fr) v3)) = .val (.tup [.str [], .bool false]) h := by simp only [lkB, findE_fr, hk]; rfl
        have hp := cSec_part sy hn
        have hia : ∀ kk hh, iaV hh 1 none (.sl sb 0 sy.length sy.length 1) (.int kk (n : Int)) = .val (.ptr sb n) hh := fun kk hh => by
          have : 0 ≤ (n : Int) ∧ (n : Int) < (sy.length : Int) ∧ 1 = 1 := ⟨by omega, by omega, rfl⟩
          simp [iaV, this]
        simp only [v9, eqv_p0, c1, c2, d, m, hl, hia, s, hp, RX, VOp.fresh, bxC, bsC, un, most, callsOf, seval, Int.reducePow, ↓reduceIte, Nat.reduceEqDiff, reduceCtorEq]
        exact q
      | some x =>
        rw [hk] at q
        have hl : lkB .int (.str []) true h (.int .i64 (n : Int)) (some (.map (cFr fr) v3)) = .val (.tup [.str x, .bool true]) h := by simp only [lkB, findE_fr, hk]; rfl
        simp only [v9, eqv_p0, c1, c2, d, m, hl, RX, VOp.fresh, bxC, bsC, un, most, callsOf, seval, Int.reducePow, ↓reduceIte, Nat.reduceEqDiff, reduceCtorEq]
        exact q
/-- may a sector be written? -/
def wrOk (n : Nat) (k : Int) (s : Sec) : Prop := 0 ≤ k ∧ k < (n : Int) ∧ s.length = 64
theorem write_cl (g : Pg P tab) {h : Heap} {db sb mb : Nat} {sy : List Sec} {fr : Frs} (D : Dk h db sb mb sy fr) (k : Int) (x : Sec) {Q : AV → Heap → Prop} (qN : ¬ wrOk sy.length k x → Q (.int .i64 800) h) (qY : wrOk sy.length k x → ∀ h', KB [db, mb] h h' → Dk h' db sb mb sy (upd1 fr k.toNat x) → Q (.int .i64 0) h') : Cl P 10 [.ptr db 0, .int .i64 k, .str x] h Q := by
  obtain ⟨e1, v1, d⟩ := D.d
  obtain ⟨v3, m⟩ := D.m
  have hfl := D.frLen
  refine g.cl (vf := v10) rfl rfl ?_
  by_cases c1 : k < 0
  · simp only [v10, eqv_p0, c1, d, RX, VOp.fresh, bxC, bsC, un, most, callsOf, seval, Int.reducePow, ↓reduceIte, Nat.reduceEqDiff, reduceCtorEq]
    exact qN fun c => by have := c.1; omega
  · by_cases c2 : (sy.length : Int) ≤ k
    · simp only [v10, eqv_p0, c1, c2, d, RX, VOp.fresh, bxC, bsC, un, most, callsOf, seval, Int.reducePow, ↓reduceIte, Nat.reduceEqDiff, reduceCtorEq]
      exact qN fun c => by have := c.2.1; omega
    · by_cases c3 : (x.length : Int) = 64
      · obtain ⟨n, rfl⟩ := Int.eq_ofNat_of_zero_le (show 0 ≤ k by omega)
        have hn : n < sy.length := by omega
        have ok : wrOk sy.length (n : Int) x := ⟨by omega, by omega, by omega⟩
        have qY := qY ok
        rw [Int.toNat_natCast] at qY
        have fo := D.ok.upd hn x
        have hul := upd1_len n x fr
        have hmu : ∀ hh : Heap, muB .int hh mb (.int .i64 (n : Int)) (.str x) (some (.map (cFr fr) v3)) = .val .undef (hh.put mb (.map (cFr (upd1 fr n x)) (v3 + 1))) := fun hh => by simp only [muB, findE_fr, updE_fr]
        cases hk : lk fr n with
        | none =>
          have hl : lkB .int (.str []) true h (.int .i64 (n : Int)) (some (.map (cFr fr) v3)) = .val (.tup [.str [], .bool false]) h := by simp only [lkB, findE_fr, hk]; rfl
          rw [hk, if_pos rfl] at hul
          have w1 : IntKind.i64.wrap ((fr.length : Int) + 1) = ((upd1 fr n x).length : Int) := by rw [hul, w64 (by omega) (by omega)]; push_cast; rfl
          simp only [v10, eqv_p0, c1, c2, c3, d, m, hl, RX, VOp.fresh, bxC, bsC, un, most, callsOf, seval, Int.reducePow, ↓reduceIte, Nat.reduceEqDiff, reduceCtorEq]
          refine g.cl (vf := v25) rfl rfl ?_
          simp only [v25, vop_atom, at_add (a := .sl sb 0 sy.length sy.length 1) (b := .map mb) rfl rfl d, w1, RX, VOp.fresh, bxC, bsC, un, most, callsOf, seval, Int.reducePow, ↓reduceIte, Nat.reduceEqDiff, reduceCtorEq]
          have hmd : ¬ mb = db := fun e => D.ne.2.1 e.symm
          simp only [hmd, m, hmu, RX, VOp.fresh, bxC, bsC, un, most, callsOf, seval, Int.reducePow, ↓reduceIte, Nat.reduceEqDiff, reduceCtorEq]
          refine qY _ ((KB.put (by simp) _).trans (KB.put (by simp) _)) ⟨⟨e1, v1 + 1, ?_⟩, ?_, ⟨v3 + 1, by rw [Heap.get_put, if_pos rfl]⟩, D.ne, D.lt, fo, D.sm, D.ln.1, upd1_ln D.ln.2 ok.2.2⟩
          · rw [Heap.get_put, if_neg D.ne.2.1, Heap.get_put, if_pos rfl]
          · obtain ⟨e2, v2, s⟩ := D.s
            exact ⟨e2, v2, by rw [Heap.get_put, if_neg D.ne.2.2, Heap.get_put, if_neg (fun e => D.ne.1 e.symm)]; exact s⟩
        | some y =>
          have hl : lkB .int (.str []) true h (.int .i64 (n : Int)) (some (.map (cFr fr) v3)) = .val (.tup [.str y, .bool true]) h := by simp only [lkB, findE_fr, hk]; rfl
          rw [hk, if_neg (by simp)] at hul
          simp only [v10, eqv_p0, c1, c2, c3, d, m, hl, hmu, RX, VOp.fresh, bxC, bsC, un, most, callsOf, seval, Int.reducePow, ↓reduceIte, Nat.reduceEqDiff, reduceCtorEq]
          refine qY _ (KB.put (by simp) _) ⟨⟨e1, v1, ?_⟩, ?_, ⟨v3 + 1, by rw [Heap.get_put, if_pos rfl]⟩, D.ne, D.lt, fo, D.sm, D.ln.1, upd1_ln D.ln.2 ok.2.2⟩
          · rw [Heap.get_put, if_neg D.ne.2.1, d, hul]; rfl
          · obtain ⟨e2, v2, s⟩ := D.s
            exact ⟨e2, v2, by rw [Heap.get_put, if_neg D.ne.2.2]; exact s⟩
      · simp only [v10, eqv_p0, c1, c2, c3, d, RX, VOp.fresh, bxC, bsC, un, most, callsOf, seval, Int.reducePow, ↓reduceIte, Nat.reduceEqDiff, reduceCtorEq]
        exact qN fun c => by have := c.2.2; omega
theorem clean_cl (g : Pg P tab) {h : Heap} {db mb : Nat} {a : AV} (ha : a.one = true) {n : Int} {e v v3 : Nat} {es : List (AV × AV)} (d : h.get db = some (.cells [a, .map mb, .int .i64 n] e v)) (m : h.get mb = some (.map es v3)) (hne : db ≠ mb) {Q : AV → Heap → Prop}
    (q : Q (.tup []) ((h.put mb (.map [] (v3 + 1))).put db (.cells [a, .map mb, .int .i64 0] e (v + 1)))) : Cl P 28 [.ptr db 0] h Q := by
  have hclr : ∀ {nm : Nat} {s : T AV} {x : Opd}, ev s x = .map mb → vop ⟨s, h⟩ nm (.bi .clear [x]) = .val (.tup []) (h.put mb (.map [] (v3 + 1))) := fun {nm s x} he => by simp only [vop, List.map, eval_eq, he, m]
  refine g.cl (vf := v28) rfl rfl ?_
  simp only [v28, d, RX, VOp.fresh, bxC, bsC, un, most, callsOf, seval, Int.reducePow, ↓reduceIte, Nat.reduceEqDiff, reduceCtorEq]
  rw [hclr rfl]
  simp only [d, hne, RX, VOp.fresh, bxC, bsC, un, most, callsOf, seval, Int.reducePow, ↓reduceIte, Nat.reduceEqDiff, reduceCtorEq]
  refine g.cl (vf := v35) rfl rfl ?_
  have d' : (h.put mb (.map [] (v3 + 1))).get db = some (.cells [a, .map mb, .int .i64 n] e v) := by rw [Heap.get_put, if_neg hne]; exact d
  simp only [v35, vop_atom, at_st (b := .map mb) ha rfl d', RX, VOp.fresh, bxC, bsC, un, most, callsOf, seval, Int.reducePow, ↓reduceIte, Nat.reduceEqDiff, reduceCtorEq]
  exact q
end
end Go.Proofs.Ytlemediphmnffaa.VM
namespace Go.Proofs.Ytlemediphmnffaa.VM
attribute [local irreducible] Af Nx EvO Ev Un Gd Cd EvR EvQ EvC Nc Gc Lp EvM NxM AfM GdM EvMR EvMQ EvMD EvMC Nm Gm
/-- the sectors that are not synced, rising -/
def ksN (n : Nat) (fr : Frs) : List Nat := (List.range n).filter fun k => (lk fr k).isSome
theorem mem_ksN {n : Nat} {fr : Frs} (ok : FrOk n fr) {k : Nat} : k ∈ ksN n fr ↔ k ∈ fr.map (·.1) := by
  unfold ksN
  rw [List.mem_filter, List.mem_range]
  constructor
  · rintro ⟨_, h⟩
    obtain ⟨x, hx⟩ := Option.isSome_iff_exists.1 h
    exact List.mem_map.2 ⟨_, lk_mem hx, rfl⟩
  · intro h
    obtain ⟨p, hp, rfl⟩ := List.mem_map.1 h
    refine ⟨ok.2 p hp, ?_⟩
    cases e : lk fr p.1 with
    | none => exact absurd rfl (lk_none.1 e p hp)
    | some x => rfl
theorem ksN_up (n : Nat) (fr : Frs) : (ksN n fr).Pairwise (· < ·) := List.Pairwise.sublist List.filter_sublist List.pairwise_lt_range
theorem rsort_keys {n : Nat} {fr : Frs} (ok : FrOk n fr) : rsort (fr.map fun p => (p.1 : Int)) = (ksN n fr).map fun k : Nat => (k : Int) := by
  have hp : (fr.map (·.1)).Perm (ksN n fr) := (List.perm_ext_iff_of_nodup ok.1 ((ksN_up n fr).imp fun h => by omega)).2 fun k => (mem_ksN ok).symm
  have h2 := hp.map fun k : Nat => (k : Int)
  rw [List.map_map] at h2
  have h3 : rsort (fr.map fun p => (p.1 : Int)) = rsort ((ksN n fr).map fun k : Nat => (k : Int)) := _root_.Go.mergeSort_of_perm_i h2
  rw [h3, rsort_up]
  rw [List.pairwise_map]
  exact (ksN_up n fr).imp fun h => by omega
/-- does a crash keep the i-th? -/
def keeps (keep : Int) (i : Nat) : Prop := i < 62 ∧ bitsOf .and .i64 (keep.fdiv (2 ^ i)) 1 = 1
instance (keep : Int) (i : Nat) : Decidable (keeps keep i) := by unfold keeps; infer_instance
/-- what a crash leaves of a sector -/
def cval (keep torn : Int) (bytes : Nat) (i : Nat) (a b : Sec) : Sec := if (i : Int) = torn then a.take bytes ++ b.drop bytes else if keeps keep i then a else b
/-- the first so many of them -/
def crs (fr : Frs) (keep torn : Int) (bytes : Nat) (ks : List Nat) (sy : List Sec) : Nat → List Sec
  | 0 => sy
  | i + 1 => (crs fr keep torn bytes ks sy i).set (ks.getD i 0) (cval keep torn bytes i ((lk fr (ks.getD i 0)).getD []) ((crs fr keep torn bytes ks sy i).getD (ks.getD i 0) []))
theorem crs_len (fr : Frs) (keep torn : Int) (bytes : Nat) (ks : List Nat) (sy : List Sec) : ∀ i, (crs fr keep torn bytes ks sy i).length = sy.length
  | 0 => rfl
  | i + 1 => by rw [crs, List.length_set, crs_len]
theorem shr_bin (keep : Int) (i : Nat) (hi : i < 62) : bin .shr (.int .i64 keep) (.int .i64 (i : Int)) = some (.int .i64 (keep.fdiv (2 ^ i))) := by
  have h1 : ¬ (i : Int) < 0 := by omega
  have h2 : min (Int.toNat (i : Int)) IntKind.i64.bits = i := by rw [Int.toNat_natCast]; show min i 64 = i; omega
  simp only [bin, h1, if_false, h2]
section
variable {P : Program}
theorem crash_loop (g : Pg P tab) {db sb mb : Nat} {fr : Frs} {sy0 : List Sec} {keep torn : Int} {bytes : Nat} (hby : bytes ≤ 64) {kb e v : Nat} {ks : List Nat} (hks : ∀ k ∈ ks, k < sy0.length ∧ (lk fr k).isSome = true) (hl : ks.length ≤ 1024) {cb e5 v5 : Nat} {h0 : Heap} (hkb : kb ≠ sb) (hcb : cb ≠ sb) (n : Nat) :
    ∀ (i : Nat) (s : T AV) (h : Heap) (k : List Fr) (Q : Ex → T AV → Heap → Prop), i + n = ks.length → KB [sb] h0 h → Dk h db sb mb (crs fr keep torn bytes ks sy0 i) fr → h.get kb = some (.cells (ks.map fun k : Nat => AV.int .i64 (k : Int)) e v) → h.get cb = some (.cells [.int .i64 keep, .int .i64 torn, .int .i64 bytes] e5 v5) →
    sg s 0 = .ptr db 0 → sg s 3 = .ptr cb 0 → sg s 24 = .sl kb 0 ks.length ks.length 1 → sg s 25 = .int .i64 ks.length → sg s 26 = .int .i64 i →
    (∀ s' h', KB [sb] h0 h' → Dk h' db sb mb (crs fr keep torn bytes ks sy0 ks.length) fr → sg s' 0 = .ptr db 0 → Un P k Q (.exit 1) s' h') → Lp P b12_0 s h (Un P k Q) := by
  induction n with
  | zero =>
    intro i s h k Q hn x0 D gk gc t0 t3 t24 t25 t26 hQ
    refine g.lpe b12_0.eq_1 ?_
    obtain rfl : i = ks.length := by omega
    have c1 : ¬ ((ks.length : Int) < (ks.length : Int)) := by omega
    simp only [t25, t26, c1, RX, VOp.fresh, bxC, bsC, un, most, callsOf, seval, Int.reducePow, ↓reduceIte, Nat.reduceEqDiff, reduceCtorEq]
    refine hQ _ _ x0 D ?_
    simp only [t0, sg_set, Nat.reduceEqDiff, ↓reduceIte]
  | succ n ih =>
    intro i s h k Q hn x0 D gk gc t0 t3 t24 t25 t26 hQ
    refine g.lpe b12_0.eq_1 ?_
    have c1 : (i : Int) < (ks.length : Int) := by omega
    have w1 : IntKind.i64.wrap ((i : Int) + 1) = ((i + 1 : Nat) : Int) := by rw [w64 (by omega) (by omega)]; push_cast; rfl
    have hmem : ks.getD i 0 ∈ ks := by
      rw [show ks.getD i 0 = ks[i] by simp [List.getD_eq_getElem?_getD, List.getElem?_eq_getElem (show i < ks.length by omega)]]
      exact List.getElem_mem _
    obtain ⟨hkn, hsome⟩ := hks _ hmem
    obtain ⟨x, hx⟩ := Option.isSome_iff_exists.1 hsome
    have hstep : crs fr keep torn bytes ks sy0 (i + 1) = (crs fr keep torn bytes ks sy0 i).set (ks.getD i 0) (cval keep torn bytes i x ((crs fr keep torn bytes ks sy0 i).getD (ks.getD i 0) [])) := by rw [crs, hx]; rfl
    have hpk : part false (ks.map fun k : Nat => AV.int .i64 (k : Int)) i 1 = some (.int .i64 ((ks.getD i 0 : Nat) : Int)) := by
      have : (ks.map fun k : Nat => AV.int .i64 (k : Int)).drop i = .int .i64 ((ks.getD i 0 : Nat) : Int) :: (ks.map fun k : Nat => AV.int .i64 (k : Int)).drop (i + 1) := by
        rw [List.drop_eq_getElem_cons (by simpa using (show i < ks.length by omega))]
        congr 1
        simp [List.getD_eq_getElem?_getD, List.getElem?_eq_getElem (show i < ks.length by omega)]
      simp [part, cut, this]
    have hia : ∀ kk hh, iaV hh 1 none (.sl kb 0 ks.length ks.length 1) (.int kk (i : Int)) = .val (.ptr kb i) hh := fun kk hh => by
      have : 0 ≤ (i : Int) ∧ (i : Int) < (ks.length : Int) ∧ 1 = 1 := ⟨by omega, by omega, rfl⟩
      simp [iaV, this]
    have hlen := crs_len fr keep torn bytes ks sy0 i
    generalize ks.getD i 0 = kk at *
    generalize hsy : crs fr keep torn bytes ks sy0 i = sy at *
    have hks2 : kk < sy.length := by omega
    obtain ⟨e1, v1, d⟩ := D.d
    obtain ⟨e2, v2, s2⟩ := D.s
    obtain ⟨v3, m⟩ := D.m
    have hps := cSec_part sy hks2
    have hia2 : ∀ kd hh, iaV hh 1 none (.sl sb 0 sy.length sy.length 1) (.int kd (kk : Int)) = .val (.ptr sb kk) hh := fun kd hh => by
      have : 0 ≤ (kk : Int) ∧ (kk : Int) < (sy.length : Int) ∧ 1 = 1 := ⟨by omega, by omega, rfl⟩
      simp [iaV, this]
    have hlk : ∀ hh, lkB .int (.str []) false hh (.int .i64 (kk : Int)) (some (.map (cFr fr) v3)) = .val (.str x) hh := fun hh => by simp only [lkB, findE_fr, hx]; rfl
    have hxl : x.length = 64 := D.ln.2 _ (lk_mem hx)
    have hyl : (sy.getD kk []).length = 64 := by
      rw [show sy.getD kk [] = sy[kk] by simp [List.getD_eq_getElem?_getD, List.getElem?_eq_getElem hks2]]
      exact D.ln.1 _ (List.getElem_mem hks2)
    generalize hy2 : sy.getD kk [] = y at *
    -- what is written
    have put : ∀ (z : Sec), z.length = 64 → sy.set kk z = crs fr keep torn bytes ks sy0 (i + 1) → ∀ s', sg s' 0 = .ptr db 0 → sg s' 3 = .ptr cb 0 → sg s' 24 = .sl kb 0 ks.length ks.length 1 → sg s' 25 = .int .i64 ks.length → sg s' 26 = .int .i64 ((i + 1 : Nat) : Int) → Lp P b12_0 s' (h.put sb (.cells (cSec (sy.set kk z)) e2 (v2 + 1))) (Un P k Q) := by
      intro z hz hcz s' a0 a3 a24 a25 a26
      have D2 : Dk (h.put sb (.cells (cSec (sy.set kk z)) e2 (v2 + 1))) db sb mb (sy.set kk z) fr := by
        refine ⟨⟨e1, v1, ?_⟩, ⟨e2, v2 + 1, by rw [Heap.get_put, if_pos rfl]⟩, ⟨v3, ?_⟩, D.ne, D.lt, by rw [List.length_set]; exact D.ok, by rw [List.length_set]; exact D.sm, fun q hq => ?_, D.ln.2⟩
        · rw [Heap.get_put, if_neg D.ne.1, List.length_set]; exact d
        · rw [Heap.get_put, if_neg (fun e => D.ne.2.2 e.symm)]; exact m
        · rcases List.mem_or_eq_of_mem_set hq with hq | rfl
          · exact D.ln.1 q hq
          · exact hz
      refine ih (i + 1) s' _ k Q (by omega) (x0.trans (KB.put (by simp) _)) (by rw [← hcz]; exact D2) ?_ ?_ a0 a3 a24 a25 a26 hQ
      · rw [Heap.get_put, if_neg hkb]; exact gk
      · rw [Heap.get_put, if_neg hcb]; exact gc
    have stay : sy = crs fr keep torn bytes ks sy0 (i + 1) → ∀ s', sg s' 0 = .ptr db 0 → sg s' 3 = .ptr cb 0 → sg s' 24 = .sl kb 0 ks.length ks.length 1 → sg s' 25 = .int .i64 ks.length → sg s' 26 = .int .i64 ((i + 1 : Nat) : Int) → Lp P b12_0 s' h (Un P k Q) := fun hcz s' a0 a3 a24 a25 a26 => ih (i + 1) s' h k Q (by omega) x0 (by rw [← hcz]; exact D) gk gc a0 a3 a24 a25 a26 hQ
    clear ih
    have hset : ∀ z : Sec, writeAt h sb kk [.str z] = some (h.put sb (.cells (cSec (sy.set kk z)) e2 (v2 + 1))) := fun z => by
      rw [wr_at s2 (j := kk) (x := .str z) (by simpa [cSec] using hks2) rfl]
      simp [cSec, List.map_set]
    have hs1 : sliceS (.str x) none (some (.int .i64 (bytes : Int))) = some (.str (x.take bytes)) := by
      have hn := nat_of (k := .i64) (n := bytes) (y := x.length) (by omega)
      simp [sliceS, bounds, hn]
    have hs3 : sliceS (.str y) (some (.int .i64 (bytes : Int))) none = some (.str (y.drop bytes)) := by
      have hn := nat_of (k := .i64) (n := bytes) (y := y.length) (by omega)
      simp only [sliceS, bounds, Option.isSome_none, Bool.false_eq_true, if_false, hn]
      rw [List.take_of_length_le (by rw [List.length_drop]; omega)]
    have hcat : (x.take bytes).length + (y.drop bytes).length < 140737488355328 := by rw [List.length_take, List.length_drop]; omega
    have hadd : bin .add (.str (x.take bytes)) (.str (y.drop bytes)) = some (.str (x.take bytes ++ y.drop bytes)) := by simp only [bin, binStr, if_pos hcat]
    by_cases c2 : (i : Int) = torn
    · subst c2
      have hcv : cval keep (i : Int) bytes i x y = x.take bytes ++ y.drop bytes := by unfold cval; rw [if_pos rfl]
      rw [hcv] at hstep
      simp only [t0, t3, t24, t25, t26, c1, hia, gk, gc, hpk, d, m, hlk, s2, hps, hia2, hs1, hs3, hset, hadd, w1, RX, VOp.fresh, bxC, bsC, un, most, callsOf, seval, Int.reducePow, ↓reduceIte, Nat.reduceEqDiff, reduceCtorEq]
      refine put _ (by rw [List.length_append, List.length_take, List.length_drop]; omega) hstep.symm _ ?_ ?_ ?_ ?_ ?_
      · simp only [t0, sg_set, Nat.reduceEqDiff, ↓reduceIte]
      · simp only [t3, sg_set, Nat.reduceEqDiff, ↓reduceIte]
      · simp only [t24, sg_set, Nat.reduceEqDiff, ↓reduceIte]
      · simp only [t25, sg_set, Nat.reduceEqDiff, ↓reduceIte]
      · simp only [sg_set, Nat.reduceEqDiff, ↓reduceIte]
    · by_cases c3 : keeps keep i
      · have hcv : cval keep torn bytes i x y = x := by unfold cval; rw [if_neg c2, if_pos c3]
        rw [hcv] at hstep
        have c4 : (i : Int) < 62 := by have := c3.1; omega
        have hsh := shr_bin keep i c3.1
        have hb := c3.2
        simp only [t0, t3, t24, t25, t26, c1, c2, c4, hia, gk, gc, hpk, d, m, hlk, s2, hps, hia2, hset, hsh, hb, w1, RX, VOp.fresh, bxC, bsC, un, most, callsOf, seval, Int.reducePow, ↓reduceIte, Nat.reduceEqDiff, reduceCtorEq]
        refine put _ hxl hstep.symm _ ?_ ?_ ?_ ?_ ?_
        · simp only [t0, sg_set, Nat.reduceEqDiff, ↓reduceIte]
        · simp only [t3, sg_set, Nat.reduceEqDiff, ↓reduceIte]
        · simp only [t24, sg_set, Nat.reduceEqDiff, ↓reduceIte]
        · simp only [t25, sg_set, Nat.reduceEqDiff, ↓reduceIte]
        · simp only [sg_set, Nat.reduceEqDiff, ↓reduceIte]
      · have hcv : cval keep torn bytes i x y = y := by unfold cval; rw [if_neg c2, if_neg c3]
        rw [hcv] at hstep
        have hsame : sy = crs fr keep torn bytes ks sy0 (i + 1) := by
          have hy3 : y = sy[kk] := by rw [← hy2]; simp [List.getD_eq_getElem?_getD, List.getElem?_eq_getElem hks2]
          rw [hstep, hy3, List.set_getElem_self]
        by_cases c4 : (i : Int) < 62
        · have hsh := shr_bin keep i (by omega)
          have hb : ¬ bitsOf .and .i64 (keep.fdiv (2 ^ i)) 1 = 1 := fun e => c3 ⟨by omega, e⟩
          simp only [t0, t3, t24, t25, t26, c1, c2, c4, hia, gk, gc, hpk, d, m, hlk, s2, hps, hia2, hsh, hb, w1, RX, VOp.fresh, bxC, bsC, un, most, callsOf, seval, Int.reducePow, ↓reduceIte, Nat.reduceEqDiff, reduceCtorEq]
          refine stay hsame _ ?_ ?_ ?_ ?_ ?_
          · simp only [t0, sg_set, Nat.reduceEqDiff, ↓reduceIte]
          · simp only [t3, sg_set, Nat.reduceEqDiff, ↓reduceIte]
          · simp only [t24, sg_set, Nat.reduceEqDiff, ↓reduceIte]
          · simp only [t25, sg_set, Nat.reduceEqDiff, ↓reduceIte]
          · simp only [sg_set, Nat.reduceEqDiff, ↓reduceIte]
        · simp only [t0, t3, t24, t25, t26, c1, c2, c4, hia, gk, gc, hpk, d, m, hlk, s2, hps, hia2, w1, RX, VOp.fresh, bxC, bsC, un, most, callsOf, seval, Int.reducePow, ↓reduceIte, Nat.reduceEqDiff, reduceCtorEq]
          refine stay hsame _ ?_ ?_ ?_ ?_ ?_
          · simp only [t0, sg_set, Nat.reduceEqDiff, ↓reduceIte]
          · simp only [t3, sg_set, Nat.reduceEqDiff, ↓reduceIte]
          · simp only [t24, sg_set, Nat.reduceEqDiff, ↓reduceIte]
          · simp only [t25, sg_set, Nat.reduceEqDiff, ↓reduceIte]
          · simp only [sg_set, Nat.reduceEqDiff, ↓reduceIte]
theorem Dk.cleaned {h : Heap} {db sb mb : Nat} {sy : List Sec} {fr : Frs} (D : Dk h db sb mb sy fr) {e v v3 : Nat} : Dk ((h.put mb (.map [] (v3 + 1))).put db (.cells [.sl sb 0 sy.length sy.length 1, .map mb, .int .i64 0] e (v + 1))) db sb mb sy [] := by
  obtain ⟨e2, v2, s⟩ := D.s
  refine ⟨⟨e, v + 1, by rw [Heap.get_put, if_pos rfl]; rfl⟩, ⟨e2, v2, ?_⟩, ⟨v3 + 1, ?_⟩, D.ne, D.lt, frOk_nil _, D.sm, D.ln.1, fun p hp => by simp at hp⟩
  · rw [Heap.get_put, if_neg (fun e => D.ne.1 e.symm), Heap.get_put, if_neg D.ne.2.2]; exact s
  · rw [Heap.get_put, if_neg (fun e => D.ne.2.1 e.symm), Heap.get_put, if_pos rfl]; rfl
/-- what a crash leaves -/
def crashed (sy : List Sec) (fr : Frs) (keep torn : Int) (bytes : Nat) : List Sec := crs fr keep torn bytes (ksN sy.length fr) sy (ksN sy.length fr).length
theorem crash_cl (g : Pg P tab) (K : SrtK P 27 26 34 3) {h : Heap} {db sb mb : Nat} {sy : List Sec} {fr : Frs} (D : Dk h db sb mb sy fr) (keep torn bytes : Int) {Q : AV → Heap → Prop} (qN : ¬ (0 ≤ bytes ∧ bytes ≤ 64) → ∀ h', Ext h h' → Q (.int .i64 800) h')
    (qY : 0 ≤ bytes ∧ bytes ≤ 64 → ∀ h', KB [db, sb, mb] h h' → Dk h' db sb mb (crashed sy fr keep torn bytes.toNat) [] → Q (.int .i64 0) h') : Cl P 12 [.ptr db 0, .agg [.int .i64 keep, .int .i64 torn, .int .i64 bytes]] h Q := by
  refine g.cl (vf := v12) rfl rfl ?_
  have y1 := Ext.mk (h := h) (.cells [.int .i64 keep, .int .i64 torn, .int .i64 bytes] 34 0)
  have gc : (h.mk' h.next (.cells [.int .i64 keep, .int .i64 torn, .int .i64 bytes] 34 0)).get h.next = some (.cells [.int .i64 keep, .int .i64 torn, .int .i64 bytes] 34 0) := by rw [Heap.get_mk, if_pos rfl]
  have n1 : (h.mk' h.next (.cells [.int .i64 keep, .int .i64 torn, .int .i64 bytes] 34 0)).next = h.next + 1 := by rw [mk_next]; omega
  obtain ⟨e1, v1, d⟩ := D.d
  obtain ⟨v3, m⟩ := D.m
  generalize hh1 : h.mk' h.next (.cells [.int .i64 keep, .int .i64 torn, .int .i64 bytes] 34 0) = h1 at *
  by_cases c1 : bytes < 0
  · simp only [v12, eqv_p0, HN, hh1, gc, c1, RX, VOp.fresh, bxC, bsC, un, most, callsOf, seval, Int.reducePow, ↓reduceIte, Nat.reduceEqDiff, reduceCtorEq]
    exact qN (by omega) _ y1
  · by_cases c2 : 64 < bytes
    · simp only [v12, eqv_p0, HN, hh1, gc, c1, c2, RX, VOp.fresh, bxC, bsC, un, most, callsOf, seval, Int.reducePow, ↓reduceIte, Nat.reduceEqDiff, reduceCtorEq]
      exact qN (by omega) _ y1
    · have qY := qY (by omega)
      obtain ⟨by', rfl⟩ := Int.eq_ofNat_of_zero_le (show 0 ≤ bytes by omega)
      rw [Int.toNat_natCast] at qY
      have D1 : Dk h1 db sb mb sy fr := D.frame (y1.kb (L := [])) (by simp) (by simp) (by simp)
      obtain ⟨e1, v1, d⟩ := D1.d
      obtain ⟨v3, m⟩ := D1.m
      simp only [v12, eqv_p0, HN, hh1, gc, c1, c2, d, RX, VOp.fresh, bxC, bsC, un, most, callsOf, seval, Int.reducePow, ↓reduceIte, Nat.reduceEqDiff, reduceCtorEq]
      refine K.keys.cl ?_
      have y2 := Ext.mk (h := h1) (.kf mb)
      have gk : (h1.mk' h1.next (.kf mb)).get h1.next = some (.kf mb) := by rw [Heap.get_mk, if_pos rfl]
      have n2 : (h1.mk' h1.next (.kf mb)).next = h1.next + 1 := by rw [mk_next]; omega
      generalize hh2 : h1.mk' h1.next (.kf mb) = h2 at *
      have D2 : Dk h2 db sb mb sy fr := D1.frame (y2.kb (L := [])) (by simp) (by simp) (by simp)
      obtain ⟨v4, m2⟩ := D2.m
      have hcl : (cFr fr).length = fr.length := by simp [cFr]
      have hfl := D.frLen
      obtain ⟨k1, k2⟩ := K.srt (ks := fr.map fun p => (p.1 : Int)) gk m2 (by simp [cFr]) (List.pairwise_map.2 ((List.pairwise_map.1 D.ok.1).imp fun h => by omega)) (fun k hk => by
        obtain ⟨p, hp, rfl⟩ := List.mem_map.1 hk
        have := D.ok.2 p hp
        have := D.sm
        omega) (by omega)
      have kl : (ksN sy.length fr).length = fr.length := by
        have := congrArg List.length (rsort_keys D.ok)
        rw [rsort, List.length_mergeSort, List.length_map, List.length_map] at this
        exact this.symm
      have hks : ∀ k ∈ ksN sy.length fr, k < sy.length ∧ (lk fr k).isSome = true := fun k hk => by
        unfold ksN at hk
        rw [List.mem_filter, List.mem_range] at hk
        exact hk
      simp only [RX, VOp.fresh, bxC, bsC, un, most, callsOf, seval, Int.reducePow, ↓reduceIte, Nat.reduceEqDiff, reduceCtorEq]
      by_cases c3 : fr.length = 0
      · refine (k1 (by omega)).cl ?_
        simp only [RX, VOp.fresh, bxC, bsC, un, most, callsOf, seval, Int.reducePow, ↓reduceIte, Nat.reduceEqDiff, reduceCtorEq]
        refine g.lpe b12_0.eq_1 ?_
        simp only [RX, VOp.fresh, bxC, bsC, un, most, callsOf, seval, Int.reducePow, ↓reduceIte, Nat.reduceEqDiff, reduceCtorEq]
        obtain ⟨e6, v6, d6⟩ := D2.d
        refine clean_cl g rfl d6 m2 D2.ne.2.1 ?_
        simp only [RX, VOp.fresh, bxC, bsC, un, most, callsOf, seval, Int.reducePow, ↓reduceIte, Nat.reduceEqDiff, reduceCtorEq]
        refine qY _ (((y1.trans y2).kb).trans ((KB.put (by simp) _).trans (KB.put (by simp) _))) ?_
        have hk0 : (ksN sy.length fr).length = 0 := by omega
        unfold crashed
        rw [hk0]
        exact D2.cleaned
      · refine (k2 (by omega)).cl ?_
        have y3 := Ext.mk (h := h2) (.cells ((rsort (fr.map fun p => (p.1 : Int))).map (AV.int .i64)) 3 0)
        have gs : (h2.mk' h2.next (.cells ((rsort (fr.map fun p => (p.1 : Int))).map (AV.int .i64)) 3 0)).get h2.next = some (.cells ((rsort (fr.map fun p => (p.1 : Int))).map (AV.int .i64)) 3 0) := by rw [Heap.get_mk, if_pos rfl]
        generalize h2.mk' h2.next (.cells ((rsort (fr.map fun p => (p.1 : Int))).map (AV.int .i64)) 3 0) = h3 at *
        rw [rsort_keys D.ok, List.map_map] at gs
        have D3 : Dk h3 db sb mb sy fr := D2.frame (y3.kb (L := [])) (by simp) (by simp) (by simp)
        have gc3 : h3.get h.next = some (.cells [.int .i64 keep, .int .i64 torn, .int .i64 by'] 34 0) := by
          have q1 := y2.1
          rw [y3.2 _ (by omega), y2.2 _ (by omega)]; exact gc
        have x13 := y1.1
        have x23 := y2.1
        have hlt := D.lt
        rw [hcl, ← kl]
        simp only [RX, VOp.fresh, bxC, bsC, un, most, callsOf, seval, Int.reducePow, ↓reduceIte, Nat.reduceEqDiff, reduceCtorEq]
        refine crash_loop g (keep := keep) (torn := torn) (bytes := by') (sy0 := sy) (fr := fr) (ks := ksN sy.length fr) (by omega) (kb := h2.next) (cb := h.next) hks (by omega) (h0 := h3) (by omega) (by omega) (ksN sy.length fr).length 0 _ h3 _ _ (by omega) (KB.refl _ _) D3 gs gc3 ?_ ?_ ?_ ?_ ?_ fun s4 h4 x4 D4 t0 => ?_
        · simp only [sg_set, Nat.reduceEqDiff, ↓reduceIte]
        · simp only [sg_set, Nat.reduceEqDiff, ↓reduceIte]
        · simp only [sg_set, Nat.reduceEqDiff, ↓reduceIte]
        · simp only [sg_set, Nat.reduceEqDiff, ↓reduceIte]
        · simp only [sg_set, Nat.reduceEqDiff, ↓reduceIte]
          rfl
        simp only [t0, RX, VOp.fresh, bxC, bsC, un, most, callsOf, seval, Int.reducePow, ↓reduceIte, Nat.reduceEqDiff, reduceCtorEq]
        obtain ⟨e6, v6, d6⟩ := D4.d
        obtain ⟨v7, m7⟩ := D4.m
        refine clean_cl g rfl d6 m7 D4.ne.2.1 ?_
        simp only [RX, VOp.fresh, bxC, bsC, un, most, callsOf, seval, Int.reducePow, ↓reduceIte, Nat.reduceEqDiff, reduceCtorEq]
        have x5 : KB [db, sb, mb] h3 h4 := ⟨x4.1, fun b hb hl => x4.2 b hb (fun c => hl (by simp at c; simp [c]))⟩
        exact qY _ ((((y1.trans y2).trans y3).kb).trans (x5.trans ((KB.put (by simp) _).trans (KB.put (by simp) _)))) D4.cleaned
end
end Go.Proofs.Ytlemediphmnffaa.VM
namespace Go.Proofs.Ytlemediphmnffaa.VM
attribute [local irreducible] Af Nx EvO Ev Un Gd Cd EvR EvQ EvC Nc Gc Lp EvM NxM AfM GdM EvMR EvMQ EvMD EvMC Nm Gm
theorem LetS.of {s' F : T AV} (l : List Nat) (hF : ∀ t ∈ l, sg F t = .undef) (hb : ∀ t ∈ l, ∀ b, sg s' t ≠ .bool b) (hs : ∀ t, t ∉ l → sg F t = sg s' t) : LetS s' F := fun t => by
  by_cases h : t ∈ l
  · exact .inr ⟨hF t h, hb t h⟩
  · exact .inl (hs t h)
/-- slots let go -/
def clrs (s : T AV) : List Nat → T AV
  | [] => s
  | t :: l => (clrs s l).set t .undef
theorem sg_clrs (s : T AV) (j : Nat) : ∀ l : List Nat, sg (clrs s l) j = if j ∈ l then .undef else sg s j
  | [] => by simp [clrs]
  | t :: l => by
    rw [clrs, sg_set, sg_clrs s j l]
    by_cases e : j = t
    · simp [e]
    · simp [e]
/-- what a sector holds when these were written -/
def wrs (sy : List Sec) (fr : Frs) (p : List Nat) : List Sec := (List.range sy.length).map fun k => match p.find? (fun i => decide ((fr.getD i (0, [])).1 = k)) with
  | some i => (fr.getD i (0, [])).2
  | none => sy.getD k []
def allNow (sy : List Sec) (fr : Frs) : List Sec := (List.range sy.length).map fun k => now sy fr k
theorem wrs_len (sy : List Sec) (fr : Frs) (p : List Nat) : (wrs sy fr p).length = sy.length := by simp [wrs]
theorem wrs_nil (sy : List Sec) (fr : Frs) : wrs sy fr [] = sy := by
  apply List.ext_getElem
  · simp [wrs]
  · intro i h1 h2
    simp [wrs, List.getD_eq_getElem?_getD, List.getElem?_eq_getElem h2]
theorem fr_key {n : Nat} {fr : Frs} (ok : FrOk n fr) {i j : Nat} (hi : i < fr.length) (hj : j < fr.length) (e : (fr.getD i (0, [])).1 = (fr.getD j (0, [])).1) : i = j := by
  have e1 : ∀ i (h : i < fr.length), fr.getD i (0, []) = fr[i] := fun i h => by simp [List.getD_eq_getElem?_getD, List.getElem?_eq_getElem h]
  rw [e1 i hi, e1 j hj] at e
  have pw := List.pairwise_iff_getElem.1 ok.1
  rcases Nat.lt_trichotomy i j with c | c | c
  · exact absurd (by rw [List.getElem_map, List.getElem_map]; exact e) (pw i j (by simpa using hi) (by simpa using hj) c)
  · exact c
  · exact absurd (by rw [List.getElem_map, List.getElem_map]; exact e.symm) (pw j i (by simpa using hj) (by simpa using hi) c)
theorem wrs_step {sy : List Sec} {fr : Frs} (ok : FrOk sy.length fr) {p : List Nat} (hp : ∀ j ∈ p, j < fr.length) {i : Nat} (hi : i < fr.length) (hip : i ∉ p) : wrs sy fr (p ++ [i]) = (wrs sy fr p).set (fr.getD i (0, [])).1 (fr.getD i (0, [])).2 := by
  apply List.ext_getElem
  · simp [wrs]
  · intro k h1 h2
    rw [List.getElem_set]
    simp only [wrs, List.getElem_map, List.getElem_range, List.find?_append]
    by_cases e : (fr.getD i (0, [])).1 = k
    · rw [if_pos e]
      have : p.find? (fun i => decide ((fr.getD i (0, [])).1 = k)) = none := by
        rw [List.find?_eq_none]
        intro j hj hc
        have := fr_key ok (hp j hj) hi (by rw [e]; simpa using hc)
        exact hip (this ▸ hj)
      have h3 : [i].find? (fun i => decide ((fr.getD i (0, [])).1 = k)) = some i := by rw [List.find?_cons_of_pos (by simpa using e)]
      rw [this, h3]
      rfl
    · rw [if_neg e]
      have h3 : [i].find? (fun i => decide ((fr.getD i (0, [])).1 = k)) = none := by rw [List.find?_cons_of_neg (by simpa using e), List.find?_nil]
      rw [h3, Option.or_none]
theorem lk_find {n : Nat} {fr : Frs} (ok : FrOk n fr) {p : List Nat} (hp : p.Perm (List.range fr.length)) (k : Nat) (sk : Sec) : (match p.find? (fun i => decide ((fr.getD i (0, [])).1 = k)) with
  | some i => (fr.getD i (0, [])).2
  | none => sk) = (lk fr k).getD sk := by
  have key : ∀ (l : Frs) (i : Nat), i < l.length → (l.map (·.1)).Nodup → (l.getD i (0, [])).1 = k → lk l k = some (l.getD i (0, [])).2 := by
    intro l
    induction l with
    | nil => intro i hi; simp at hi
    | cons q l ih =>
      intro i hi nd e
      cases i with
      | zero => simp at e; simp [lk, e]
      | succ i =>
        simp at e hi
        have hq : q.1 ≠ k := fun c => by
          have := (List.nodup_cons.1 nd).1
          refine this (List.mem_map.2 ⟨l[i]'(by omega), List.getElem_mem _, ?_⟩)
          have e9 : (l[i]'(by omega)).1 = k := by simpa [List.getElem?_eq_getElem (show i < l.length by omega)] using e
          exact e9.trans c.symm
        have := ih i (by omega) (List.nodup_cons.1 nd).2 (by simpa using e)
        simp only [lk, hq, if_false, this]
        simp
  cases hf : p.find? (fun i => decide ((fr.getD i (0, [])).1 = k)) with
  | some i =>
    have h1 := List.mem_of_find?_eq_some hf
    have h2 := List.find?_some hf
    rw [key fr i (List.mem_range.1 (hp.mem_iff.1 h1)) ok.1 (by simpa using h2)]
    rfl
  | none =>
    have : lk fr k = none := lk_none.2 fun q hq c => by
      obtain ⟨i, hi, rfl⟩ := List.getElem_of_mem hq
      have := List.find?_eq_none.1 hf i (hp.mem_iff.2 (List.mem_range.2 hi))
      simp [List.getD_eq_getElem?_getD, List.getElem?_eq_getElem hi, c] at this
    rw [this]; rfl
theorem wrs_all {sy : List Sec} {fr : Frs} (ok : FrOk sy.length fr) {p : List Nat} (hp : p.Perm (List.range fr.length)) : wrs sy fr p = allNow sy fr := by
  unfold wrs allNow
  refine List.map_congr_left fun k _ => ?_
  exact lk_find ok hp k _
theorem now_ln {sy : List Sec} {fr : Frs} (ln : (∀ s ∈ sy, s.length = 64) ∧ ∀ p ∈ fr, p.2.length = 64) {k : Nat} (hk : k < sy.length) : (now sy fr k).length = 64 := by
  unfold now
  cases h : lk fr k with
  | none =>
    rw [Option.getD_none, show sy.getD k [] = sy[k] by simp [List.getD_eq_getElem?_getD, List.getElem?_eq_getElem hk]]
    exact ln.1 _ (List.getElem_mem hk)
  | some x => exact ln.2 _ (lk_mem h)
section
variable {P : Program}
def syncL : List Nat := [3, 4, 12, 14, 15, 16, 17, 18, 19, 20, 21, 22, 23]
theorem sync_cl (g : Pg P tab) {h : Heap} {db sb mb : Nat} {sy : List Sec} {fr : Frs} (D : Dk h db sb mb sy fr) {Q : AV → Heap → Prop} (q : ∀ h', KB [db, sb, mb] h h' → Dk h' db sb mb (allNow sy fr) [] → Q (.int .i64 0) h') : Cl P 17 [.ptr db 0] h Q := by
  obtain ⟨e1, v1, d⟩ := D.d
  obtain ⟨e2, v2, s⟩ := D.s
  obtain ⟨v3, m⟩ := D.m
  refine g.cl (vf := v17) rfl rfl ?_
  simp only [v17, eqv_p0, ev_rangeM, d, RX, VOp.fresh, bxC, bsC, un, most, callsOf, seval, Int.reducePow, ↓reduceIte, Nat.reduceEqDiff, reduceCtorEq]
  generalize hst : (T.set _ _ _) = st
  have t0 : sg st 0 = .ptr db 0 := by rw [← hst]; simp only [sg_set, Nat.reduceEqDiff, ↓reduceIte]
  have t10 : sg st 10 = .map mb := by rw [← hst]; simp only [sg_set, Nat.reduceEqDiff, ↓reduceIte]
  have stU : ∀ t ∈ syncL, sg st t = .undef := fun t ht => by
    simp only [syncL, List.mem_cons, List.not_mem_nil, or_false] at ht
    rw [← hst]
    rcases ht with rfl | rfl | rfl | rfl | rfl | rfl | rfl | rfl | rfl | rfl | rfl | rfl | rfl <;> rfl
  have hmn : ¬ h.next = mb := fun e => by have := D.lt.2.2; omega
  have hmn2 : ¬ mb = h.next := fun e => hmn e.symm
  have hms : ¬ mb = sb := fun e => D.ne.2.2 e.symm
  have hsn : ¬ sb = h.next := fun e => by have := D.lt.2.1; omega
  have hdn : ¬ db = h.next := fun e => by have := D.lt.1; omega
  obtain ⟨H0, hH0⟩ : ∃ H0, H0 = (h.put mb .dead).mk' h.next .dead := ⟨_, rfl⟩
  obtain ⟨S0, hS0⟩ : ∃ S0, S0 = st.set 11 (.ptr h.next 0) := ⟨_, rfl⟩
  obtain ⟨H, hH⟩ : ∃ H : List Nat → Heap, H = fun p => match p with | [] => H0 | p => H0.put sb (.cells (cSec (wrs sy fr p)) e2 (v2 + p.length)) := ⟨_, rfl⟩
  obtain ⟨S, hS⟩ : ∃ S : List Nat → T AV, S = fun p => match p with | [] => S0 | _ => (clrs S0 syncL).set 13 (.bool true) := ⟨_, rfl⟩
  have gH : ∀ p b, (H p).get b = if b = sb then some (.cells (cSec (wrs sy fr p)) e2 (v2 + p.length)) else if b = h.next then some .dead else if b = mb then some .dead else h.get b := by
    intro p b
    rw [hH]
    cases p with
    | nil =>
      simp only [hH0, Heap.get_mk, Heap.get_put, wrs_nil]
      by_cases c : b = sb
      · rw [if_pos c, if_neg (by rw [c]; exact hsn), if_neg (by rw [c]; exact D.ne.2.2), c, s]; rfl
      · rw [if_neg c]
    | cons x p => simp only [hH0, Heap.get_put, Heap.get_mk]
  have nH : ∀ p, (H p).next = h.next + 1 := fun p => by
    rw [hH]
    cases p with
    | nil => simp only [hH0, mk_next, put_next]; omega
    | cons x p => simp only [hH0, put_next, mk_next]; omega
  have sS : ∀ p t, t ∉ syncL → t ≠ 13 → sg (S p) t = sg S0 t := by
    intro p t h1 h2
    rw [hS]
    cases p with
    | nil => rfl
    | cons x p => simp only [sg_set, sg_clrs, if_neg h2, if_neg h1]
  have RR : Rounds P (cFr fr) 11 12 13 14 1 0 [⟨some 15, none, .extract (.t 14) 0⟩, ⟨some 16, none, .extract (.t 14) 1⟩, ⟨some 3, none, .mov (.t 15)⟩, ⟨some 4, none, .mov (.t 16)⟩] b17_0 mb h.next S H (fun _ => False) .ret S0 H0 ((clrs S0 syncL).set 13 (.bool false)) (H0.put sb (.cells (cSec (allNow sy fr)) e2 (v2 + fr.length))) := by
    have hmb : ∀ p, (H p).get mb = some .dead := fun p => by rw [gH, if_neg (fun e => D.ne.2.2 e.symm)]; simp
    have s11 : ∀ p, sg (S p) 11 = .ptr h.next 0 := fun p => by rw [sS p 11 (by decide) (by decide), hS0, sg_set, if_pos rfl]
    refine ⟨s11, hmb, fun p => by rw [gH, if_neg (fun e => hsn e.symm)]; simp, fun p i hi nd pl hip => ?_, .inl rfl, ?_, ?_, fun p hp _ => ⟨?_, ?_⟩⟩
    · have hif : i < fr.length := by simpa [cFr] using hi
      have he : (cFr fr)[i] = (.int .i64 ((fr.getD i (0, [])).1 : Int), .str (fr.getD i (0, [])).2) := by
        simp [cFr, List.getD_eq_getElem?_getD, List.getElem?_eq_getElem hif]
      rw [he]
      have hkn := D.ok.2 (fr.getD i (0, [])) (by rw [show fr.getD i (0, []) = fr[i] by simp [List.getD_eq_getElem?_getD, List.getElem?_eq_getElem hif]]; exact List.getElem_mem hif)
      have hst := wrs_step D.ok (fun j hj => by have := (pl j hj).1; simpa [cFr] using this) hif hip
      generalize fr.getD i (0, []) = kv at *
      obtain ⟨k, x⟩ := kv
      simp only at hkn hst ⊢
      have g0 : sg (S p) 0 = .ptr db 0 := by rw [sS p 0 (by decide) (by decide), hS0, sg_set, if_neg (by decide)]; exact t0
      have gd : (H p).get db = some (.cells [.sl sb 0 sy.length sy.length 1, .map mb, .int .i64 (fr.length : Int)] e1 v1) := by rw [gH, if_neg D.ne.1, if_neg hdn, if_neg D.ne.2.1]; exact d
      have gs : (H p).get sb = some (.cells (cSec (wrs sy fr p)) e2 (v2 + p.length)) := by rw [gH, if_pos rfl]
      have hw := wr_at gs (j := k) (x := .str x) (by simpa [cSec, wrs_len] using hkn) rfl
      have hia : ∀ kk hh, iaV hh 1 none (.sl sb 0 sy.length sy.length 1) (.int kk (k : Int)) = .val (.ptr sb k) hh := fun kk hh => by
        have : 0 ≤ (k : Int) ∧ (k : Int) < (sy.length : Int) ∧ 1 = 1 := ⟨by omega, by omega, rfl⟩
        simp [iaV, this]
      simp only [b17_0, g0, gd, hia, hw, RX, VOp.fresh, bxC, bsC, un, most, callsOf, seval, Int.reducePow, ↓reduceIte, Nat.reduceEqDiff, reduceCtorEq]
      have hSn : S (p ++ [i]) = (clrs S0 syncL).set 13 (.bool true) := by rw [hS]; cases p <;> rfl
      refine .inl ⟨.inl trivial, ?_, ⟨by rw [nH, put_next, nH]; exact Nat.le_refl _, fun b => .inl ?_⟩⟩
      · rw [hSn]
        refine LetS.of syncL (fun t ht => ?_) (fun t ht b => ?_) fun t ht => ?_
        · have : t ≠ 13 := by rintro rfl; exact absurd ht (by decide)
          rw [sg_set, if_neg this, sg_clrs, if_pos ht]
        · simp only [syncL, List.mem_cons, List.not_mem_nil, or_false] at ht
          rcases ht with rfl | rfl | rfl | rfl | rfl | rfl | rfl | rfl | rfl | rfl | rfl | rfl | rfl <;> (simp only [sg_set, Nat.reduceEqDiff, ↓reduceIte]; intro e; cases e)
        · by_cases c : t = 13
          · subst c
            simp only [sg_set, Nat.reduceEqDiff, ↓reduceIte]
          · have h1 := sS p t ht c
            rw [sg_set, if_neg c, sg_clrs, if_neg ht, ← h1]
            simp only [syncL, List.mem_cons, List.not_mem_nil, or_false, not_or] at ht
            simp only [sg_set, ht, c, if_false]
      · rw [gH, Heap.get_put, hst]
        by_cases c : b = sb
        · rw [if_pos c, if_pos c]
          simp [cSec, List.map_set]
          omega
        · rw [if_neg c, if_neg c, gH, if_neg c]
    · simp only [hH0, Heap.get_mk, if_neg hmn2, Heap.get_put, if_true]
    · simp only [Heap.get_put, if_neg hms, hH0, Heap.get_mk, if_neg hmn2, if_true]
    · refine LetS.of syncL (fun t ht => ?_) (fun t ht b => ?_) fun t ht => ?_
      · have : t ≠ 13 := by rintro rfl; exact absurd ht (by decide)
        rw [sg_set, if_neg this, sg_clrs, if_pos ht]
      · have h3 : sg (S p) t = .undef := by
          rw [hS]
          have n13 : t ≠ 13 := by rintro rfl; exact absurd ht (by decide)
          have n11 : t ≠ 11 := by rintro rfl; exact absurd ht (by decide)
          cases p with
          | nil => simp only [hS0, sg_set, if_neg n11]; exact stU t ht
          | cons x p => simp only [sg_set, if_neg n13, sg_clrs, if_pos ht]
        have n13 : t ≠ 13 := by rintro rfl; exact absurd ht (by decide)
        rw [sg_set, if_neg n13, sg_set]
        by_cases c : t = 12
        · rw [if_pos c]; intro e; cases e
        · rw [if_neg c, h3]; intro e; cases e
      · by_cases c : t = 13
        · subst c
          simp only [sg_set, Nat.reduceEqDiff, ↓reduceIte]
        · have h1 := sS p t ht c
          rw [sg_set, if_neg c, sg_clrs, if_neg ht, ← h1]
          simp only [syncL, List.mem_cons, List.not_mem_nil, or_false, not_or] at ht
          simp only [sg_set, ht, c, if_false]
    · refine ⟨by rw [nH, put_next, hH0, mk_next, put_next]; omega, fun b => .inl ?_⟩
      rw [gH, Heap.get_put, wrs_all D.ok (by simpa [cFr] using hp), hp.length_eq]
      simp only [hH0, Heap.get_mk, Heap.get_put, List.length_range, cFr, List.length_map]
  refine Rounds.go g.hm RR (by decide) (by simp only [ev, t10]) m (by rw [hS, ← hS0]) (by rw [hH, ← hH0]) (fun _ => ?_) fun ⟨i, _, hf⟩ => hf.elim
  have f0 : sg ((clrs S0 syncL).set 13 (.bool false)) 0 = .ptr db 0 := by rw [sg_set, if_neg (by decide), sg_clrs, if_neg (by decide), hS0, sg_set, if_neg (by decide)]; exact t0
  obtain ⟨h2, hh2⟩ : ∃ h2, h2 = (H0.put sb (.cells (cSec (allNow sy fr)) e2 (v2 + fr.length))).put mb (.map (cFr fr) v3) := ⟨_, rfl⟩
  rw [← hh2]
  have d2 : h2.get db = some (.cells [.sl sb 0 sy.length sy.length 1, .map mb, .int .i64 (fr.length : Int)] e1 v1) := by
    rw [hh2, Heap.get_put, if_neg D.ne.2.1, Heap.get_put, if_neg D.ne.1, hH0, Heap.get_mk, if_neg hdn, Heap.get_put, if_neg D.ne.2.1]; exact d
  have m2 : h2.get mb = some (.map (cFr fr) v3) := by rw [hh2, Heap.get_put, if_pos rfl]
  have s2 : h2.get sb = some (.cells (cSec (allNow sy fr)) e2 (v2 + fr.length)) := by rw [hh2, Heap.get_put, if_neg D.ne.2.2, Heap.get_put, if_pos rfl]
  have n2 : h2.next = h.next + 1 := by rw [hh2, put_next, put_next, hH0, mk_next, put_next]; omega
  have k2 : ∀ b, b < h.next → b ≠ sb → b ≠ mb → h2.get b = h.get b := fun b hb c1 c2 => by
    rw [hh2, Heap.get_put, if_neg c2, Heap.get_put, if_neg c1, hH0, Heap.get_mk, if_neg (by omega), Heap.get_put, if_neg c2]
  clear hh2
  simp only [f0, RX, VOp.fresh, bxC, bsC, un, most, callsOf, seval, Int.reducePow, ↓reduceIte, Nat.reduceEqDiff, reduceCtorEq]
  refine clean_cl g rfl d2 m2 D.ne.2.1 ?_
  simp only [RX, VOp.fresh, bxC, bsC, un, most, callsOf, seval, Int.reducePow, ↓reduceIte, Nat.reduceEqDiff, reduceCtorEq]
  refine q _ ⟨by rw [put_next, put_next, n2]; omega, fun b hb hl => ?_⟩ ⟨⟨e1, v1 + 1, ?_⟩, ⟨e2, v2 + fr.length, ?_⟩, ⟨v3 + 1, ?_⟩, D.ne, ?_, frOk_nil _, ?_, fun x hx => ?_, fun p hp => by simp at hp⟩
  · simp only [List.mem_cons, List.not_mem_nil, or_false, not_or] at hl
    rw [Heap.get_put, if_neg hl.1, Heap.get_put, if_neg hl.2.2]
    exact k2 b hb hl.2.1 hl.2.2
  · rw [Heap.get_put, if_pos rfl]; simp [allNow]
  · rw [Heap.get_put, if_neg (fun e => D.ne.1 e.symm), Heap.get_put, if_neg D.ne.2.2]; exact s2
  · rw [Heap.get_put, if_neg (fun e => D.ne.2.1 e.symm), Heap.get_put, if_pos rfl]; rfl
  · rw [put_next, put_next, n2]
    have := D.lt
    omega
  · simp [allNow, D.sm]
  · obtain ⟨k, hk, rfl⟩ := List.mem_map.1 hx
    exact now_ln D.ln (List.mem_range.1 hk)
end
end Go.Proofs.Ytlemediphmnffaa.VM
namespace Go.Proofs.Ytlemediphmnffaa.VM
attribute [local irreducible] Af Nx EvO Ev Un Gd Cd EvR EvQ EvC Nc Gc Lp EvM NxM AfM GdM EvMR EvMQ EvMD EvMC Nm Gm
theorem cvT_sl {h : Heap} {b n : Nat} {cap : Nat} {l : List AV} {e : TypeId} {ver : Nat} (hg : h.get b = some (.cells l e ver)) (hl : l.length = n) : cvT h (.sl b 0 n cap 1) = valO h ((l.mapM AV.byte).map .str) := by
  subst hl
  simp only [cvT, lenV, cellsOf, hg, Nat.le_refl, if_true, cut_eq, List.drop_zero, Nat.mul_one, List.take_length]
theorem mapM_bytes (c : Nat) (hc : c < 256) : ∀ n, (List.replicate n (AV.int .u8 (c : Int))).mapM AV.byte = some (List.replicate n c)
  | 0 => rfl
  | n + 1 => by
    have h1 : AV.byte (.int .u8 (c : Int)) = some c := by
      have : 0 ≤ (c : Int) ∧ (c : Int) < 256 := by omega
      simp [AV.byte, this]
    rw [List.replicate_succ, List.mapM_cons, h1, mapM_bytes c hc n]; rfl
theorem flat_one {α : Type} (x : α) : ∀ n, (List.replicate n [x]).flatten = List.replicate n x
  | 0 => rfl
  | n + 1 => by rw [List.replicate_succ, List.flatten_cons, flat_one x n]; rfl
theorem cvT_rep {h : Heap} {b n c cap : Nat} (hc : c < 256) {e : TypeId} {ver : Nat} (hg : h.get b = some (.cells (List.replicate n (.int .u8 (c : Int))) e ver)) : cvT h (.sl b 0 n cap 1) = .val (.str (List.replicate n c)) h := by
  rw [cvT_sl hg (by simp), mapM_bytes c hc n]; rfl
theorem mkS_one {h : Heap} {nm n : Nat} {x : AV} {e : TypeId} {bytes : Nat} (hb : n * bytes ≤ most) (hn : n ≤ most) : mkS h nm [x] e bytes (.int .i64 (n : Int)) (.int .i64 (n : Int)) = .val (.sl nm 0 n n 1) (h.mk' nm (.cells (List.replicate n x) e 0)) := by
  simp only [mkS]
  rw [if_pos ⟨by omega, by omega, by rw [Int.toNat_natCast]; exact hb, by rw [Int.toNat_natCast]; exact hn⟩, Int.toNat_natCast, flat_one]
  rfl
def zSec : Sec := List.replicate 64 0
/-- one element copied into a row -/
theorem copy_in {h : Heap} {b c n : Nat} {x z : AV} (hx : x.one = true) {e e' v v' : Nat} (hb : h.get b = some (.cells [x] e v)) (hc : h.get c = some (.cells (List.replicate n z) e' v')) (hn : 0 < n) :
    copyV h 1 (.sl c 0 n n 1) (.sl b 0 1 1 1) = some (.int .i64 1, h.put c (.cells (List.replicate 1 x ++ List.replicate (n - 1) z) e' (v' + 1))) := by
  have h0 : min 1 n = 1 := by omega
  have h1 : cellsOf h 1 1 (.sl b 0 1 1 1) = some [x] := cells_of hb rfl 1
  have h2 : writeAt h c 0 [x] = some (h.put c (.cells (List.replicate 1 x ++ List.replicate (n - 1) z) e' (v' + 1))) := by
    rw [writeAt_go, hc, wrB_some, if_pos ⟨by simp; omega, by simp [hx]⟩]
    congr 3
    simp
  simp only [copyV, lenV, h0, h1, h2, List.length_singleton, Nat.mul_one, if_true]
  rfl
theorem and32 {x : Nat} (hx : x < 18446744073709551616) : bitsOf .and .u64 (x : Int) 4294967295 = ((x % 4294967296 : Nat) : Int) := by
  have e1 : ((x : Int) % 2 ^ IntKind.bits .u64).toNat = x := by
    have : (2 : Int) ^ IntKind.bits .u64 = 18446744073709551616 := rfl
    rw [this]; omega
  have e2 : ((4294967295 : Int) % 2 ^ IntKind.bits .u64).toNat = 4294967295 := by decide
  show IntKind.u64.wrap ((Nat.land ((x : Int) % 2 ^ IntKind.bits .u64).toNat ((4294967295 : Int) % 2 ^ IntKind.bits .u64).toNat : Nat) : Int) = _
  rw [e1, e2]
  have h : Nat.land x 4294967295 = x % 4294967296 := Nat.and_two_pow_sub_one_eq_mod x 32
  rw [h]
  exact wu64 (by omega) (by omega)
section
variable {P : Program}
/-- copying in a row of one's own -/
theorem copy_one {h : Heap} {b m k n : Nat} {x z : AV} (hx : x.one = true) {e v : Nat} (hg : h.get b = some (.cells (List.replicate m x ++ List.replicate (n - m) z) e v)) (hm : m ≤ n) (hk : k = min m (n - m)) :
    copyV h 1 (.sl b m (n - m) (n - m) 1) (.sl b 0 m n 1) = some (.int .i64 (k : Int), h.put b (.cells (List.replicate (m + k) x ++ List.replicate (n - (m + k)) z) e (v + 1))) := by
  have h1 : cellsOf h 1 (min m (n - m)) (.sl b 0 m n 1) = some (List.replicate k x) := by
    simp only [cellsOf, hg]
    rw [if_pos (by omega), cut_eq, List.drop_zero, Nat.mul_one, ← hk, List.take_append_of_le_length (by simp; omega), List.take_replicate, show min k m = k by omega]
    simp
  have h2 : writeAt h b m (List.replicate k x) = some (h.put b (.cells (List.replicate (m + k) x ++ List.replicate (n - (m + k)) z) e (v + 1))) := by
    rw [writeAt_go, hg, wrB_some, if_pos ⟨by simp; omega, by simp [List.all_replicate, hx]⟩]
    congr 3
    rw [List.take_append_of_le_length (by simp), List.take_of_length_le (by simp), List.drop_append, List.drop_of_length_le (by simp), List.nil_append, List.drop_replicate, List.length_replicate, List.length_replicate]
    rw [show n - m - (m + k - m) = n - (m + k) by omega, List.replicate_append_replicate]
  simp only [copyV, lenV, h1, List.length_replicate, hk, Nat.mul_one, if_true]
  rw [← hk, h2]
section
theorem repeat_loop (g : Pg P tab) {b n e : Nat} {x z : AV} (hx : x.one = true) (hn : n ≤ 1024) (fu : Nat) :
    ∀ (m v : Nat) (s : T AV) (h : Heap) (k : List Fr) (Q : Ex → T AV → Heap → Prop), 0 < m → m ≤ n → n - m ≤ fu → h.get b = some (.cells (List.replicate m x ++ List.replicate (n - m) z) e v) → sg s 7 = .sl b 0 n n 1 → sg s 8 = .int .i64 m →
    (∀ s' h' v', h'.next = h.next → (∀ c, c ≠ b → h'.get c = h.get c) → h'.get b = some (.cells (List.replicate n x) e v') → sg s' 7 = .sl b 0 n n 1 → Un P k Q (.exit 0) s' h') → Lp P b24_0 s h (Un P k Q) := by
  induction fu with
  | zero =>
    intro m v s h k Q h0 hmn hf gb t7 t8 hQ
    refine g.lpe b24_0.eq_1 ?_
    obtain rfl : m = n := by omega
    have c1 : ¬ ((m : Int) < (m : Int)) := by omega
    simp only [t7, t8, c1, RX, VOp.fresh, bxC, bsC, un, most, callsOf, seval, Int.reducePow, ↓reduceIte, Nat.reduceEqDiff, reduceCtorEq]
    refine hQ _ _ v rfl (fun _ _ => rfl) (by simpa using gb) ?_
    simp only [t7, sg_set, Nat.reduceEqDiff, ↓reduceIte]
  | succ fu ih =>
    intro m v s h k Q h0 hmn hf gb t7 t8 hQ
    refine g.lpe b24_0.eq_1 ?_
    by_cases c0 : m = n
    · subst c0
      have c1 : ¬ ((m : Int) < (m : Int)) := by omega
      simp only [t7, t8, c1, RX, VOp.fresh, bxC, bsC, un, most, callsOf, seval, Int.reducePow, ↓reduceIte, Nat.reduceEqDiff, reduceCtorEq]
      refine hQ _ _ v rfl (fun _ _ => rfl) (by simpa using gb) ?_
      simp only [t7, sg_set, Nat.reduceEqDiff, ↓reduceIte]
    · have c1 : (m : Int) < (n : Int) := by omega
      obtain ⟨k1, hk1⟩ : ∃ k1, k1 = min m (n - m) := ⟨_, rfl⟩
      have hc := copy_one hx gb hmn hk1
      have s1 := slVlo (b := b) (off := 0) (len := n) (cap := n) (sz := 1) (k1 := .i64) (lo := m) hmn
      have s2 := slVhi (b := b) (off := 0) (len := n) (cap := n) (sz := 1) (k2 := .i64) (hi := m) hmn
      rw [Nat.mul_one, Nat.zero_add] at s1
      have w1 : IntKind.i64.wrap ((m : Int) + (k1 : Int)) = ((m + k1 : Nat) : Int) := by rw [w64 (by omega) (by omega)]; push_cast; rfl
      simp only [t7, t8, c1, s1, s2, hc, w1, RX, VOp.fresh, bxC, bsC, un, most, callsOf, seval, Int.reducePow, ↓reduceIte, Nat.reduceEqDiff, reduceCtorEq]
      refine ih (m + k1) (v + 1) _ _ k Q (by omega) (by omega) (by omega) (by rw [Heap.get_put, if_pos rfl]) ?_ ?_ fun s' h' v' a1 a2 a3 a4 => hQ s' h' v' (a1.trans put_next) (fun c hc => (a2 c hc).trans (by rw [Heap.get_put, if_neg hc])) a3 a4
      · simp only [t7, sg_set, Nat.reduceEqDiff, ↓reduceIte]
      · simp only [sg_set, Nat.reduceEqDiff, ↓reduceIte]
theorem mul1_pu (g : Pg P tab) {A : Nat} (hA : A < 4294967296) : Pu P 38 [.int .u64 1, .int .u64 A] (fun v => v = .tup [.int .u64 0, .int .u64 A]) := by
  refine g.pu (vf := v38) rfl rfl ?_
  have a1 := and32 (x := A) (by omega)
  have a0 : bitsOf .and .u64 1 4294967295 = 1 := by decide
  have az : bitsOf .and .u64 0 4294967295 = 0 := by decide
  rw [Nat.mod_eq_of_lt hA] at a1
  have z : (A : Int) / 4294967296 = 0 := by omega
  have w0 : IntKind.u64.wrap 0 = 0 := wu64 (by decide) (by decide)
  have wA : IntKind.u64.wrap (A : Int) = (A : Int) := wu64 (by omega) (by omega)
  simp +contextual (maxSteps := 2000000) (disch := omega) only [v38, a1, a0, az, z, w0, wA, Int.zero_mul, Int.mul_zero, Int.zero_add, Int.add_zero, Int.one_mul, RX, VOp.fresh, bxC, bsC, un, most, callsOf, seval, Int.reducePow, ↓reduceIte, Nat.reduceEqDiff, reduceCtorEq]
theorem mulT_pu (g : Pg P tab) {A : Nat} (hA : A < 4294967296) : Pu P 30 [.int .u64 1, .int .u64 A] (fun v => v = .tup [.int .u64 0, .int .u64 A]) := by
  refine g.pu (vf := v30) rfl rfl ?_
  simp only [v30, RX, VOp.fresh, bxC, bsC, un, most, callsOf, seval, Int.reducePow, ↓reduceIte, Nat.reduceEqDiff, reduceCtorEq]
  refine (mul1_pu g hA).cl (Fzs.refl rfl) fun v e => ?_
  subst e
  simp only [RX, VOp.fresh, bxC, bsC, un, most, callsOf, seval, Int.reducePow, ↓reduceIte, Nat.reduceEqDiff, reduceCtorEq]
theorem repeat_cl (g : Pg P tab) {h : Heap} {b n : Nat} {x : Sec} {e v : Nat} (hg : h.get b = some (.cells [.str x] e v)) (hb : b < h.next) (h1 : 0 < n) (hn : n ≤ 1024) {Q : AV → Heap → Prop}
    (q : ∀ h' v', h'.next = h.next + 1 → Ext h h' → h'.get h.next = some (.cells (List.replicate n (.str x)) 9 v') → Q (.sl h.next 0 n n 1) h') : Cl P 24 [.sl b 0 1 1 1, .int .i64 n] h Q := by
  refine g.cl (vf := v24) rfl rfl ?_
  have c1 : ¬ ((n : Int) < 0) := by omega
  have w1 : IntKind.u64.wrap 1 = 1 := wu64 (by decide) (by decide)
  have w2 : IntKind.u64.wrap (n : Int) = (n : Int) := wu64 (by omega) (by omega)
  have w3 : IntKind.i64.wrap (n : Int) = (n : Int) := w64 (by omega) (by omega)
  simp only [v24, c1, w1, w2, RX, VOp.fresh, bxC, bsC, un, most, callsOf, seval, Int.reducePow, ↓reduceIte, Nat.reduceEqDiff, reduceCtorEq]
  refine (mulT_pu g (A := n) (by omega)).cl (Fzs.refl rfl) fun v e => ?_
  subst e
  have c2 : ¬ ((9223372036854775807 : Int) < (n : Int)) := by omega
  have hmk := mkS_one (h := h) (nm := h.next) (n := n) (x := .str []) (e := 9) (bytes := 16) (by unfold most; omega) (by unfold most; omega)
  have gb : (h.mk' h.next (.cells (List.replicate n (.str [])) 9 0)).get b = some (.cells [.str x] e v) := by rw [Heap.get_mk, if_neg (by omega)]; exact hg
  have gn : (h.mk' h.next (.cells (List.replicate n (.str [])) 9 0)).get h.next = some (.cells (List.replicate n (.str [])) 9 0) := by rw [Heap.get_mk, if_pos rfl]
  have hcp := copy_in (n := n) (x := .str x) (z := .str []) rfl gb gn h1
  have x1 := Ext.mk (h := h) (.cells (List.replicate n (.str [])) 9 0)
  have nn : (h.mk' h.next (.cells (List.replicate n (.str [])) 9 0)).next = h.next + 1 := by rw [mk_next]; omega
  simp only [c2, w3, hmk, hcp, RX, VOp.fresh, bxC, bsC, un, most, callsOf, seval, Int.reducePow, ↓reduceIte, Nat.reduceEqDiff, reduceCtorEq]
  generalize h.mk' h.next (.cells (List.replicate n (.str [])) 9 0) = hh at *
  refine repeat_loop g (b := h.next) (n := n) (e := 9) (x := .str x) (z := .str []) rfl hn n 1 1 _ _ _ _ (by omega) (by omega) (by omega) (by rw [Heap.get_put, if_pos rfl]; rfl) ?_ ?_ fun s' h' v' a1 a2 a3 a4 => ?_
  · simp only [sg_set, Nat.reduceEqDiff, ↓reduceIte]
  · simp only [sg_set, Nat.reduceEqDiff, ↓reduceIte]
    rfl
  simp only [a4, RX, VOp.fresh, bxC, bsC, un, most, callsOf, seval, Int.reducePow, ↓reduceIte, Nat.reduceEqDiff, reduceCtorEq]
  refine q h' v' (by rw [a1, put_next, nn]) ⟨by rw [a1, put_next, nn]; omega, fun c hc => ?_⟩ a3
  rw [a2 c (by omega), Heap.get_put, if_neg (by omega), x1.2 c hc]
theorem new_cl (g : Pg P tab) {h : Heap} (n : Int) {Q : AV → Heap → Prop} (qN : ¬ (1 ≤ n ∧ n ≤ 1024) → Q (.tup [.nilp, .int .i64 800]) h)
    (qY : 1 ≤ n ∧ n ≤ 1024 → ∀ h' db sb mb, Ext h h' → h.next ≤ db ∧ h.next ≤ sb ∧ h.next ≤ mb → Dk h' db sb mb (List.replicate n.toNat zSec) [] → Q (.tup [.ptr db 0, .int .i64 0]) h') : Cl P 8 [.int .i64 n] h Q := by
  refine g.cl (vf := v8) rfl rfl ?_
  by_cases c1 : n < 1
  · simp only [v8, c1, RX, VOp.fresh, bxC, bsC, un, most, callsOf, seval, Int.reducePow, ↓reduceIte, Nat.reduceEqDiff, reduceCtorEq]
    exact qN (by omega)
  · by_cases c2 : 1024 < n
    · simp only [v8, c1, c2, RX, VOp.fresh, bxC, bsC, un, most, callsOf, seval, Int.reducePow, ↓reduceIte, Nat.reduceEqDiff, reduceCtorEq]
      exact qN (by omega)
    · have qY := qY (by omega)
      obtain ⟨N, rfl⟩ := Int.eq_ofNat_of_zero_le (show 0 ≤ n by omega)
      rw [Int.toNat_natCast] at qY
      obtain ⟨zs, hzs⟩ : ∃ zs, zs = List.replicate 64 (AV.int .u8 0) := ⟨_, rfl⟩
      have hmk : ∀ (h : Heap) nm, mkS h nm [.int .u8 0] 5 1 (.int .i64 64) (.int .i64 64) = .val (.sl nm 0 64 64 1) (h.mk' nm (.cells zs 5 0)) := fun h nm => by rw [hzs]; exact mkS_one (n := 64) (by decide) (by decide)
      have y1 := Ext.mk (h := h) (.cells zs 5 0)
      have g1 : (h.mk' h.next (.cells zs 5 0)).get h.next = some (.cells (List.replicate 64 (.int .u8 ((0 : Nat) : Int))) 5 0) := by rw [Heap.get_mk, if_pos rfl, hzs]; rfl
      have n1 : (h.mk' h.next (.cells zs 5 0)).next = h.next + 1 := by rw [mk_next]; omega
      have hcv : cvT (h.mk' h.next (.cells zs 5 0)) (.sl h.next 0 64 64 1) = .val (.str zSec) _ := cvT_rep (n := 64) (cap := 64) (by decide) g1
      simp only [v8, c1, c2, hmk, hcv, RX, VOp.fresh, bxC, bsC, un, most, callsOf, seval, Int.reducePow, ↓reduceIte, Nat.reduceEqDiff, reduceCtorEq]
      generalize h.mk' h.next (.cells zs 5 0) = h1 at *
      rw [← n1]
      have y2 := Ext.mk (h := h1) (.cells [.str zSec] 9 0)
      have g2 : (h1.mk' h1.next (.cells [.str zSec] 9 0)).get h1.next = some (.cells [.str zSec] 9 0) := by rw [Heap.get_mk, if_pos rfl]
      have n2 : (h1.mk' h1.next (.cells [.str zSec] 9 0)).next = h1.next + 1 := by rw [mk_next]; omega
      generalize h1.mk' h1.next (.cells [.str zSec] 9 0) = h2 at *
      refine repeat_cl g (n := N) g2 (by rw [n2]; omega) (by omega) (by omega) fun h3 v3 n3 y3 g3 => ?_
      simp only [RX, VOp.fresh, bxC, bsC, un, most, callsOf, seval, Int.reducePow, ↓reduceIte, Nat.reduceEqDiff, reduceCtorEq]
      have y4 := Ext.mk (h := h3) (.map [] 0)
      have g4 : (h3.mk' h3.next (.map [] 0)).get h3.next = some (.map [] 0) := by rw [Heap.get_mk, if_pos rfl]
      have n4 : (h3.mk' h3.next (.map [] 0)).next = h3.next + 1 := by rw [mk_next]; omega
      generalize h3.mk' h3.next (.map [] 0) = h4 at *
      rw [← n4]
      have y5 := Ext.mk (h := h4) (.cells [.sl h2.next 0 N N 1, .map h3.next, .int .i64 0] 66 0)
      have g5 : (h4.mk' h4.next (.cells [.sl h2.next 0 N N 1, .map h3.next, .int .i64 0] 66 0)).get h4.next = some (.cells [.sl h2.next 0 N N 1, .map h3.next, .int .i64 0] 66 0) := by rw [Heap.get_mk, if_pos rfl]
      have n5 : (h4.mk' h4.next (.cells [.sl h2.next 0 N N 1, .map h3.next, .int .i64 0] 66 0)).next = h4.next + 1 := by rw [mk_next]; omega
      generalize h4.mk' h4.next (.cells [.sl h2.next 0 N N 1, .map h3.next, .int .i64 0] 66 0) = h5 at *
      refine qY h5 h4.next h2.next h3.next ((y1.trans y2).trans ((y3.trans y4).trans y5)) ⟨by omega, by omega, by omega⟩ ⟨⟨66, 0, ?_⟩, ⟨9, v3, ?_⟩, ⟨0, ?_⟩, ⟨by omega, by omega, by omega⟩, ⟨by omega, by omega, by omega⟩, frOk_nil _, by rw [List.length_replicate]; omega, fun s hs => ?_, fun p hp => by simp at hp⟩
      · rw [List.length_replicate]; exact g5
      · rw [y5.2 _ (by omega), y4.2 _ (by omega), g3, cSec, List.map_replicate]
      · rw [y5.2 _ (by omega)]; exact g4
      · rw [List.eq_of_mem_replicate hs]; rfl
end
end
end Go.Proofs.Ytlemediphmnffaa.VM
namespace Go.Proofs.Ytlemediphmnffaa.VM
attribute [local irreducible] Af Nx EvO Ev Un Gd Cd EvR EvQ EvC Nc Gc Lp EvM NxM AfM GdM EvMR EvMQ EvMD EvMC Nm Gm
/-- the document's disk: what is written, what is synced, what is not -/
structure Rk (h : Heap) (db nb tb rb : Nat) (nw th : List Sec) (di : List Bool) : Prop where
  d : ∃ e v, h.get db = some (.cells [.sl nb 0 nw.length nw.length 1, .sl tb 0 nw.length nw.length 1, .sl rb 0 nw.length nw.length 1] e v)
  n : ∃ e v, h.get nb = some (.cells (cSec nw) e v)
  t : ∃ e v, h.get tb = some (.cells (cSec th) e v)
  r : ∃ e v, h.get rb = some (.cells (di.map .bool) e v)
  ne : db ≠ nb ∧ db ≠ tb ∧ db ≠ rb ∧ nb ≠ tb ∧ nb ≠ rb ∧ tb ≠ rb
  lt : db < h.next ∧ nb < h.next ∧ tb < h.next ∧ rb < h.next
  le : th.length = nw.length ∧ di.length = nw.length ∧ nw.length ≤ 1024
  ln : (∀ s ∈ nw, s.length = 64) ∧ ∀ s ∈ th, s.length = 64
theorem Rk.frame {h h' : Heap} {db nb tb rb : Nat} {nw th : List Sec} {di : List Bool} (D : Rk h db nb tb rb nw th di) {L : List Nat} (k : KB L h h') (n1 : db ∉ L) (n2 : nb ∉ L) (n3 : tb ∉ L) (n4 : rb ∉ L) : Rk h' db nb tb rb nw th di := by
  obtain ⟨⟨e1, v1, d⟩, ⟨e2, v2, n⟩, ⟨e3, v3, t⟩, ⟨e4, v4, r⟩, ne, lt, le, ln⟩ := D
  have := k.1
  exact ⟨⟨e1, v1, (k.2 _ lt.1 n1).trans d⟩, ⟨e2, v2, (k.2 _ lt.2.1 n2).trans n⟩, ⟨e3, v3, (k.2 _ lt.2.2.1 n3).trans t⟩, ⟨e4, v4, (k.2 _ lt.2.2.2 n4).trans r⟩, ne, ⟨by omega, by omega, by omega, by omega⟩, le, ln⟩
theorem cB_part (di : List Bool) {k : Nat} (hk : k < di.length) : part false (di.map AV.bool) k 1 = some (.bool (di.getD k false)) := by
  have : (di.map AV.bool).drop k = .bool (di.getD k false) :: (di.map AV.bool).drop (k + 1) := by
    rw [List.drop_eq_getElem_cons (by simpa using hk)]
    congr 1
    simp [List.getD_eq_getElem?_getD, List.getElem?_eq_getElem hk]
  simp [part, cut, this]
theorem ia_row {b i n : Nat} (hi : i < n) (kk : IntKind) (hh : Heap) : iaV hh 1 none (.sl b 0 n n 1) (.int kk (i : Int)) = .val (.ptr b i) hh := by
  have : 0 ≤ (i : Int) ∧ (i : Int) < (n : Int) ∧ 1 = 1 := ⟨by omega, by omega, rfl⟩
  simp [iaV, this]
theorem set_sec {h : Heap} {b j : Nat} {l : List Sec} {e : TypeId} {v : Nat} (hg : h.get b = some (.cells (cSec l) e v)) (hj : j < l.length) (z : Sec) : writeAt h b j [.str z] = some (h.put b (.cells (cSec (l.set j z)) e (v + 1))) := by
  rw [wr_at hg (by simpa [cSec] using hj) rfl]
  simp [cSec, List.map_set]
theorem set_bool {h : Heap} {b j : Nat} {l : List Bool} {e : TypeId} {v : Nat} (hg : h.get b = some (.cells (l.map .bool) e v)) (hj : j < l.length) (z : Bool) : writeAt h b j [.bool z] = some (h.put b (.cells ((l.set j z).map .bool) e (v + 1))) := by
  rw [wr_at hg (by simpa using hj) rfl]
  simp [List.map_set]
section
variable {P : Program}
theorem rsectors_cl (g : Pg P tab) {h : Heap} {db nb tb rb : Nat} {nw th : List Sec} {di : List Bool} (D : Rk h db nb tb rb nw th di) {Q : AV → Heap → Prop} (q : Q (.int .i64 nw.length) h) : Cl P 23 [.ptr db 0] h Q := by
  obtain ⟨e1, v1, d⟩ := D.d
  refine g.cl (vf := v23) rfl rfl ?_
  simp only [v23, eqv_p0, d, RX, VOp.fresh, bxC, bsC, un, most, callsOf, seval, Int.reducePow, ↓reduceIte, Nat.reduceEqDiff, reduceCtorEq]
  exact q
def cntT : List Bool → Nat
  | [] => 0
  | b :: l => (if b then 1 else 0) + cntT l
theorem cntT_le : ∀ l : List Bool, cntT l ≤ l.length
  | [] => Nat.le_refl _
  | b :: l => by have := cntT_le l; cases b <;> simp [cntT] <;> omega
theorem cntT_take {l : List Bool} {i : Nat} (hi : i < l.length) : cntT (l.take (i + 1)) = cntT (l.take i) + (if l.getD i false then 1 else 0) := by
  induction l generalizing i with
  | nil => simp at hi
  | cons b l ih =>
    cases i with
    | zero => simp [cntT]
    | succ i =>
      simp only [List.length_cons] at hi
      have := ih (i := i) (by omega)
      simp only [List.take_succ_cons, cntT, List.getD_cons_succ, this]
      omega
theorem rdirty_loop (g : Pg P tab) {db nb tb rb : Nat} {nw th : List Sec} {di : List Bool} {h : Heap} (D : Rk h db nb tb rb nw th di) (n : Nat) :
    ∀ (i : Nat) (s : T AV) (k : List Fr) (Q : Ex → T AV → Heap → Prop), i + n = nw.length → sg s 0 = .ptr db 0 → sg s 3 = .int .i64 (cntT (di.take i)) → sg s 4 = .int .i64 i →
    (∀ s', sg s' 3 = .int .i64 (cntT di) → Un P k Q (.exit 0) s' h) → Lp P b21_0 s h (Un P k Q) := by
  obtain ⟨e1, v1, d⟩ := D.d
  obtain ⟨e4, v4, r⟩ := D.r
  have hle := D.le
  induction n with
  | zero =>
    intro i s k Q hn t0 t3 t4 hQ
    refine g.lpe b21_0.eq_1 ?_
    obtain rfl : i = nw.length := by omega
    have c1 : ¬ ((nw.length : Int) < (nw.length : Int)) := by omega
    simp only [t0, t3, t4, eqv_p0, d, c1, RX, VOp.fresh, bxC, bsC, un, most, callsOf, seval, Int.reducePow, ↓reduceIte, Nat.reduceEqDiff, reduceCtorEq]
    refine hQ _ ?_
    rw [List.take_of_length_le (by omega)] at t3
    simp only [t3, sg_set, Nat.reduceEqDiff, ↓reduceIte]
  | succ n ih =>
    intro i s k Q hn t0 t3 t4 hQ
    refine g.lpe b21_0.eq_1 ?_
    have c1 : (i : Int) < (nw.length : Int) := by omega
    have w1 : IntKind.i64.wrap ((i : Int) + 1) = ((i + 1 : Nat) : Int) := by rw [w64 (by omega) (by omega)]; push_cast; rfl
    have hia := fun kk hh => ia_row (b := rb) (show i < nw.length by omega) kk hh
    have hp := cB_part di (k := i) (by omega)
    have hct := cntT_take (l := di) (i := i) (by omega)
    have hcl := cntT_le (di.take i)
    rw [List.length_take] at hcl
    have w2 : IntKind.i64.wrap ((cntT (di.take i) : Int) + 1) = ((cntT (di.take i) + 1 : Nat) : Int) := by rw [w64 (by omega) (by omega)]; push_cast; rfl
    cases hb : di.getD i false with
    | true =>
      rw [hb] at hp hct
      simp only [t0, t3, t4, eqv_p0, d, c1, w1, hia, r, hp, w2, RX, VOp.fresh, bxC, bsC, un, most, callsOf, seval, Int.reducePow, ↓reduceIte, Nat.reduceEqDiff, reduceCtorEq]
      refine ih (i + 1) _ k Q (by omega) ?_ ?_ ?_ hQ
      · simp only [t0, sg_set, Nat.reduceEqDiff, ↓reduceIte]
      · rw [hct]; simp only [sg_set, Nat.reduceEqDiff, ↓reduceIte]
      · simp only [sg_set, Nat.reduceEqDiff, ↓reduceIte]
    | false =>
      rw [hb] at hp hct
      simp only [t0, t3, t4, eqv_p0, d, c1, w1, hia, r, hp, RX, VOp.fresh, bxC, bsC, un, most, callsOf, seval, Int.reducePow, ↓reduceIte, Nat.reduceEqDiff, reduceCtorEq]
      refine ih (i + 1) _ k Q (by omega) ?_ ?_ ?_ hQ
      · simp only [t0, sg_set, Nat.reduceEqDiff, ↓reduceIte]
      · have hct2 : cntT (di.take (i + 1)) = cntT (di.take i) := hct
        rw [hct2]; simp only [t3, sg_set, Nat.reduceEqDiff, ↓reduceIte]
      · simp only [sg_set, Nat.reduceEqDiff, ↓reduceIte]
theorem rdirty_cl (g : Pg P tab) {h : Heap} {db nb tb rb : Nat} {nw th : List Sec} {di : List Bool} (D : Rk h db nb tb rb nw th di) {Q : AV → Heap → Prop} (q : Q (.int .i64 (cntT di)) h) : Cl P 21 [.ptr db 0] h Q := by
  refine g.cl (vf := v21) rfl rfl ?_
  simp only [v21, RX, VOp.fresh, bxC, bsC, un, most, callsOf, seval, Int.reducePow, ↓reduceIte, Nat.reduceEqDiff, reduceCtorEq]
  refine rdirty_loop g D nw.length 0 _ _ _ (by omega) ?_ ?_ ?_ fun s' t3 => ?_
  · simp only [sg_set, Nat.reduceEqDiff, ↓reduceIte]
  · simp only [sg_set, Nat.reduceEqDiff, ↓reduceIte]
    rfl
  · simp only [sg_set, Nat.reduceEqDiff, ↓reduceIte]
    rfl
  simp only [t3, RX, VOp.fresh, bxC, bsC, un, most, callsOf, seval, Int.reducePow, ↓reduceIte, Nat.reduceEqDiff, reduceCtorEq]
  exact q
/-- what the document's Read tells -/
def rrV (nw : List Sec) (k : Int) : AV := if 0 ≤ k ∧ k < (nw.length : Int) then .tup [.str (nw.getD k.toNat []), .int .i64 0] else .tup [.str [], .int .i64 800]
theorem rread_cl (g : Pg P tab) {h : Heap} {db nb tb rb : Nat} {nw th : List Sec} {di : List Bool} (D : Rk h db nb tb rb nw th di) (k : Int) {Q : AV → Heap → Prop} (q : Q (rrV nw k) h) : Cl P 16 [.ptr db 0, .int .i64 k] h Q := by
  obtain ⟨e1, v1, d⟩ := D.d
  obtain ⟨e2, v2, n⟩ := D.n
  refine g.cl (vf := v16) rfl rfl ?_
  unfold rrV at q
  by_cases c1 : k < 0
  · rw [if_neg (by omega)] at q
    simp only [v16, eqv_p0, c1, d, RX, VOp.fresh, bxC, bsC, un, most, callsOf, seval, Int.reducePow, ↓reduceIte, Nat.reduceEqDiff, reduceCtorEq]
    exact q
  · by_cases c2 : (nw.length : Int) ≤ k
    · rw [if_neg (by omega)] at q
      simp only [v16, eqv_p0, c1, c2, d, RX, VOp.fresh, bxC, bsC, un, most, callsOf, seval, Int.reducePow, ↓reduceIte, Nat.reduceEqDiff, reduceCtorEq]
      exact q
    · rw [if_pos ⟨by omega, by omega⟩] at q
      obtain ⟨i, rfl⟩ := Int.eq_ofNat_of_zero_le (show 0 ≤ k by omega)
      have hn : i < nw.length := by omega
      rw [Int.toNat_natCast] at q
      have hia := fun kk hh => ia_row (b := nb) hn kk hh
      have hp := cSec_part nw hn
      simp only [v16, eqv_p0, c1, c2, d, hia, n, hp, RX, VOp.fresh, bxC, bsC, un, most, callsOf, seval, Int.reducePow, ↓reduceIte, Nat.reduceEqDiff, reduceCtorEq]
      exact q
theorem rwrite_cl (g : Pg P tab) {h : Heap} {db nb tb rb : Nat} {nw th : List Sec} {di : List Bool} (D : Rk h db nb tb rb nw th di) (k : Int) (x : Sec) {Q : AV → Heap → Prop} (qN : ¬ wrOk nw.length k x → Q (.int .i64 800) h) (qY : wrOk nw.length k x → ∀ h', KB [nb, rb] h h' → Rk h' db nb tb rb (nw.set k.toNat x) th (di.set k.toNat true) → Q (.int .i64 0) h') : Cl P 15 [.ptr db 0, .int .i64 k, .str x] h Q := by
  obtain ⟨e1, v1, d⟩ := D.d
  obtain ⟨e2, v2, n⟩ := D.n
  obtain ⟨e3, v3, t⟩ := D.t
  obtain ⟨e4, v4, r⟩ := D.r
  have hle := D.le
  have ne := D.ne
  refine g.cl (vf := v15) rfl rfl ?_
  by_cases c1 : k < 0
  · simp only [v15, eqv_p0, c1, d, RX, VOp.fresh, bxC, bsC, un, most, callsOf, seval, Int.reducePow, ↓reduceIte, Nat.reduceEqDiff, reduceCtorEq]
    exact qN fun c => by have := c.1; omega
  · by_cases c2 : (nw.length : Int) ≤ k
    · simp only [v15, eqv_p0, c1, c2, d, RX, VOp.fresh, bxC, bsC, un, most, callsOf, seval, Int.reducePow, ↓reduceIte, Nat.reduceEqDiff, reduceCtorEq]
      exact qN fun c => by have := c.2.1; omega
    · by_cases c3 : (x.length : Int) = 64
      · obtain ⟨i, rfl⟩ := Int.eq_ofNat_of_zero_le (show 0 ≤ k by omega)
        have hn : i < nw.length := by omega
        have ok : wrOk nw.length (i : Int) x := ⟨by omega, by omega, by omega⟩
        have qY := qY ok
        rw [Int.toNat_natCast] at qY
        have hia := fun bb kk hh => ia_row (b := bb) hn kk hh
        have hw := set_sec n hn x
        have hdn : ¬ db = nb := ne.1
        have hrn : ¬ rb = nb := fun e => ne.2.2.2.2.1 e.symm
        have r2 : (h.put nb (.cells (cSec (nw.set i x)) e2 (v2 + 1))).get rb = some (.cells (di.map .bool) e4 v4) := by rw [Heap.get_put, if_neg hrn]; exact r
        have hw2 := set_bool r2 (j := i) (by omega) true
        simp only [v15, eqv_p0, c1, c2, c3, d, hia, hw, hdn, hw2, RX, VOp.fresh, bxC, bsC, un, most, callsOf, seval, Int.reducePow, ↓reduceIte, Nat.reduceEqDiff, reduceCtorEq]
        refine qY _ ((KB.put (by simp) _).trans (KB.put (by simp) _)) ⟨⟨e1, v1, ?_⟩, ⟨e2, v2 + 1, ?_⟩, ⟨e3, v3, ?_⟩, ⟨e4, v4 + 1, by rw [Heap.get_put, if_pos rfl]⟩, ne, D.lt, by simpa using hle, ⟨fun s hs => ?_, D.ln.2⟩⟩
        · rw [Heap.get_put, if_neg ne.2.2.1, Heap.get_put, if_neg ne.1, List.length_set]; exact d
        · rw [Heap.get_put, if_neg ne.2.2.2.2.1, Heap.get_put, if_pos rfl]
        · rw [Heap.get_put, if_neg ne.2.2.2.2.2, Heap.get_put, if_neg (fun e => ne.2.2.2.1 e.symm)]; exact t
        · rcases List.mem_or_eq_of_mem_set hs with hs | rfl
          · exact D.ln.1 s hs
          · exact ok.2.2
      · simp only [v15, eqv_p0, c1, c2, c3, d, RX, VOp.fresh, bxC, bsC, un, most, callsOf, seval, Int.reducePow, ↓reduceIte, Nat.reduceEqDiff, reduceCtorEq]
        exact qN fun c => by have := c.2.2; omega
theorem rsync_loop (g : Pg P tab) {db nb tb rb : Nat} {nw : List Sec} (n : Nat) :
    ∀ (i : Nat) (th : List Sec) (di : List Bool) (s : T AV) (h : Heap) (k : List Fr) (Q : Ex → T AV → Heap → Prop), i + n = nw.length → Rk h db nb tb rb nw (nw.take i ++ th.drop i) (List.replicate i false ++ di.drop i) → th.length = nw.length → di.length = nw.length → sg s 0 = .ptr db 0 → sg s 2 = .int .i64 i →
    (∀ s' h', KB [tb, rb] h h' → Rk h' db nb tb rb nw nw (List.replicate nw.length false) → Un P k Q (.exit 0) s' h') → Lp P b18_0 s h (Un P k Q) := by
  induction n with
  | zero =>
    intro i th di s h k Q hn D hth hdi t0 t2 hQ
    refine g.lpe b18_0.eq_1 ?_
    obtain rfl : i = nw.length := by omega
    have c1 : ¬ ((nw.length : Int) < (nw.length : Int)) := by omega
    obtain ⟨e1, v1, d⟩ := D.d
    simp only [t0, t2, eqv_p0, d, c1, RX, VOp.fresh, bxC, bsC, un, most, callsOf, seval, Int.reducePow, ↓reduceIte, Nat.reduceEqDiff, reduceCtorEq]
    refine hQ _ _ (KB.refl _ _) ?_
    rw [List.drop_of_length_le (by omega), List.drop_of_length_le (by omega), List.take_length, List.append_nil, List.append_nil] at D
    exact D
  | succ n ih =>
    intro i th di s h k Q hn D hth hdi t0 t2 hQ
    refine g.lpe b18_0.eq_1 ?_
    have hi : i < nw.length := by omega
    have hsm := D.le.2.2
    have c1 : (i : Int) < (nw.length : Int) := by omega
    have w1 : IntKind.i64.wrap ((i : Int) + 1) = ((i + 1 : Nat) : Int) := by rw [w64 (by omega) (by omega)]; push_cast; rfl
    have hia := fun bb kk hh => ia_row (b := bb) hi kk hh
    have hp := cSec_part nw hi
    have ne := D.ne
    obtain ⟨e1, v1, d⟩ := D.d
    obtain ⟨e2, v2, n2⟩ := D.n
    obtain ⟨e3, v3, t3⟩ := D.t
    obtain ⟨e4, v4, r4⟩ := D.r
    have s1 : (nw.take i ++ th.drop i).set i (nw.getD i []) = nw.take (i + 1) ++ th.drop (i + 1) := by
      rw [List.set_append_right _ _ (by rw [List.length_take]; omega), List.length_take, show i - min i nw.length = 0 by omega, List.drop_eq_getElem_cons (show i < th.length by omega), List.set_cons_zero, List.take_succ_eq_append_getElem hi, List.append_assoc, show nw.getD i [] = nw[i] by simp [List.getD_eq_getElem?_getD, List.getElem?_eq_getElem hi]]
      rfl
    have s2 : (List.replicate i false ++ di.drop i).set i false = List.replicate (i + 1) false ++ di.drop (i + 1) := by
      rw [List.set_append_right _ _ (by rw [List.length_replicate]; omega), List.length_replicate, Nat.sub_self, List.drop_eq_getElem_cons (show i < di.length by omega), List.set_cons_zero, List.replicate_succ', List.append_assoc]
      rfl
    have hw := set_sec t3 (j := i) (by simp; omega) (nw.getD i [])
    rw [s1] at hw
    have hrt : ¬ rb = tb := fun e => ne.2.2.2.2.2 e.symm
    have hdt : ¬ db = tb := ne.2.1
    have r5 : (h.put tb (.cells (cSec (nw.take (i + 1) ++ th.drop (i + 1))) e3 (v3 + 1))).get rb = some (.cells ((List.replicate i false ++ di.drop i).map .bool) e4 v4) := by rw [Heap.get_put, if_neg hrt]; exact r4
    have hw2 := set_bool r5 (j := i) (by simp; omega) false
    rw [s2] at hw2
    simp only [t0, t2, eqv_p0, d, c1, w1, hia, n2, hp, hw, hdt, hw2, RX, VOp.fresh, bxC, bsC, un, most, callsOf, seval, Int.reducePow, ↓reduceIte, Nat.reduceEqDiff, reduceCtorEq]
    refine ih (i + 1) th di _ _ k Q (by omega) ⟨⟨e1, v1, ?_⟩, ⟨e2, v2, ?_⟩, ⟨e3, v3 + 1, ?_⟩, ⟨e4, v4 + 1, by rw [Heap.get_put, if_pos rfl]⟩, ne, D.lt, ⟨by simp; omega, by simp; omega, hsm⟩, ⟨D.ln.1, fun s hs => ?_⟩⟩ hth hdi ?_ ?_ fun s' h' x => hQ s' h' (((KB.put (by simp) _).trans (KB.put (by simp) _)).trans x)
    · rw [Heap.get_put, if_neg ne.2.2.1, Heap.get_put, if_neg ne.2.1]; exact d
    · rw [Heap.get_put, if_neg ne.2.2.2.2.1, Heap.get_put, if_neg ne.2.2.2.1]; exact n2
    · rw [Heap.get_put, if_neg ne.2.2.2.2.2, Heap.get_put, if_pos rfl]
    · rcases List.mem_append.1 hs with hs | hs
      · exact D.ln.1 s (List.mem_of_mem_take hs)
      · exact D.ln.2 s (List.mem_append_right _ (by
          rw [← List.drop_drop] at hs
          exact List.mem_of_mem_drop hs))
    · simp only [t0, sg_set, Nat.reduceEqDiff, ↓reduceIte]
    · simp only [sg_set, Nat.reduceEqDiff, ↓reduceIte]
theorem rsync_cl (g : Pg P tab) {h : Heap} {db nb tb rb : Nat} {nw th : List Sec} {di : List Bool} (D : Rk h db nb tb rb nw th di) {Q : AV → Heap → Prop} (q : ∀ h', KB [tb, rb] h h' → Rk h' db nb tb rb nw nw (List.replicate nw.length false) → Q (.tup []) h') : Cl P 18 [.ptr db 0] h Q := by
  refine g.cl (vf := v18) rfl rfl ?_
  simp only [v18, RX, VOp.fresh, bxC, bsC, un, most, callsOf, seval, Int.reducePow, ↓reduceIte, Nat.reduceEqDiff, reduceCtorEq]
  refine rsync_loop g nw.length 0 th di _ h _ _ (by omega) (by simpa using D) D.le.1 D.le.2.1 ?_ ?_ fun s' h' x D' => ?_
  · simp only [sg_set, Nat.reduceEqDiff, ↓reduceIte]
  · simp only [sg_set, Nat.reduceEqDiff, ↓reduceIte]
    rfl
  simp only [RX, VOp.fresh, bxC, bsC, un, most, callsOf, seval, Int.reducePow, ↓reduceIte, Nat.reduceEqDiff, reduceCtorEq]
  exact q h' x D'
end
end Go.Proofs.Ytlemediphmnffaa.VM
namespace Go.Proofs.Ytlemediphmnffaa.VM
open Go.Shelf
theorem wf64 {x : Int} (h : -9223372036854775808 ≤ x ∧ x ≤ 9223372036854775807) : (Lit.int .i64 x).wf = true := by
  simp only [Lit.wf, Bool.and_eq_true, decide_eq_true_eq]
  exact ⟨h.1, h.2⟩
theorem srtK_of {P : Program} {ρk ρ ρc ρs : Ren} {fk fs fy ty : Nat} (L7 : SlLaysZI.n7 P ρk) (L6 : SlLaysZI.n6 P ρ) (L10 : SlLaysZI.n10 P ρc) (LS : SlLaysM.n5 P ρs) (e7 : ρk.f 7 = fk) (e10 : ρk.f 10 = fy) (c10 : ρc.f 10 = fy) (e6 : ρ.f 6 = fs) (t26 : ρ.t 26 = ty) (h9 : ρ.f 9 = ρs.f 5) (h1 : fk < YB) (h2 : fs < YB) (h3 : fy < YB) : SrtK P fk fs fy ty := by
  subst e7 e10 e6 t26
  refine ⟨fun {H mb} => keysF_ok L7 h1 h3, fun {H cb mb ver es ks} hc hg hks nd wf hsm => ?_⟩
  have := sortedKeys_ok L6 L10 LS h9 h2 hc hg hks nd (fun k hk => wf64 (wf k hk)) hsm
  rw [c10] at this
  exact this
end Go.Proofs.Ytlemediphmnffaa.VM
namespace Go.Proofs.Ytlemediphmnffaa.VM
attribute [local irreducible] Af Nx EvO Ev Un Gd Cd EvR EvQ EvC Nc Gc Lp EvM NxM AfM GdM EvMR EvMQ EvMD EvMC Nm Gm
theorem getD_set {α : Type} (l : List α) (d x : α) {j k : Nat} (hj : j < l.length) : (l.set j x).getD k d = if k = j then x else l.getD k d := by
  simp only [List.getD_eq_getElem?_getD, List.getElem?_set]
  by_cases e : k = j
  · subst e; simp [hj]
  · rw [if_neg (fun h => e h.symm), if_neg e]
theorem now_upd (sy : List Sec) (fr : Frs) (k : Nat) (s : Sec) (j : Nat) : now sy (upd1 fr k s) j = if j = k then s else now sy fr j := by
  unfold now
  rw [lk_upd1]
  by_cases e : j = k <;> simp [e]
theorem allNow_get (sy : List Sec) (fr : Frs) {j : Nat} (hj : j < sy.length) : (allNow sy fr).getD j [] = now sy fr j := by
  unfold allNow
  simp [List.getD_eq_getElem?_getD, hj]
theorem allNow_len (sy : List Sec) (fr : Frs) : (allNow sy fr).length = sy.length := by simp [allNow]
end Go.Proofs.Ytlemediphmnffaa.VM
namespace Go.Proofs.Ytlemediphmnffaa.VM
attribute [local irreducible] Af Nx EvO Ev Un Gd Cd EvR EvQ EvC Nc Gc Lp EvM NxM AfM GdM EvMR EvMQ EvMD EvMC Nm Gm
def rank (p : Nat → Bool) (k : Nat) : Nat := ((List.range k).filter p).length
theorem rank_succ (p : Nat → Bool) (k : Nat) : rank p (k + 1) = rank p k + if p k then 1 else 0 := by
  unfold rank
  rw [List.range_succ, List.filter_append, List.length_append]
  congr 1
  cases h : p k <;> simp [h]
theorem filt_rank {p : Nat → Bool} {q : Nat} (hp : p q = true) : ∀ {n : Nat}, q < n → ((List.range n).filter p)[rank p q]? = some q
  | 0, h => by omega
  | n + 1, h => by
    rw [List.range_succ, List.filter_append]
    by_cases e : q = n
    · subst e
      have h1 := List.getElem?_append_right (l₁ := (List.range q).filter p) (l₂ := [q].filter p) (i := rank p q) (Nat.le_refl _)
      rw [h1]
      show ([q].filter p)[rank p q - rank p q]? = _
      simp [hp]
    · have ih := filt_rank hp (n := n) (by omega)
      have hl := (List.getElem?_eq_some_iff.1 ih).1
      rw [List.getElem?_append_left hl]
      exact ih
theorem rank_ks {n : Nat} {fr : Frs} {i : Nat} (hi : i < (ksN n fr).length) : rank (fun k => (lk fr k).isSome) ((ksN n fr).getD i 0) = i ∧ (lk fr ((ksN n fr).getD i 0)).isSome = true ∧ (ksN n fr).getD i 0 < n := by
  have e : (ksN n fr).getD i 0 = (ksN n fr)[i] := by simp [List.getD_eq_getElem?_getD, List.getElem?_eq_getElem hi]
  have hm : (ksN n fr)[i] ∈ ksN n fr := List.getElem_mem hi
  rw [e]
  generalize hq : (ksN n fr)[i] = q at *
  unfold ksN at hm
  rw [List.mem_filter, List.mem_range] at hm
  refine ⟨?_, hm.2, hm.1⟩
  have h1 := filt_rank (p := fun k => (lk fr k).isSome) hm.2 hm.1
  obtain ⟨h2, h3⟩ := List.getElem?_eq_some_iff.1 h1
  have nd : (ksN n fr).Nodup := (ksN_up n fr).imp fun h => Nat.ne_of_lt h
  rcases Nat.lt_trichotomy (rank (fun k => (lk fr k).isSome) q) i with c | c | c
  · have := List.pairwise_iff_getElem.1 nd _ _ h2 hi c
    rw [hq] at this
    exact absurd h3 this
  · exact c
  · have := List.pairwise_iff_getElem.1 nd _ _ hi h2 c
    rw [hq] at this
    exact absurd h3.symm this
theorem crs_get {fr : Frs} {keep torn : Int} {bytes : Nat} {sy : List Sec} : ∀ (i : Nat), i ≤ (ksN sy.length fr).length → ∀ k, k < sy.length → (crs fr keep torn bytes (ksN sy.length fr) sy i).getD k [] = if (lk fr k).isSome = true ∧ rank (fun k => (lk fr k).isSome) k < i then cval keep torn bytes (rank (fun k => (lk fr k).isSome) k) ((lk fr k).getD []) (sy.getD k []) else sy.getD k []
  | 0, _, k, _ => by rw [if_neg (by omega)]; rfl
  | i + 1, hi, k, hk => by
    have ih := crs_get (fr := fr) (keep := keep) (torn := torn) (bytes := bytes) (sy := sy) i (by omega)
    obtain ⟨r1, r2, r3⟩ := rank_ks (n := sy.length) (fr := fr) (i := i) (by omega)
    rw [crs, getD_set _ _ _ (by rw [crs_len]; exact r3)]
    generalize (ksN sy.length fr).getD i 0 = q at *
    by_cases e : k = q
    · subst e
      rw [if_pos rfl, if_pos ⟨r2, by omega⟩, ih k hk, if_neg (by omega), r1]
    · rw [if_neg e, ih k hk]
      by_cases hs : (lk fr k).isSome = true
      · have hne : rank (fun k => (lk fr k).isSome) k ≠ i := fun c => by
          have h1 := filt_rank (p := fun k => (lk fr k).isSome) hs hk
          have h2 := filt_rank (p := fun k => (lk fr k).isSome) r2 r3
          rw [c] at h1
          rw [r1, h1] at h2
          exact e (Option.some.inj h2)
        by_cases hl : rank (fun k => (lk fr k).isSome) k < i
        · rw [if_pos ⟨hs, hl⟩, if_pos ⟨hs, by omega⟩]
        · rw [if_neg (fun c => hl c.2), if_neg (fun c => by omega)]
      · rw [if_neg (fun c => hs c.1), if_neg (fun c => hs c.1)]
theorem rank_lt {p : Nat → Bool} {q n : Nat} (hp : p q = true) (hq : q < n) : rank p q < rank p n := by
  obtain ⟨h, _⟩ := List.getElem?_eq_some_iff.1 (filt_rank hp hq)
  exact h
/-- a sector after a crash -/
def crv (keep torn : Int) (bytes : Nat) (b : Bool) (r : Nat) (x y : Sec) : Sec := if b then cval keep torn bytes r x y else y
theorem crashed_get {fr : Frs} {keep torn : Int} {bytes : Nat} {sy : List Sec} {k : Nat} (hk : k < sy.length) : (crashed sy fr keep torn bytes).getD k [] = crv keep torn bytes (lk fr k).isSome (rank (fun k => (lk fr k).isSome) k) (now sy fr k) (sy.getD k []) := by
  unfold crashed
  rw [crs_get _ (Nat.le_refl _) k hk]
  unfold crv now
  cases hl : lk fr k with
  | none => simp
  | some x =>
    have : rank (fun k => (lk fr k).isSome) k < (ksN sy.length fr).length := rank_lt (by rw [hl]; rfl) hk
    simp [this]
theorem crashed_len (sy : List Sec) (fr : Frs) (keep torn : Int) (bytes : Nat) : (crashed sy fr keep torn bytes).length = sy.length := crs_len _ _ _ _ _ _ _
/-- counting in a row -/
theorem rank_cnt {p : Nat → Bool} {di : List Bool} (h : ∀ j, j < di.length → p j = di.getD j false) : ∀ {k : Nat}, k ≤ di.length → rank p k = cntT (di.take k)
  | 0, _ => rfl
  | k + 1, hk => by
    rw [rank_succ, cntT_take (by omega), rank_cnt h (by omega), h k (by omega)]
end Go.Proofs.Ytlemediphmnffaa.VM
namespace Go.Proofs.Ytlemediphmnffaa.VM
attribute [local irreducible] Af Nx EvO Ev Un Gd Cd EvR EvQ EvC Nc Gc Lp EvM NxM AfM GdM EvMR EvMQ EvMD EvMC Nm Gm
section
variable {P : Program}
theorem sec_take {x : Sec} {n : Nat} (hn : n ≤ x.length) : sliceS (.str x) none (some (.int .i64 (n : Int))) = some (.str (x.take n)) := by
  have hn := nat_of (k := .i64) (n := n) (y := x.length) hn
  simp [sliceS, bounds, hn]
theorem sec_drop {x : Sec} {n : Nat} (h : n ≤ x.length) : sliceS (.str x) (some (.int .i64 (n : Int))) none = some (.str (x.drop n)) := by
  have hn := nat_of (k := .i64) (n := n) (y := x.length) h
  simp only [sliceS, bounds, Option.isSome_none, Bool.false_eq_true, if_false, hn]
  rw [List.take_of_length_le (by rw [List.length_drop]; omega)]
theorem sec_cat {x y : Sec} (hx : x.length ≤ 64) (hy : y.length ≤ 64) : bin .add (.str x) (.str y) = some (.str (x ++ y)) := by
  simp only [bin, binStr]
  rw [if_pos (by omega)]
theorem rep_getD {α : Type} (x d : α) {n j : Nat} (h : j < n) : (List.replicate n x).getD j d = x := by
  rw [List.getD_eq_getElem?_getD, List.getElem?_replicate, if_pos h]; rfl
end
end Go.Proofs.Ytlemediphmnffaa.VM
