/- Part of a proof: what stands for the program, and its walk. No condition. -/
import Derived.Below
import Derived.ChangeArms
import Derived.ChangeMaps5
import Derived.Laws.Cells
import Derived.Laws.IdiomCopy
import Derived.MapKept
import Derived.OrdersIn
import Derived.RangeFuncLeaves
import Derived.RangeFuncRecord
import Derived.Shelf.Spec.SlicesInsertGrow
import Derived.SizedLaws
import Derived.WalkKit
import Derived.WalkLawsBesides
import GoSem.Claim
import Derived.Test.YthmkenkjfmbkiaaRUb
set_option linter.unusedSimpArgs false
set_option linter.unusedVariables false
set_option linter.defProp false
set_option maxHeartbeats 1000000
namespace Go.Proofs.Ythmkenkjfmbkiaa.VM
open Go.RowKit
section
variable (P : Program)
open Classical in
/-- calls told by a function, where they come to that -/
noncomputable def XC (c : Nat → List AV → Heap → AV × Heap) : Told := fun f args h => if OK P f args h (c f args h).1 (c f args h).2 then some (c f args h) else none
theorem xc_ok {c : Nat → List AV → Heap → AV × Heap} : CallOk P (XC P c) := by
  intro f args h v h' e
  unfold XC at e
  split at e
  · rename_i o
    have : c f args h = (v, h') := by simpa using e
    rw [this] at o
    exact o
  · cases e
theorem xc_eq {c : Nat → List AV → Heap → AV × Heap} {f : Nat} {args : List AV} {h : Heap} (o : OK P f args h (c f args h).1 (c f args h).2) : XC P c f args h = some (c f args h) := if_pos o
/-- operations, their calls told by a function, with the states that they came through -/
def EvC (c : Nat → List AV → Heap → AV × Heap) : List VO → T AV → Heap → (List St → T AV → Heap → Prop) → Prop
  | [], s, h, Q => Q [⟨s, h⟩] s h
  | o :: l, s, h, Q => bif wanted ⟨s, h⟩ o.guard then
      (match vop ⟨s, h⟩ h.next o.op with
      | .val v h' => EvC c l (setd s o.dst v) h' fun tr => Q (⟨s, h⟩ :: tr)
      | .fail => False
      | .enter f args => OK P f args h (c f args h).1 (c f args h).2 ∧ EvC c l (setd s o.dst (c f args h).1) (c f args h).2 fun tr => Q (⟨s, h⟩ :: tr))
    else EvC c l (setd s o.dst .undef) h fun tr => Q (⟨s, h⟩ :: tr)
/-- operations, their calls told by a function, with the states that they came through -/
def EvMC (c : Nat → List AV → Heap → AV × Heap) (base : Nat) : List VO → Nat → T AV → Heap → (List St → T AV → Heap → Prop) → Prop
  | [], _, s, h, Q => Q [⟨s, h⟩] s h
  | o :: l, i, s, h, Q => bif wanted ⟨s, h⟩ o.guard then
      (match vop ⟨s, h⟩ (nmA base i o.op h) o.op with
      | .val v h' => EvMC c base l (i + 1) (setd s o.dst v) h' fun tr => Q (⟨s, h⟩ :: tr)
      | .fail => False
      | .enter f args => OK P f args h (c f args h).1 (c f args h).2 ∧ EvMC c base l (i + 1) (setd s o.dst (c f args h).1) (c f args h).2 fun tr => Q (⟨s, h⟩ :: tr))
    else EvMC c base l (i + 1) (setd s o.dst .undef) h fun tr => Q (⟨s, h⟩ :: tr)
end
section
variable {P : Program}
theorem EvC.trace {c : Nat → List AV → Heap → AV × Heap} : ∀ {l : List VO} {s : T AV} {h : Heap} {Q : List St → T AV → Heap → Prop}, EvC P c l s h Q → ∃ tr s' h', vtrace (XC P c) l ⟨s, h⟩ = some tr ∧ tr.getLast? = some ⟨s', h'⟩ ∧ Q tr s' h'
  | [], s, h, Q, e => ⟨_, s, h, rfl, rfl, e⟩
  | o :: l, s, h, Q, e => by
    have last : ∀ {tr : List St} {x y : St}, tr.getLast? = some y → (x :: tr).getLast? = some y := by
      intro tr x y hy
      cases tr with
      | nil => cases hy
      | cons a b => simpa [List.getLast?_cons_cons] using hy
    rw [EvC] at e
    cases hw : wanted ⟨s, h⟩ o.guard with
    | false =>
      rw [hw, cond_false] at e
      obtain ⟨tr, s', h', e1, e2, q⟩ := EvC.trace e
      refine ⟨⟨s, h⟩ :: tr, s', h', ?_, last e2, q⟩
      simp only [vtrace, vdo, hw, cond_false, put_eq, e1, Option.map_some]
    | true =>
      rw [hw, cond_true] at e
      cases hv : vop ⟨s, h⟩ h.next o.op with
      | fail => rw [hv] at e; exact e.elim
      | val v h1 =>
        rw [hv] at e
        obtain ⟨tr, s', h', e1, e2, q⟩ := EvC.trace e
        refine ⟨⟨s, h⟩ :: tr, s', h', ?_, last e2, q⟩
        simp only [vtrace, vdo, hw, cond_true, hv, put_eq, e1, Option.map_some]
      | enter f args =>
        rw [hv] at e
        obtain ⟨hok, e⟩ := e
        obtain ⟨tr, s', h', e1, e2, q⟩ := EvC.trace e
        refine ⟨⟨s, h⟩ :: tr, s', h', ?_, last e2, q⟩
        simp only [vtrace, vdo, hw, cond_true, hv, xc_eq P hok, put_eq, e1, Option.map_some]
/-- a region whose order is drawn -/
theorem EvD.go (c : Nat → List AV → Heap → AV × Heap) {l : List VO} {loose : List (Nat × List Nat)} {s : T AV} {h : Heap} {Q : T AV → Heap → Prop}
    (e : EvC P c l s h fun tr s' h' => looseOk (XC P c) l tr loose = true ∧ Q s' h') : EvD P l loose s h Q := by
  obtain ⟨tr, s', h', e1, e2, q1, q2⟩ := e.trace
  exact ⟨XC P c, xc_ok P, tr, s', h', e1, q1, e2, q2⟩
theorem EvMC.trace {c : Nat → List AV → Heap → AV × Heap} {base : Nat} : ∀ {l : List VO} {i : Nat} {s : T AV} {h : Heap} {Q : List St → T AV → Heap → Prop}, EvMC P c base l i s h Q → ∃ tr s' h', mtrace (XC P c) base l i ⟨s, h⟩ = some tr ∧ tr.getLast? = some ⟨s', h'⟩ ∧ Q tr s' h'
  | [], i, s, h, Q, e => ⟨_, s, h, rfl, rfl, e⟩
  | o :: l, i, s, h, Q, e => by
    have last : ∀ {tr : List St} {x y : St}, tr.getLast? = some y → (x :: tr).getLast? = some y := by
      intro tr x y hy
      cases tr with
      | nil => cases hy
      | cons a b => simpa [List.getLast?_cons_cons] using hy
    rw [EvMC] at e
    cases hw : wanted ⟨s, h⟩ o.guard with
    | false =>
      rw [hw, cond_false] at e
      obtain ⟨tr, s', h', e1, e2, q⟩ := EvMC.trace e
      refine ⟨⟨s, h⟩ :: tr, s', h', ?_, last e2, q⟩
      simp only [mtrace, nameAt_eq, vdo, hw, cond_false, put_eq, e1, Option.map_some]
    | true =>
      rw [hw, cond_true] at e
      cases hv : vop ⟨s, h⟩ (nmA base i o.op h) o.op with
      | fail => rw [hv] at e; exact e.elim
      | val v h1 =>
        rw [hv] at e
        obtain ⟨tr, s', h', e1, e2, q⟩ := EvMC.trace e
        refine ⟨⟨s, h⟩ :: tr, s', h', ?_, last e2, q⟩
        simp only [mtrace, nameAt_eq, vdo, hw, cond_true, hv, put_eq, e1, Option.map_some]
      | enter f args =>
        rw [hv] at e
        obtain ⟨hok, e⟩ := e
        obtain ⟨tr, s', h', e1, e2, q⟩ := EvMC.trace e
        refine ⟨⟨s, h⟩ :: tr, s', h', ?_, last e2, q⟩
        simp only [mtrace, nameAt_eq, vdo, hw, cond_true, hv, xc_eq P hok, put_eq, e1, Option.map_some]
mutual
theorem AV.eqb_refl : ∀ x : AV, AV.eqb x x = true
  | .undef => rfl
  | .bool b => by cases b <;> rfl
  | .int k n => by simp [AV.eqb]
  | .str s => by simp [AV.eqb]
  | .ptr a b => by simp [AV.eqb]
  | .nilp => rfl
  | .sl .. => by simp [AV.eqb]
  | .nils => rfl
  | .map b => by simp [AV.eqb]
  | .nilm => rfl
  | .fn f l => by simp [AV.eqb, AV.eqbs_refl l]
  | .nilf => rfl
  | .agg l => by simp [AV.eqb, AV.eqbs_refl l]
  | .tup l => by simp [AV.eqb, AV.eqbs_refl l]
  | .rs l n => by simp [AV.eqb, AV.eqbs_refl l]
  | .rp l => by simp [AV.eqb, AV.eqbs_refl l]
  | .yld b => by simp [AV.eqb]
theorem AV.eqbs_refl : ∀ l : List AV, AV.eqbs l l = true
  | [] => rfl
  | x :: l => by simp [AV.eqbs, AV.eqb_refl x, AV.eqbs_refl l]
end
/-- one look that has no place -/
def Lk (si : St) (hk : Heap) (o : VO) (sj : St) : Prop := (if wanted si o.guard = true then (match vop ⟨si.s, hk⟩ hk.next o.op with
    | .val v _ => (match o.dst with | some d => v = sj.get d | none => True)
    | _ => False) else (match o.dst with | some d => AV.undef = sj.get d | none => True))
theorem lk_same {si : St} {o : VO} {sj : St} {X : Told} (e : vdo X si si.h.next o = some sj) (hk : o.op.kind = 1) : Lk si si.h o sj := by
  unfold vdo at e
  unfold Lk
  cases hw : wanted si o.guard with
  | false =>
    rw [hw, cond_false] at e
    rw [if_neg (by simp)]
    cases e
    cases hd : o.dst with
    | none => trivial
    | some d => simp only [St.get_put, if_true]
  | true =>
    rw [hw, cond_true] at e
    rw [if_pos rfl]
    cases hv : vop si si.h.next o.op with
    | fail => rw [hv] at e; cases e
    | val v h =>
      rw [hv] at e
      cases e
      cases hd : o.dst with
      | none => trivial
      | some d => simp only [St.get_put, if_true]
    | enter f args =>
      rcases vop_enter_call hv with ⟨l, e'⟩ | ⟨x, l, e'⟩ <;> rw [e'] at hk <;> simp [VOp.kind] at hk
theorem Lk.ok {X : Told} {si : St} {hk : Heap} {o : VO} {sj : St} (e : Lk si hk o sj) : (match vdo X ⟨si.s, hk⟩ hk.next o with
      | some s' => (match o.dst with
        | some d => AV.eqb (s'.get d) (sj.get d)
        | none => true)
      | none => false) = true := by
  unfold Lk at e
  have hw : wanted ⟨si.s, hk⟩ o.guard = wanted si o.guard := by
    unfold wanted
    cases o.guard <;> rfl
  unfold vdo
  rw [hw]
  cases hg : wanted si o.guard with
  | false =>
    rw [hg, if_neg (by simp)] at e
    rw [cond_false]
    simp only
    cases hd : o.dst with
    | none => rfl
    | some d =>
      rw [hd] at e
      simp only [St.get_put, if_true]
      rw [← e]
      exact AV.eqb_refl _
  | true =>
    rw [hg, if_pos rfl] at e
    rw [cond_true]
    cases hv : vop ⟨si.s, hk⟩ hk.next o.op with
    | fail => rw [hv] at e; exact e.elim
    | enter f args => rw [hv] at e; exact e.elim
    | val v h =>
      rw [hv] at e
      simp only
      cases hd : o.dst with
      | none => rfl
      | some d =>
        rw [hd] at e
        simp only [St.get_put, if_true]
        simp only at e
        rw [e]
        exact AV.eqb_refl _
/-- all looks that have no place, one by one -/
def LkAll (l : List VO) (tr : List St) : List (Nat × List Nat) → Prop
  | [] => True
  | (i, ks) :: r => LkEach i ks ∧ LkAll l tr r
where LkEach (i : Nat) : List Nat → Prop
  | [] => True
  | k :: ks => (match l[i]?, tr[i]?, tr[k]?, tr[i + 1]? with
    | some o, some si, some sk, some sj => Lk si sk.h o sj
    | _, _, _, _ => False) ∧ LkEach i ks
theorem LkEach.ok {X : Told} {l : List VO} {tr : List St} {i : Nat} : ∀ {ks : List Nat}, LkAll.LkEach l tr i ks → (ks.all fun k => match l[i]?, tr[i]?, tr[k]?, tr[i + 1]? with
    | some o, some si, some sk, some sj => (match vdo X ⟨si.s, sk.h⟩ sk.h.next o with
      | some s' => (match o.dst with
        | some d => AV.eqb (s'.get d) (sj.get d)
        | none => true)
      | none => false)
    | _, _, _, _ => false) = true
  | [], _ => rfl
  | k :: ks, ⟨h1, h2⟩ => by
    rw [List.all_cons, Bool.and_eq_true]
    refine ⟨?_, LkEach.ok h2⟩
    split at h1
    · exact h1.ok
    · exact h1.elim
theorem LkAll.ok {X : Told} {l : List VO} {tr : List St} : ∀ {loose : List (Nat × List Nat)}, LkAll l tr loose → looseOk X l tr loose = true
  | [], _ => rfl
  | (i, ks) :: r, ⟨h1, h2⟩ => by
    unfold looseOk
    rw [List.all_cons, Bool.and_eq_true]
    exact ⟨LkEach.ok h1, LkAll.ok h2⟩
/-- a region whose order is drawn, its looks one by one -/
theorem EvD.lk (c : Nat → List AV → Heap → AV × Heap) {l : List VO} {loose : List (Nat × List Nat)} {s : T AV} {h : Heap} {Q : T AV → Heap → Prop}
    (e : EvC P c l s h fun tr s' h' => LkAll l tr loose ∧ Q s' h') : EvD P l loose s h Q := by
  obtain ⟨tr, s', h', e1, e2, q1, q2⟩ := e.trace
  exact ⟨XC P c, xc_ok P, tr, s', h', e1, q1.ok, e2, q2⟩
/-- the same, new blocks out of their row -/
theorem EvMD.lk (c : Nat → List AV → Heap → AV × Heap) {l : List VO} {loose : List (Nat × List Nat)} {s : T AV} {h : Heap} {Q : T AV → Heap → Prop}
    (e : EvMC P c h.next l 0 s (reserve h.next l 0 h) fun tr s' h' => LkAll l tr loose ∧ Q s' h') : EvMD P l loose s h Q := by
  obtain ⟨tr, s', h', e1, e2, q1, q2⟩ := e.trace
  exact ⟨XC P c, xc_ok P, tr, s', h', e1, q1.ok, e2, q2⟩
/-- memory is as it was all along -/
def allH (h : Heap) : List St → Prop
  | [] => True
  | x :: tr => x.h = h ∧ allH h tr
theorem allH_get {h : Heap} : ∀ {tr : List St}, allH h tr → ∀ {i : Nat} {x : St}, tr[i]? = some x → x.h = h
  | [], _, i, x, e => by simp at e
  | _ :: _, ⟨h1, h2⟩, 0, x, e => by simp at e; subst e; exact h1
  | _ :: _, ⟨h1, h2⟩, i + 1, x, e => allH_get h2 (by simpa using e)
theorem vtrace_step {X : Told} : ∀ {l : List VO} {st : St} {tr : List St}, vtrace X l st = some tr → tr.length = l.length + 1 ∧ ∀ (i : Nat) (o : VO) (x y : St), l[i]? = some o → tr[i]? = some x → tr[i + 1]? = some y → vdo X x x.h.next o = some y
  | [], st, tr, e => by cases e; exact ⟨rfl, fun i o x y h => by simp at h⟩
  | o :: l, st, tr, e => by
    simp only [vtrace] at e
    split at e
    · rename_i st1 hd
      obtain ⟨tr', e1, rfl⟩ := Option.map_eq_some_iff.1 e
      obtain ⟨h1, h2⟩ := vtrace_step e1
      refine ⟨by simp [h1], fun i o' x y ho hx hy => ?_⟩
      cases i with
      | zero =>
        simp at ho hx hy
        subst ho hx
        have : tr'[0]? = some st1 := (vtrace_spec e1).2.1
        rw [this] at hy
        cases hy
        exact hd
      | succ i => exact h2 i o' x y (by simpa using ho) (by simpa using hx) (by simpa using hy)
    · cases e
def okL (l : List VO) (loose : List (Nat × List Nat)) : Bool := loose.all fun p => p.2.all (fun k => Nat.ble k l.length) && (match l[p.1]? with
  | some o => Nat.beq o.op.kind 1
  | none => false)
/-- a region that leaves memory as it is -/
theorem EvD.same (c : Nat → List AV → Heap → AV × Heap) {l : List VO} {loose : List (Nat × List Nat)} {s : T AV} {h : Heap} {Q : T AV → Heap → Prop} (hk : okL l loose = true)
    (e : EvC P c l s h fun tr s' h' => allH h tr ∧ Q s' h') : EvD P l loose s h Q := by
  obtain ⟨tr, s', h', e1, e2, q1, q2⟩ := e.trace
  refine ⟨XC P c, xc_ok P, tr, s', h', e1, ?_, e2, q2⟩
  obtain ⟨hl, hst⟩ := vtrace_step e1
  unfold looseOk
  unfold okL at hk
  rw [List.all_eq_true] at hk ⊢
  intro p hp
  have hkp := hk p hp
  rw [Bool.and_eq_true, List.all_eq_true] at hkp
  obtain ⟨h1, h2⟩ := hkp
  rw [List.all_eq_true]
  intro k hkm
  have hkl : k ≤ l.length := by simpa using h1 k hkm
  cases ho : l[p.1]? with
  | none => rw [ho] at h2; cases h2
  | some o =>
    rw [ho] at h2
    have hkind : o.op.kind = 1 := by simpa using h2
    have hil : p.1 < l.length := (List.getElem?_eq_some_iff.1 ho).1
    have a1 : tr[p.1]? = some tr[p.1] := List.getElem?_eq_getElem (by omega)
    have a2 : tr[p.1 + 1]? = some tr[p.1 + 1] := List.getElem?_eq_getElem (by omega)
    have a3 : tr[k]? = some tr[k] := List.getElem?_eq_getElem (by omega)
    simp only [a1, a2, a3]
    have b1 := allH_get q1 a1
    have b3 := allH_get q1 a3
    have hv := hst _ _ _ _ ho a1 a2
    have := (lk_same hv hkind).ok (X := XC P c)
    rw [b1] at this
    rw [b3]
    exact this
def allN (h : Heap) : Nat → List St → Prop
  | 0, _ => True
  | _ + 1, [] => True
  | n + 1, x :: tr => x.h = h ∧ allN h n tr
theorem allN_zero {h : Heap} {tr : List St} : allN h 0 tr = True := rfl
theorem allN_nil {h : Heap} {n : Nat} : allN h (n + 1) [] = True := rfl
theorem allN_cons {h h' : Heap} {n : Nat} {s : T AV} {tr : List St} : allN h (n + 1) (⟨s, h'⟩ :: tr) = (h' = h ∧ allN h n tr) := rfl
theorem allH_nil {h : Heap} : allH h [] = True := rfl
theorem allH_cons {h h' : Heap} {s : T AV} {tr : List St} : allH h (⟨s, h'⟩ :: tr) = (h' = h ∧ allH h tr) := rfl
/-- the program's functions, by a table -/
structure Pg (P : Program) (F : Nat → Option VFun) : Prop where
  hm : P.follows .mixedOrders = true
  tb : TableOk P F
variable {F : Nat → Option VFun}
theorem Pg.cl (g : Pg P F) {f : Nat} {vf : VFun} (hf : F f = some vf) {args : List AV} (hl : args.length = vf.nargs) {h : Heap} {Q : AV → Heap → Prop}
    (e : Ev P vf.body (argsT args 0 .e) h (Un P [] (Fin vf.res Q))) : Cl P f args h Q :=
  let ⟨hlt, _, h1, h2, h3⟩ := g.tb f vf hf
  Cl.enter g.hm h1 h2 h3 hlt hl e
theorem Pg.pu (g : Pg P F) {f : Nat} {vf : VFun} (hf : F f = some vf) {args : List AV} (hl : args.length = vf.nargs) {R : AV → Prop}
    (e : Ev P vf.body (argsT args 0 .e) ⟨0, .e⟩ (Un P [] (Fin vf.res fun v h' => Tl h' v R))) : Pu P f args R := Pu.of (g.cl hf hl e)
theorem Pg.lpe (g : Pg P F) {b b' : VCode} (hb : b = b') {s : T AV} {h : Heap} {k : List Fr} {Q : Ex → T AV → Heap → Prop} (e : Ev P b' s h (Un P (.lp b :: k) Q)) : Lp P b s h (Un P k Q) := Lp.go g.hm (hb.symm ▸ e)
/-- a call that comes to one value -/
theorem Pu.exact {f : Nat} {args : List AV} {v : AV} (p : Pu P f args fun x => x = v) (ha : AV.tolds args = true) {h : Heap} : OK P f args h v h :=
  let ⟨_, _, _, o, hf, q⟩ := p
  q ▸ o.pure (Fzs.refl ha) hf
theorem Pu.go {f : Nat} {args : List AV} {R : AV → Prop} (p : Pu P f args R) (ha : AV.tolds args = true) {h : Heap} {Q : AV → Heap → Prop} (k : ∀ v, R v → Q v h) : Cl P f args h Q := p.cl (Fzs.refl ha) k
theorem tl_tup_ii {h : Heap} {kk k2 : IntKind} {n m : Int} {R : AV → Prop} : Tl h (.tup [.int kk n, .int k2 m]) R = R (.tup [.int kk n, .int k2 m]) :=
  propext ⟨fun ⟨_, f, r⟩ => by cases f with | tup t => cases t with | cons f t => cases f; cases t with | cons f t => cases f; cases t; exact r, fun r => ⟨_, .tup (.cons (.int kk n) (.cons (.int k2 m) .nil)), r⟩⟩
theorem tl_tup_si {h : Heap} {k2 : IntKind} {n : List Nat} {m : Int} {R : AV → Prop} : Tl h (.tup [.str n, .int k2 m]) R = R (.tup [.str n, .int k2 m]) :=
  propext ⟨fun ⟨_, f, r⟩ => by cases f with | tup t => cases t with | cons f t => cases f; cases t with | cons f t => cases f; cases t; exact r, fun r => ⟨_, .tup (.cons (.str n) (.cons (.int k2 m) .nil)), r⟩⟩
/-- it is a truth: of this -/
def IsB (p : Prop) (v : AV) : Prop := ∃ b : Bool, v = .bool b ∧ (b = true ↔ p)
theorem isB_bool {p : Prop} {b : Bool} : IsB p (.bool b) = (b = true ↔ p) := propext ⟨fun ⟨_, e, h⟩ => by cases e; exact h, fun h => ⟨b, rfl, h⟩⟩
def Nc (P : Program) (c : Nat → List AV → Heap → AV × Heap) (d : Option Nat) (l : List VO) (s : T AV) (h : Heap) (Q : List St → T AV → Heap → Prop) : Out → Prop
  | .val v h' => EvC P c l (setd s d v) h' Q
  | .fail => False
  | .enter f args => OK P f args h (c f args h).1 (c f args h).2 ∧ EvC P c l (setd s d (c f args h).1) (c f args h).2 Q
def Qc (x : St) (Q : List St → T AV → Heap → Prop) : List St → T AV → Heap → Prop := fun tr => Q (x :: tr)
def Gc (P : Program) (c : Nat → List AV → Heap → AV × Heap) (x : AV) (w : Bool) (d : Option Nat) (op : VOp) (l : List VO) (s : T AV) (h : Heap) (Q : List St → T AV → Heap → Prop) : Prop := match x with
  | .bool b => if b = w then Nc P c d l s h Q (vop ⟨s, h⟩ h.next op) else EvC P c l (setd s d .undef) h Q
  | _ => EvC P c l (setd s d .undef) h Q
def Nm (P : Program) (c : Nat → List AV → Heap → AV × Heap) (base i : Nat) (d : Option Nat) (l : List VO) (s : T AV) (h : Heap) (Q : List St → T AV → Heap → Prop) : Out → Prop
  | .val v h' => EvMC P c base l i (setd s d v) h' Q
  | .fail => False
  | .enter f args => OK P f args h (c f args h).1 (c f args h).2 ∧ EvMC P c base l i (setd s d (c f args h).1) (c f args h).2 Q
def Gm (P : Program) (c : Nat → List AV → Heap → AV × Heap) (base i : Nat) (x : AV) (w : Bool) (d : Option Nat) (op : VOp) (l : List VO) (s : T AV) (h : Heap) (Q : List St → T AV → Heap → Prop) : Prop := match x with
  | .bool b => if b = w then Nm P c base (i + 1) d l s h Q (vop ⟨s, h⟩ (nmA base i op h) op) else EvMC P c base l (i + 1) (setd s d .undef) h Q
  | _ => EvMC P c base l (i + 1) (setd s d .undef) h Q
variable {c : Nat → List AV → Heap → AV × Heap} {l : List VO} {s : T AV} {h : Heap} {Q : List St → T AV → Heap → Prop} {d : Option Nat}
variable {base i : Nat}
theorem evmc_nil : EvMC P c base [] i s h Q = Q [⟨s, h⟩] s h := by rw [EvMC]
theorem evmc_go {op : VOp} : EvMC P c base (⟨d, none, op⟩ :: l) i s h Q = Nm P c base (i + 1) d l s h (Qc ⟨s, h⟩ Q) (vop ⟨s, h⟩ (nmA base i op h) op) := by
  rw [EvMC]
  show (bif true then _ else _) = _
  rw [cond_true]
  cases vop ⟨s, h⟩ (nmA base i op h) op <;> rfl
theorem evmc_gd {t : Nat} {w : Bool} {op : VOp} : EvMC P c base (⟨d, some (t, w), op⟩ :: l) i s h Q = Gm P c base i (sg s t) w d op l s h (Qc ⟨s, h⟩ Q) := by
  rw [EvMC]
  show (bif (match St.get ⟨s, h⟩ t with | .bool b => b == w | _ => false) then _ else _) = _
  rw [stget_eq]
  unfold Gm
  cases sg s t <;> try rfl
  rename_i b
  cases b <;> cases w <;> first | rfl | (simp only [beq_self_eq_true, cond_true, if_true]; cases vop ⟨s, h⟩ (nmA base i op h) op <;> rfl)
theorem gm_tt {op : VOp} : Gm P c base i (.bool true) true d op l s h Q = Nm P c base (i + 1) d l s h Q (vop ⟨s, h⟩ (nmA base i op h) op) := rfl
theorem gm_tf {op : VOp} : Gm P c base i (.bool true) false d op l s h Q = EvMC P c base l (i + 1) (setd s d .undef) h Q := rfl
theorem gm_ft {op : VOp} : Gm P c base i (.bool false) true d op l s h Q = EvMC P c base l (i + 1) (setd s d .undef) h Q := rfl
theorem gm_ff {op : VOp} : Gm P c base i (.bool false) false d op l s h Q = Nm P c base (i + 1) d l s h Q (vop ⟨s, h⟩ (nmA base i op h) op) := rfl
theorem gm_t {p : Prop} [Decidable p] {op : VOp} : Gm P c base i (.bool (decide p)) true d op l s h Q = ((p → Nm P c base (i + 1) d l s h Q (vop ⟨s, h⟩ (nmA base i op h) op)) ∧ (¬ p → EvMC P c base l (i + 1) (setd s d .undef) h Q)) := by
  by_cases e : p <;> simp [Gm, e]
theorem gm_f {p : Prop} [Decidable p] {op : VOp} : Gm P c base i (.bool (decide p)) false d op l s h Q = ((¬ p → Nm P c base (i + 1) d l s h Q (vop ⟨s, h⟩ (nmA base i op h) op)) ∧ (p → EvMC P c base l (i + 1) (setd s d .undef) h Q)) := by
  by_cases e : p <;> simp [Gm, e]
theorem gm_undef {w : Bool} {op : VOp} : Gm P c base i .undef w d op l s h Q = EvMC P c base l (i + 1) (setd s d .undef) h Q := rfl
theorem nm_val {v : AV} {h' : Heap} : Nm P c base i d l s h Q (.val v h') = EvMC P c base l i (setd s d v) h' Q := rfl
theorem nm_fail : Nm P c base i d l s h Q .fail = False := rfl
theorem nm_enter {f : Nat} {args : List AV} : Nm P c base i d l s h Q (.enter f args) = (OK P f args h (c f args h).1 (c f args h).2 ∧ EvMC P c base l i (setd s d (c f args h).1) (c f args h).2 Q) := rfl
theorem nm_ite {p : Prop} [Decidable p] {a b : Out} : Nm P c base i d l s h Q (if p then a else b) = ((p → Nm P c base i d l s h Q a) ∧ (¬ p → Nm P c base i d l s h Q b)) := by by_cases e : p <;> simp [e]
theorem evc_nil : EvC P c [] s h Q = Q [⟨s, h⟩] s h := by rw [EvC]
theorem evc_go {op : VOp} : EvC P c (⟨d, none, op⟩ :: l) s h Q = Nc P c d l s h (Qc ⟨s, h⟩ Q) (vop ⟨s, h⟩ h.next op) := by
  rw [EvC]
  show (bif true then _ else _) = _
  rw [cond_true]
  cases vop ⟨s, h⟩ h.next op <;> rfl
theorem evc_gd {t : Nat} {w : Bool} {op : VOp} : EvC P c (⟨d, some (t, w), op⟩ :: l) s h Q = Gc P c (sg s t) w d op l s h (Qc ⟨s, h⟩ Q) := by
  rw [EvC]
  show (bif (match St.get ⟨s, h⟩ t with | .bool b => b == w | _ => false) then _ else _) = _
  rw [stget_eq]
  unfold Gc
  cases sg s t <;> try rfl
  rename_i b
  cases b <;> cases w <;> first | rfl | (simp only [beq_self_eq_true, cond_true, if_true]; cases vop ⟨s, h⟩ h.next op <;> rfl)
theorem gc_tt {op : VOp} : Gc P c (.bool true) true d op l s h Q = Nc P c d l s h Q (vop ⟨s, h⟩ h.next op) := rfl
theorem gc_tf {op : VOp} : Gc P c (.bool true) false d op l s h Q = EvC P c l (setd s d .undef) h Q := rfl
theorem gc_ft {op : VOp} : Gc P c (.bool false) true d op l s h Q = EvC P c l (setd s d .undef) h Q := rfl
theorem gc_ff {op : VOp} : Gc P c (.bool false) false d op l s h Q = Nc P c d l s h Q (vop ⟨s, h⟩ h.next op) := rfl
theorem gc_t {p : Prop} [Decidable p] {op : VOp} : Gc P c (.bool (decide p)) true d op l s h Q = ((p → Nc P c d l s h Q (vop ⟨s, h⟩ h.next op)) ∧ (¬ p → EvC P c l (setd s d .undef) h Q)) := by
  by_cases e : p <;> simp [Gc, e]
theorem gc_f {p : Prop} [Decidable p] {op : VOp} : Gc P c (.bool (decide p)) false d op l s h Q = ((¬ p → Nc P c d l s h Q (vop ⟨s, h⟩ h.next op)) ∧ (p → EvC P c l (setd s d .undef) h Q)) := by
  by_cases e : p <;> simp [Gc, e]
theorem gc_undef {w : Bool} {op : VOp} : Gc P c .undef w d op l s h Q = EvC P c l (setd s d .undef) h Q := rfl
theorem nc_val {v : AV} {h' : Heap} : Nc P c d l s h Q (.val v h') = EvC P c l (setd s d v) h' Q := rfl
theorem nc_fail : Nc P c d l s h Q .fail = False := rfl
theorem nc_enter {f : Nat} {args : List AV} : Nc P c d l s h Q (.enter f args) = (OK P f args h (c f args h).1 (c f args h).2 ∧ EvC P c l (setd s d (c f args h).1) (c f args h).2 Q) := rfl
theorem nc_ite {p : Prop} [Decidable p] {a b : Out} : Nc P c d l s h Q (if p then a else b) = ((p → Nc P c d l s h Q a) ∧ (¬ p → Nc P c d l s h Q b)) := by by_cases e : p <;> simp [e]
theorem qc_go {x : St} {tr : List St} : Qc x Q tr s h = Q (x :: tr) s h := rfl
def R6 := And.intro @allN_zero <| And.intro @allN_nil <| And.intro @allN_cons <| And.intro @allH_nil (And.intro @allH_cons (And.intro @isB_bool (And.intro @iff_self (And.intro @true_iff (And.intro @false_iff (And.intro @iff_true (And.intro @iff_false (And.intro @tl_tup_ii (And.intro @tl_tup_si (And.intro @evc_nil (And.intro @evc_go (And.intro @evc_gd (And.intro @gc_tt (And.intro @gc_tf (And.intro @gc_ft (And.intro @gc_ff (And.intro @gc_t (And.intro @gc_f (And.intro @gc_undef (And.intro @nc_val (And.intro @nc_fail (And.intro @nc_enter (And.intro @nc_ite @qc_go)))))))))))))))))))))))
def R9 := And.intro @evmc_nil (And.intro @evmc_go (And.intro @evmc_gd (And.intro @gm_tt (And.intro @gm_tf (And.intro @gm_ft (And.intro @gm_ff (And.intro @gm_t (And.intro @gm_f (And.intro @gm_undef (And.intro @nm_val (And.intro @nm_fail (And.intro @nm_enter @nm_ite))))))))))))
end
end Go.Proofs.Ythmkenkjfmbkiaa.VM
namespace Go.Proofs.Ythmkenkjfmbkiaa.VM
theorem drop_take_one {α : Type} {l : List α} {j : Nat} (hj : j < l.length) : (l.drop j).take 1 = [l[j]] := by
  rw [List.drop_eq_getElem_cons hj]
  rfl
theorem wr_at {h : Heap} {b j : Nat} {l : List AV} {e : TypeId} {ver : Nat} (hg : h.get b = some (.cells l e ver)) (hj : j < l.length) {x : AV} (hx : x.one = true) : writeAt h b j [x] = some (h.put b (.cells (l.set j x) e (ver + 1))) := by
  unfold writeAt
  rw [hg]
  have : Nat.ble (j + 1) l.length = true := by rw [Nat.ble_eq]; exact hj
  have e2 : lsets [x] l j = l.set j x := by
    unfold lsets
    rw [List.set_eq_take_append_cons_drop, if_pos hj]
    simp
  simp only [List.length_cons, List.length_nil, Nat.zero_add, this, List.all_cons, hx, List.all_nil, Bool.and_self, cond_true, e2]
def wrB (h : Heap) (b off : Nat) (vs : List AV) : Option Blk → Option Heap
  | some (.cells l e ver) => if off + vs.length ≤ l.length ∧ vs.all AV.one = true then some (h.put b (.cells (l.take off ++ vs ++ l.drop (off + vs.length)) e (ver + 1))) else none
  | _ => none
theorem writeAt_go {h : Heap} {b off : Nat} {vs : List AV} : writeAt h b off vs = wrB h b off vs (h.get b) := by
  unfold writeAt wrB
  cases h.get b with
  | none => rfl
  | some o =>
    cases o with
    | cells l e ver =>
      simp only [bif_eq, Bool.and_eq_true, Nat.ble_eq]
      rfl
    | _ => rfl
theorem wrB_some {h : Heap} {b off : Nat} {vs l : List AV} {e : TypeId} {ver : Nat} : wrB h b off vs (some (.cells l e ver)) = if off + vs.length ≤ l.length ∧ vs.all AV.one = true then some (h.put b (.cells (l.take off ++ vs ++ l.drop (off + vs.length)) e (ver + 1))) else none := rfl
theorem one_int {k : IntKind} {n : Int} : AV.one (.int k n) = true := rfl
theorem one_bool {b : Bool} : AV.one (.bool b) = true := rfl
theorem one_str {s : List Nat} : AV.one (.str s) = true := rfl
theorem one_nils : AV.one .nils = true := rfl
theorem one_nilp : AV.one .nilp = true := rfl
theorem one_rs {l : List AV} {n : Nat} : AV.one (.rs l n) = true := rfl
theorem one_sl {a b c d e : Nat} : AV.one (.sl a b c d e) = true := rfl
theorem one_ptr {a b : Nat} : AV.one (.ptr a b) = true := rfl
def RW := And.intro @writeAt_go (And.intro @wrB_some (And.intro @one_int (And.intro @one_bool (And.intro @one_str (And.intro @one_nils (And.intro @one_nilp (And.intro @one_rs (And.intro @one_sl (And.intro @one_ptr (And.intro @Bool.and_self (And.intro @Bool.and_true (And.intro @List.all_cons.{0} @List.all_nil.{0}))))))))))))
theorem ldB_at {h : Heap} {j : Nat} {l : List AV} {e : TypeId} {ver : Nat} (hj : j < l.length) : ldB false j 1 h (some (.cells l e ver)) = .val l[j] h := by
  rw [ldB_some, part_eq, drop_take_one hj]
  simp [one, valO]
theorem lsets_one {l : List AV} {j : Nat} {x : AV} (hj : j < l.length) : lsets [x] l j = l.set j x := by
  unfold lsets
  rw [List.set_eq_take_append_cons_drop, if_pos hj]
  simp
section
variable {P : Program} {F : Nat → Option VFun}
/-- a closed call, run -/
theorem Pg.run (g : Pg P F) {n f : Nat} {b : Bool} (hv : (vcall F (fun _ _ _ => none) n f [] ⟨0, .e⟩).map (·.1) = some (.bool b)) : Pu P f [] (fun v => v = .bool b) := by
  obtain ⟨⟨v, h'⟩, e1, e2⟩ := Option.map_eq_some_iff.1 hv
  simp only at e2
  subst e2
  exact ⟨_, _, h', (vm_ok (drawn_ok g.hm) g.tb nothing_told n).2.2 f [] _ _ _ e1, .bool b, rfl⟩
/-- a value told without memory, computed -/
def fz (r : Bool) (h : Heap) : Nat → AV → Option AV
  | 0, _ => none
  | n + 1, v => match v with
    | .sl b off len _ sz => bif Nat.beq len 0 then some (.rs [] 0) else match h.get b with
      | some (.cells l _ _) => match cut l off (len * sz) with
        | some cs => (cs.mapM (fz r h n)).map (.rs · len)
        | none => none
      | _ => none
    | .ptr b off => match h.get b with
      | some (.cells l _ _) => ((l.drop off).mapM (fz r h n)).map .rp
      | _ => none
    | .agg l => (l.mapM (fz r h n)).map .agg
    | .tup l => (l.mapM (fz r h n)).map .tup
    | .fn f l => (l.mapM (fz r h n)).map (.fn f)
    | .rs l len => bif Nat.beq len 0 then some (.rs [] 0) else bif r then (l.mapM (fz r h n)).map (.rs · len) else none
    | .rp l => bif r then (l.mapM (fz r h n)).map .rp else none
    | .map _ => none
    | .yld _ => none
    | v => some v
theorem fzs_of {r : Bool} {h : Heap} {n : Nat} (ih : ∀ v v', fz r h n v = some v' → Fz r h v v') : ∀ {l k : List AV}, l.mapM (fz r h n) = some k → Fzs r h l k
  | [], k, e => by simp at e; subst e; exact .nil
  | x :: l, k, e => by
    simp only [List.mapM_cons, Option.bind_eq_bind, Option.bind_eq_some_iff, Option.pure_def, Option.some.injEq] at e
    obtain ⟨b, h1, k', h2, rfl⟩ := e
    exact .cons (ih _ _ h1) (fzs_of ih h2)
theorem fz_ok {r : Bool} {h : Heap} : ∀ (n : Nat) (v v' : AV), fz r h n v = some v' → Fz r h v v'
  | 0, _, _, e => by cases e
  | n + 1, v, v', e => by
    have ih := fz_ok (r := r) (h := h) n
    cases v with
    | undef => cases e; exact .undef
    | bool b => cases e; exact .bool b
    | int k m => cases e; exact .int k m
    | str s => cases e; exact .str s
    | nilp => cases e; exact .nilp
    | nils => cases e; exact .nils
    | nilm => cases e; exact .nilm
    | nilf => cases e; exact .nilf
    | map b => cases e
    | yld b => cases e
    | sl b off len cap sz =>
      simp only [fz, T.beq_dec] at e
      by_cases h0 : len = 0
      · rw [decide_eq_true h0, cond_true] at e
        cases e; subst h0; exact .sl0
      · rw [decide_eq_false h0, cond_false] at e
        split at e
        · rename_i l _ _ hg
          split at e
          · rename_i cs hc
            obtain ⟨k, hk, rfl⟩ := Option.map_eq_some_iff.1 e
            exact .sl (by omega) hg hc (fzs_of ih hk)
          · cases e
        · cases e
    | ptr b off =>
      simp only [fz] at e
      split at e
      · rename_i l _ _ hg
        obtain ⟨k, hk, rfl⟩ := Option.map_eq_some_iff.1 e
        exact .ptr hg (fzs_of ih hk)
      · cases e
    | agg l => simp only [fz] at e; obtain ⟨k, hk, rfl⟩ := Option.map_eq_some_iff.1 e; exact .agg (fzs_of ih hk)
    | tup l => simp only [fz] at e; obtain ⟨k, hk, rfl⟩ := Option.map_eq_some_iff.1 e; exact .tup (fzs_of ih hk)
    | fn f l => simp only [fz] at e; obtain ⟨k, hk, rfl⟩ := Option.map_eq_some_iff.1 e; exact .fn (fzs_of ih hk)
    | rs l len =>
      simp only [fz, T.beq_dec] at e
      by_cases h0 : len = 0
      · rw [decide_eq_true h0, cond_true] at e
        cases e; subst h0; exact .rs0
      · rw [decide_eq_false h0, cond_false] at e
        cases r with
        | false => cases e
        | true => obtain ⟨k, hk, rfl⟩ := Option.map_eq_some_iff.1 e; exact .rs rfl (fzs_of ih hk)
    | rp l =>
      simp only [fz] at e
      cases r with
      | false => cases e
      | true => obtain ⟨k, hk, rfl⟩ := Option.map_eq_some_iff.1 e; exact .rp rfl (fzs_of ih hk)
/-- a call with one argument, which is told first -/
theorem Pu.one {P : Program} {f : Nat} {a a' : AV} {R : AV → Prop} (p : Pu P f [a'] R) {h : Heap} (e : fz true h 40 a = some a') {Q : AV → Heap → Prop} (k : ∀ v, R v → Q v h) : Cl P f [a] h Q := p.cl (.cons (fz_ok _ _ _ e) .nil) k
end
theorem avc_agg {l : List AV} : AV.cells (.agg l) = some l := rfl
theorem avc_int {k : IntKind} {n : Int} : AV.cells (.int k n) = some [.int k n] := rfl
theorem avc_bool {b : Bool} : AV.cells (.bool b) = some [.bool b] := rfl
theorem avc_str {t : List Nat} : AV.cells (.str t) = some [.str t] := rfl
theorem avc_nils  : AV.cells .nils = some [.nils] := rfl
theorem avc_nilp  : AV.cells .nilp = some [.nilp] := rfl
theorem avc_nilm  : AV.cells .nilm = some [.nilm] := rfl
theorem avc_nilf  : AV.cells .nilf = some [.nilf] := rfl
theorem avc_sl {a b c d e : Nat} : AV.cells (.sl a b c d e) = some [.sl a b c d e] := rfl
theorem avc_ptr {a b : Nat} : AV.cells (.ptr a b) = some [.ptr a b] := rfl
theorem avc_rs {l : List AV} {a : Nat} : AV.cells (.rs l a) = some [.rs l a] := rfl
theorem avc_rp {l : List AV} : AV.cells (.rp l) = some [.rp l] := rfl
theorem avc_map {a : Nat} : AV.cells (.map a) = some [.map a] := rfl
theorem avc_fn {a : Nat} {l : List AV} : AV.cells (.fn a l) = some [.fn a l] := rfl
def R10 := And.intro @avc_agg (And.intro @avc_int (And.intro @avc_bool (And.intro @avc_str (And.intro @avc_nils (And.intro @avc_nilp (And.intro @avc_nilm (And.intro @avc_nilf (And.intro @avc_sl (And.intro @avc_ptr (And.intro @avc_rs (And.intro @avc_rp (And.intro @avc_map @avc_fn))))))))))))
/-- all of them, and what lists and truths want besides -/
def RX := And.intro R0 (And.intro R1 (And.intro R2 (And.intro R3 (And.intro R4 (And.intro R5 (And.intro R6 (And.intro R7 (And.intro R8 (And.intro R9 (And.intro R10 (And.intro @List.contains_nil.{0} (And.intro @List.contains_cons.{0} (And.intro @beq_iff_eq.{0} (And.intro @List.getElem?_cons_zero.{0} (And.intro @List.getElem?_cons_succ.{0} (And.intro @Option.map_none.{0, 0} and_self))))))))))))))))
end Go.Proofs.Ythmkenkjfmbkiaa.VM
namespace Go.Proofs.Ythmkenkjfmbkiaa.VM
open Go.RowKit
/-- The shape of a cell; of a slice: an element's bytes, its cells. -/
inductive Sh where
  | int (k : IntKind)
  | bool
  | str
  | sl (bytes : Nat) (l : List Sh)
section
variable (P : Program)
def shFs (rec : TypeId → Option (List Sh)) : List Field → Nat → Option (List Sh)
  | [], _ => some []
  | f :: fs, n => if f.offset = n then (match rec f.type with
    | some l => if P.cellsOf f.type = l.length then (shFs rec fs (n + l.length)).map (l ++ ·) else none
    | none => none) else none
def shOf : Nat → TypeId → Option (List Sh)
  | 0, _ => none
  | d + 1, t => match P.underlying t with
    | some (.int k) => some [.int k]
    | some .bool => some [.bool]
    | some .string => some [.str]
    | some (.slice e) => match shOf d e with
      | some l => if l.length = P.cellsOf e ∧ 0 < l.length then some [.sl (P.bytesOf e) l] else none
      | none => none
    | some (.struct fs) => match shFs P (shOf d) fs.toList 0 with
      | some l => if l.length = P.cellsOf t then some l else none
      | none => none
    | _ => none
end
mutual
/-- cells of a shape -/
inductive W : Sh → AV → Prop
  | int (k : IntKind) (n : Int) (h : (Lit.int k n).wf = true) : W (.int k) (.int k n)
  | bool (b : Bool) : W .bool (.bool b)
  | str (s : ByteArray) (h : s.size ≤ reachBytes) : W .str (.str (s.data.toList.map fun c => c.toNat))
  | nils (b : Nat) (l : List Sh) : W (.sl b l) .nils
  | rs {b len : Nat} {l : List Sh} {c : List AV} (h : Wn l len c) (hb : len * b ≤ reachBytes) : W (.sl b l) (.rs c len)
inductive Ws : List Sh → List AV → Prop
  | nil : Ws [] []
  | cons {s : Sh} {x : AV} {l : List Sh} {k : List AV} (h : W s x) (t : Ws l k) : Ws (s :: l) (x :: k)
inductive Wn : List Sh → Nat → List AV → Prop
  | nil (l : List Sh) : Wn l 0 []
  | cons {l : List Sh} {c k : List AV} {n : Nat} (h : Ws l c) (t : Wn l n k) : Wn l (n + 1) (c ++ k)
end
theorem Ws.append : ∀ {l l' : List Sh} {k k' : List AV}, Ws l k → Ws l' k' → Ws (l ++ l') (k ++ k')
  | _, _, _, _, .nil, h => h
  | _, _, _, _, .cons h t, h' => .cons h (t.append h')
theorem Ws.length : ∀ {l : List Sh} {k : List AV}, Ws l k → l.length = k.length
  | _, _, .nil => rfl
  | _, _, .cons _ t => by simp [t.length]
theorem VRm.append {φ : Env} {w : World} {B : Nat} : ∀ {l k : List AV} {off : Nat}, VRm φ w l B off → VRm φ w k B (off + l.length) → VRm φ w (l ++ k) B off
  | _, _, _, .nil, h => h
  | _, k, off, .cons (l := l) hc h t, h' => .cons hc h (t.append (by rw [List.length_cons] at h'; rwa [show off + (l.length + 1) = off + 1 + l.length by omega] at h'))
theorem VRs.mem {φ : Env} {w : World} {B : Nat} : ∀ {l : List AV} {vs : List Value} {off : Nat}, VRs φ w l vs → (∀ j u, vs[j]? = some u → w.cell? ⟨B, off + j, none⟩ = some u) → VRm φ w l B off
  | _, _, _, .nil, _ => .nil
  | _, _, off, .cons (u := u) h t, hc => .cons (by simpa using hc 0 u rfl) h (t.mem fun j v hj => by rw [show off + 1 + j = off + (j + 1) by omega]; exact hc (j + 1) v hj)
theorem mapM_get {α β : Type} {f : α → Option β} : ∀ {l : List α} {r : List β}, l.mapM f = some r → r.length = l.length ∧ ∀ (j : Nat) (x : α) (y : β), l[j]? = some x → r[j]? = some y → f x = some y
  | [], r, h => by
    simp at h; subst h
    exact ⟨rfl, fun j x y h => by simp at h⟩
  | a :: l, r, h => by
    simp only [List.mapM_cons, Option.bind_eq_bind, Option.bind_eq_some_iff, Option.pure_def, Option.some.injEq] at h
    obtain ⟨b, h1, r', h2, rfl⟩ := h
    obtain ⟨e1, e2⟩ := mapM_get h2
    refine ⟨by simp [e1], fun j x y hx hy => ?_⟩
    cases j with
    | zero => simp at hx hy; subst hx hy; exact h1
    | succ j => exact e2 j x y (by simpa using hx) (by simpa using hy)
section
variable {H : Type} {enc : TypeId × Value → H} {P : Program} {w : World} {base : Nat} {spare : Nat → Bool} {held : Bool}
def OpenAt (enc : TypeId × Value → H) (P : Program) (w : World) (base : Nat) (spare : Nat → Bool) (held : Bool) (fuel : Nat) : Prop :=
  ∀ (n : Nat) (t : TypeId) (cs : List Value) (x : DataW H × List MemPlace) (shs : List Sh), shOf P n t = some shs → DataW.trod enc P w base spare held fuel t cs = some x → (x.1.weights P t).all (· ≤ reachBytes) = true → ∃ avs, VRs none0 w avs cs ∧ Ws shs avs
theorem open_fs {fuel d : Nat} (ih : OpenAt enc P w base spare held fuel) {cs : List Value} : ∀ (fs : List Field) (n : Nat) (xs : List (DataW H × List MemPlace)) (shs : List Sh), shFs P (shOf P d) fs n = some shs → xs.length = fs.length →
    (∀ (i : Nat) (f : Field), fs[i]? = some f → DataW.trod enc P w base spare held fuel f.type ((cs.drop f.offset).take (P.cellsOf f.type)) = xs[i]?) → (DataW.weightsEach P (fs.map (·.type)) (xs.map (·.1))).all (· ≤ reachBytes) = true →
    ∃ avs, VRs none0 w avs ((cs.drop n).take shs.length) ∧ Ws shs avs
  | [], n, xs, shs, h, _, _, _ => by cases h; exact ⟨[], by simpa using VRs.nil, .nil⟩
  | f :: fs, n, [], shs, h, hl, _, _ => by simp at hl
  | f :: fs, n, x :: xs, shs, h, hl, ht, hw => by
    unfold shFs at h
    split at h
    · rename_i ho
      split at h
      · rename_i l hr
        split at h
        · rename_i hc
          obtain ⟨k, hk, rfl⟩ := Option.map_eq_some_iff.1 h
          simp only [List.map_cons, DataW.weightsEach, List.all_append, Bool.and_eq_true] at hw
          obtain ⟨a1, v1, w1⟩ := ih d f.type _ x l hr (ht 0 f rfl) hw.1
          obtain ⟨a2, v2, w2⟩ := open_fs ih fs (n + l.length) xs k hk (by simpa using hl) (fun i g hg => by simpa using ht (i + 1) g (by simpa using hg)) hw.2
          refine ⟨a1 ++ a2, ?_, w1.append w2⟩
          rw [List.length_append, List.take_add, List.drop_drop]
          rw [ho, hc] at v1
          exact v1.append v2
        · cases h
      · cases h
    · cases h
theorem open_all : ∀ fuel : Nat, OpenAt enc P w base spare held fuel
  | 0 => by intro n t cs x shs _ h _; simp [DataW.trod] at h
  | fuel + 1 => by
    intro n t cs x shs hs h hw
    have ih := open_all fuel
    cases n with
    | zero => cases hs
    | succ d =>
      unfold shOf at hs
      split at hs
      · rename_i k hu
        cases hs
        obtain ⟨n, rfl, rfl, hwf⟩ := DataW.trod_int hu h
        exact ⟨[.int k n], .cons (.int k n) .nil, .cons (.int k n hwf) .nil⟩
      · rename_i hu
        cases hs
        unfold DataW.trod at h
        rw [hu] at h
        split at h <;> simp_all
        rename_i b
        exact ⟨[.bool b], .cons (.bool b) .nil, .cons (.bool b) .nil⟩
      · rename_i hu
        cases hs
        obtain ⟨s, rfl, rfl, hs⟩ := DataW.trod_string hu h
        simp only [DataW.weights, List.all_cons, List.all_nil, Bool.and_true, decide_eq_true_eq] at hw
        exact ⟨[.str (s.data.toList.map fun c => c.toNat)], .cons (.str s) .nil, .cons (.str s (by simpa using hw)) .nil⟩
      · rename_i e hu
        split at hs
        · rename_i l hl
          split at hs
          · rename_i hc
            cases hs
            rcases DataW.trod_slice hu h with ⟨rfl, rfl⟩ | ⟨a, len, cap, elems, rest, m, hm, rfl, rfl, hb, hlc, _, hlen, hel, _, _⟩
            · exact ⟨[.nils], .cons .nils .nil, .cons (.nils _ _) .nil⟩
            · cases hm
              simp only [DataW.weights, hu, List.all_cons, List.all_append, Bool.and_eq_true, decide_eq_true_eq, List.length_map] at hw
              obtain ⟨hw1, hw2, _⟩ := hw
              have hbytes : len * P.bytesOf e ≤ reachBytes := Nat.le_trans (Nat.mul_le_mul_right _ (by omega)) hw1
              cases len with
              | zero => exact ⟨[.rs [] 0], .cons (.rs0 a cap) .nil, .cons (.rs (.nil _) hbytes) .nil⟩
              | succ len' =>
                generalize hL : len' + 1 = len at *
                have hwe : ∀ (i : Nat) (y : DataW H × List MemPlace), elems[i]? = some y → (y.1.weights P e).all (· ≤ reachBytes) = true := by
                  clear hel hlen h hw1 hbytes
                  induction elems with
                  | nil => intro i y hy; simp at hy
                  | cons z zs ihz =>
                    simp only [List.map_cons, DataW.weightsAll, List.all_append, Bool.and_eq_true] at hw2
                    intro i y hy
                    cases i with
                    | zero => simp at hy; subst hy; exact hw2.1
                    | succ i => exact ihz hw2.2 i y (by simpa using hy)
                have each : ∀ i, i < len → ∃ ecs avs, w.cells? base (a.add (i * P.cellsOf e)) (P.cellsOf e) = some ecs ∧ VRs none0 w avs ecs ∧ Ws l avs := by
                  intro i hi
                  have h1 := hel i hi
                  have h2 : elems[i]? = some elems[i] := List.getElem?_eq_getElem (by omega)
                  rw [h2] at h1
                  obtain ⟨ecs, h3, h4⟩ := Option.bind_eq_some_iff.1 h1
                  obtain ⟨avs, h5, h6⟩ := ih d e ecs _ l hl h4 (hwe i _ h2)
                  exact ⟨ecs, avs, h3, h5, h6⟩
                have cellsAt : ∀ {c : Addr} {k : Nat} {ecs : List Value}, w.cells? base c k = some ecs → ecs.length = k ∧ ∀ j u, ecs[j]? = some u → w.cell? (c.add j) = some u := by
                  intro c k ecs hk
                  unfold World.cells? at hk
                  split at hk
                  · obtain ⟨e1, e2⟩ := mapM_get hk
                    rw [List.length_range] at e1
                    refine ⟨e1, fun j u hj => e2 j j u ?_ hj⟩
                    have hjl : j < ecs.length := by
                      rcases Nat.lt_or_ge j ecs.length with h | h
                      · exact h
                      · rw [List.getElem?_eq_none h] at hj; cases hj
                    rw [List.getElem?_range (by omega)]
                  · cases hk
                obtain ⟨B, off, spot⟩ := a
                have hspot : spot = none ∧ B < w.heap.size := by
                  obtain ⟨ecs, avs, h1, h2, h3⟩ := each 0 (by omega)
                  obtain ⟨q1, q2⟩ := cellsAt h1
                  have h0 : 0 < ecs.length := by omega
                  have := q2 0 ecs[0] (List.getElem?_eq_getElem h0)
                  have ha : ((⟨B, off, spot⟩ : Addr).add (0 * P.cellsOf e)).add 0 = ⟨B, off, spot⟩ := by simp [Addr.add]
                  rw [ha] at this
                  unfold World.cell? at this
                  split at this
                  · rename_i c _ _ hh
                    split at this
                    · cases this
                    · rename_i hn
                      refine ⟨by simpa using hn, ?_⟩
                      rcases Nat.lt_or_ge B w.heap.size with h | h
                      · exact h
                      · rw [Array.getElem?_eq_none h] at hh; cases hh
                  · cases this
                obtain ⟨rfl, hB⟩ := hspot
                have all : ∀ k i, i + k = len → ∃ c, Wn l k c ∧ VRm none0 w c B (off + i * P.cellsOf e) := by
                  intro k
                  induction k with
                  | zero => intro i _; exact ⟨[], .nil _, .nil⟩
                  | succ k ihk =>
                    intro i hi
                    obtain ⟨c, c1, c2⟩ := ihk (i + 1) (by omega)
                    obtain ⟨ecs, avs, h1, h2, h3⟩ := each i (by omega)
                    obtain ⟨q1, q2⟩ := cellsAt h1
                    have hal : avs.length = P.cellsOf e := by rw [← h3.length]; exact hc.1
                    refine ⟨avs ++ c, .cons h3 c1, VRm.append (h2.mem fun j u hj => ?_) ?_⟩
                    · have := q2 j u hj
                      rw [add_none, add_none] at this
                      exact this
                    · rw [hal]
                      rw [Nat.add_mul, Nat.one_mul, ← Nat.add_assoc] at c2
                      exact c2
                obtain ⟨c, c1, c2⟩ := all len 0 (by omega)
                rw [Nat.zero_mul, Nat.add_zero] at c2
                exact ⟨[.rs c len], .cons (.rs hlc (fun b p hb => by cases hb) hB c2) .nil, .cons (.rs c1 hbytes) .nil⟩
          · cases hs
        · cases hs
      · rename_i fs hu
        split at hs
        · rename_i l hl
          split at hs
          · rename_i hc
            cases hs
            obtain ⟨xs, m, hm, rfl, hcl, hxl, hx⟩ := DataW.trod_struct hu h
            cases hm
            simp only [DataW.weights, hu] at hw
            obtain ⟨avs, v1, v2⟩ := open_fs ih fs.toList 0 xs _ hl (by simpa using hxl) (fun i f hf => hx i f (by simpa using hf)) hw
            refine ⟨avs, ?_, v2⟩
            rw [List.drop_zero, List.take_of_length_le (by omega)] at v1
            exact v1
          · cases hs
        · cases hs
      · cases hs
/-- an argument, opened -/
theorem open_arg {t : TypeId} {v : Value} {d : DataW H} {ps : List MemPlace} {n : Nat} {shs : List Sh} (hs : shOf P n t = some shs) (h : DataW.Trod enc P w base spare held t v d ps) (hw : (d.weights P t).all (· ≤ reachBytes) = true) :
    ∃ avs, VRs none0 w avs v.cells.toList ∧ Ws shs avs :=
  let ⟨fuel, hf⟩ := h
  open_all fuel n t _ _ shs hs hf hw
end
def I64 (n : Int) : Prop := -9223372036854775808 ≤ n ∧ n ≤ 9223372036854775807
theorem i64_wf {n : Int} (h : (Lit.int .i64 n).wf = true) : I64 n := by
  simp only [Lit.wf, Bool.and_eq_true, decide_eq_true_eq] at h
  exact ⟨h.1, h.2⟩
section
variable {α : Type}
/-- cells of things, one behind the other -/
inductive Cat (R : α → List AV → Prop) : List α → List AV → Prop
  | nil : Cat R [] []
  | cons {a : α} {l : List α} {c k : List AV} (h : R a c) (t : Cat R l k) : Cat R (a :: l) (c ++ k)
/-- a slice of things, each of so many bytes -/
def IsL (b : Nat) (R : α → List AV → Prop) (v : AV) (l : List α) : Prop := l.length * b ≤ reachBytes ∧ ((v = .nils ∧ l = []) ∨ ∃ c, v = .rs c l.length ∧ Cat R l c)
variable {R : α → List AV → Prop} {z b : Nat}
theorem Cat.length (hz : ∀ a c, R a c → c.length = z) : ∀ {l : List α} {c : List AV}, Cat R l c → c.length = l.length * z
  | _, _, .nil => by simp
  | _, _, .cons h t => by rw [List.length_append, hz _ _ h, t.length hz, List.length_cons, Nat.add_mul, Nat.one_mul, Nat.add_comm]
theorem Cat.append : ∀ {l l' : List α} {c c' : List AV}, Cat R l c → Cat R l' c' → Cat R (l ++ l') (c ++ c')
  | _, _, _, _, .nil, h => h
  | _, _, _, _, .cons (c := c) (k := k) h t, h' => by rw [List.append_assoc]; exact .cons h (t.append h')
theorem Cat.at (hz : ∀ a c, R a c → c.length = z) : ∀ {l : List α} {c : List AV}, Cat R l c → ∀ (i : Nat) (hi : i < l.length), ∃ ci r, c.drop (i * z) = ci ++ r ∧ R l[i] ci
  | _, _, .nil, i, hi => by simp at hi
  | _, _, .cons (c := c) (k := k) h t, 0, _ => ⟨c, k, by simp, h⟩
  | _, _, .cons (c := c) (k := k) h t, i + 1, hi => by
    obtain ⟨ci, r, e, hr⟩ := t.at hz i (by simpa using hi)
    refine ⟨ci, r, ?_, hr⟩
    rw [Nat.add_mul, Nat.one_mul, Nat.add_comm, ← List.drop_drop, ← hz _ _ h, List.drop_left]
    rw [hz _ _ h]; exact e
theorem Cat.told (ht : ∀ a c, R a c → AV.tolds c = true) : ∀ {l : List α} {c : List AV}, Cat R l c → AV.tolds c = true
  | _, _, .nil => rfl
  | _, _, .cons h t => by rw [tolds_append, ht _ _ h, t.told ht]; rfl
where tolds_append : ∀ {l k : List AV}, AV.tolds (l ++ k) = (AV.tolds l && AV.tolds k)
  | [], _ => by simp [AV.tolds]
  | x :: l, k => by rw [List.cons_append, AV.tolds, AV.tolds, tolds_append, Bool.and_assoc]
theorem IsL.told (ht : ∀ a c, R a c → AV.tolds c = true) {v : AV} {l : List α} (h : IsL b R v l) : v.told = true := by
  rcases h.2 with ⟨rfl, _⟩ | ⟨c, rfl, hc⟩
  · rfl
  · exact hc.told ht
theorem IsL.len {v : AV} {l : List α} (h : IsL b R v l) (hh : Heap) : lnV hh v = .val (.int .i64 l.length) hh := by
  rcases h.2 with ⟨rfl, rfl⟩ | ⟨c, rfl, _⟩ <;> rfl
theorem IsL.bound {v : AV} {l : List α} (h : IsL b R v l) (hb : 0 < b) : (l.length : Int) ≤ 140737488351232 := by
  have := h.1
  have h2 : l.length ≤ l.length * b := Nat.le_mul_of_pos_right _ hb
  have : l.length ≤ reachBytes := Nat.le_trans h2 this
  have e : reachBytes = 140737488351232 := rfl
  rw [e] at this
  omega
theorem IsL.at {v : AV} {l : List α} (h : IsL b R v l) (hz : ∀ a c, R a c → c.length = z) (i : Nat) (hi : i < l.length) :
    ∃ ci r, R l[i] ci ∧ ∀ (hh : Heap) (kk : IntKind), iaV hh z none v (.int kk (i : Int)) = .val (.rp (ci ++ r)) hh := by
  rcases h.2 with ⟨rfl, rfl⟩ | ⟨c, rfl, hc⟩
  · simp at hi
  · obtain ⟨ci, r, e, hr⟩ := hc.at hz i hi
    refine ⟨ci, r, hr, fun hh kk => ?_⟩
    rw [iaV_rs, if_pos ⟨by omega, by omega⟩]
    rw [Int.toNat_natCast, e]
theorem tolds_drop : ∀ {l : List AV} (i : Nat), AV.tolds l = true → AV.tolds (l.drop i) = true
  | _, 0, h => h
  | [], _ + 1, _ => rfl
  | _ :: l, i + 1, h => by
    simp only [AV.tolds, Bool.and_eq_true] at h
    exact tolds_drop i h.2
theorem IsL.get {v : AV} {l : List α} (h : IsL b R v l) (hz : ∀ a c, R a c → c.length = z) (ht : ∀ a c, R a c → AV.tolds c = true) (i : Nat) (hi : i < l.length) :
    ∃ ci r, R l[i] ci ∧ AV.tolds (ci ++ r) = true ∧ ∀ (hh : Heap) (kk : IntKind), iaV hh z none v (.int kk (i : Int)) = .val (.rp (ci ++ r)) hh := by
  rcases h.2 with ⟨rfl, rfl⟩ | ⟨c, rfl, hc⟩
  · simp at hi
  · obtain ⟨ci, r, e, hr⟩ := hc.at hz i hi
    refine ⟨ci, r, hr, by rw [← e]; exact tolds_drop _ (hc.told ht), fun hh kk => ?_⟩
    rw [iaV_rs, if_pos ⟨by omega, by omega⟩]
    rw [Int.toNat_natCast, e]
theorem isL_nil (b : Nat) (R : α → List AV → Prop) : IsL b R .nils [] := ⟨by simp, .inl ⟨rfl, rfl⟩⟩
theorem isL_rs {b : Nat} {R : α → List AV → Prop} {l : List α} {c : List AV} (h : Cat R l c) (hb : l.length * b ≤ reachBytes) : IsL b R (.rs c l.length) l := ⟨hb, .inr ⟨c, rfl, h⟩⟩
/-- out of what a law is handed -/
theorem Wn.cat {ss : List Sh} (hR : ∀ c, Ws ss c → ∃ a, R a c) : ∀ {n : Nat} {c : List AV}, Wn ss n c → ∃ l : List α, l.length = n ∧ Cat R l c
  | _, _, .nil _ => ⟨[], rfl, .nil⟩
  | _, _, .cons h t => by
    obtain ⟨a, ha⟩ := hR _ h
    obtain ⟨l, e, hl⟩ := Wn.cat hR t
    exact ⟨a :: l, by simp [e], .cons ha hl⟩
theorem W.isL {ss : List Sh} (hR : ∀ c, Ws ss c → ∃ a, R a c) {v : AV} (h : W (.sl b ss) v) : ∃ l, IsL b R v l := by
  cases h with
  | nils => exact ⟨[], isL_nil _ _⟩
  | rs h hb =>
    obtain ⟨l, e, hl⟩ := h.cat hR
    exact ⟨l, by rw [e]; exact hb, .inr ⟨_, by rw [e], hl⟩⟩
end
structure Pt where
  x : Int
  y : Int
structure Feat where
  id : Int
  shape : Int
  rings : List (List Pt)
structure Mp where
  epoch : Int
  starts : List Int
  owners : List Int
structure Op where
  kind : Int
  f : Feat
  id : Int
  m : Mp
instance : DecidableEq Pt := fun a b => if h : a.x = b.x ∧ a.y = b.y then isTrue (by cases a; cases b; simp_all) else isFalse (by rintro rfl; simp at h)
def RInt (n : Int) (c : List AV) : Prop := c = [.int .i64 n] ∧ I64 n
def RPt (p : Pt) (c : List AV) : Prop := c = [.int .i64 p.x, .int .i64 p.y] ∧ I64 p.x ∧ I64 p.y
def RRing (r : List Pt) (c : List AV) : Prop := ∃ v, c = [v] ∧ IsL 16 RPt v r
def RFeat (f : Feat) (c : List AV) : Prop := ∃ v, c = [.int .i64 f.id, .int .i64 f.shape, v] ∧ I64 f.id ∧ I64 f.shape ∧ IsL 24 RRing v f.rings
def RMp (m : Mp) (c : List AV) : Prop := ∃ v u, c = [.int .i64 m.epoch, v, u] ∧ I64 m.epoch ∧ IsL 8 RInt v m.starts ∧ IsL 8 RInt u m.owners
def ROp (o : Op) (c : List AV) : Prop := ∃ v a u, c = [.int .i64 o.kind, .int .i64 o.f.id, .int .i64 o.f.shape, v, .int .i64 o.id, .int .i64 o.m.epoch, a, u] ∧
  I64 o.kind ∧ I64 o.f.id ∧ I64 o.f.shape ∧ IsL 24 RRing v o.f.rings ∧ I64 o.id ∧ I64 o.m.epoch ∧ IsL 8 RInt a o.m.starts ∧ IsL 8 RInt u o.m.owners
theorem zInt (a : Int) (c : List AV) (h : RInt a c) : c.length = 1 := by rw [h.1]; rfl
theorem zPt (a : Pt) (c : List AV) (h : RPt a c) : c.length = 2 := by rw [h.1]; rfl
theorem zRing (a : List Pt) (c : List AV) (h : RRing a c) : c.length = 1 := by obtain ⟨v, rfl, _⟩ := h; rfl
theorem zOp (a : Op) (c : List AV) (h : ROp a c) : c.length = 8 := by obtain ⟨v, b, u, rfl, _⟩ := h; rfl
theorem tInt (a : Int) (c : List AV) (h : RInt a c) : AV.tolds c = true := by rw [h.1]; rfl
theorem tPt (a : Pt) (c : List AV) (h : RPt a c) : AV.tolds c = true := by rw [h.1]; rfl
theorem tRing (a : List Pt) (c : List AV) (h : RRing a c) : AV.tolds c = true := by
  obtain ⟨v, rfl, h⟩ := h
  simp [AV.tolds, h.told tPt]
theorem tFeat (a : Feat) (c : List AV) (h : RFeat a c) : AV.tolds c = true := by
  obtain ⟨v, rfl, _, _, h⟩ := h
  simp [AV.tolds, AV.told, h.told tRing]
theorem tOp (a : Op) (c : List AV) (h : ROp a c) : AV.tolds c = true := by
  obtain ⟨v, x, u, rfl, _, _, _, h, _, _, h1, h2⟩ := h
  simp [AV.tolds, AV.told, h.told tRing, h1.told tInt, h2.told tInt]
theorem wInt (c : List AV) (h : Ws [.int .i64] c) : ∃ a, RInt a c := by
  cases h with | cons h t => cases t; cases h with | int k n hw => exact ⟨n, rfl, i64_wf hw⟩
theorem wPt (c : List AV) (h : Ws [.int .i64, .int .i64] c) : ∃ a, RPt a c := by
  cases h with | cons h t => cases t with | cons h' t => cases t; cases h with | int k n hw => cases h' with | int k m hw' => exact ⟨⟨n, m⟩, rfl, i64_wf hw, i64_wf hw'⟩
abbrev shRing : Sh := .sl 16 [.int .i64, .int .i64]
theorem wRing (c : List AV) (h : Ws [shRing] c) : ∃ a, RRing a c := by
  cases h with | cons h t => cases t; obtain ⟨l, hl⟩ := h.isL wPt; exact ⟨l, _, rfl, hl⟩
abbrev shFeat : List Sh := [.int .i64, .int .i64, .sl 24 [shRing]]
theorem wFeat (c : List AV) (h : Ws shFeat c) : ∃ a, RFeat a c := by
  cases h with | cons h1 t => cases t with | cons h2 t => cases t with | cons h3 t =>
    cases t; cases h1 with | int k n hw => cases h2 with | int k m hw' =>
      obtain ⟨l, hl⟩ := h3.isL wRing
      exact ⟨⟨n, m, l⟩, _, rfl, i64_wf hw, i64_wf hw', hl⟩
end Go.Proofs.Ythmkenkjfmbkiaa.VM
namespace Go.Proofs.Ythmkenkjfmbkiaa.VM
open Go.RowKit
/-- nothing of what was there is changed -/
def Ext (h h' : Heap) : Prop := h.next ≤ h'.next ∧ ∀ b, b < h.next → h'.get b = h.get b
theorem Ext.refl (h : Heap) : Ext h h := ⟨Nat.le_refl _, fun _ _ => rfl⟩
theorem Ext.trans {a b c : Heap} (x : Ext a b) (y : Ext b c) : Ext a c := ⟨Nat.le_trans x.1 y.1, fun n hn => (y.2 n (Nat.lt_of_lt_of_le hn x.1)).trans (x.2 n hn)⟩
theorem Ext.mk {h : Heap} (x : Blk) : Ext h (h.mk' h.next x) := ⟨by rw [mk_next]; omega, fun b hb => by rw [Heap.get_mk, if_neg (by omega)]⟩
mutual
/-- A live value, told; the blocks that it reaches, in their row. -/
inductive Fd (h : Heap) : AV → AV → List Nat → Prop
  | told {x : AV} (hx : x.told = true) : Fd h x x []
  | sl {b off len cap sz : Nat} {l cs cs' : List AV} {e : TypeId} {ver : Nat} {D : List Nat} (hl : 0 < len) (hn : b < h.next) (hg : h.get b = some (.cells l e ver)) (hc : cut l off (len * sz) = some cs) (t : Fds h cs cs' D) : Fd h (.sl b off len cap sz) (.rs cs' len) (b :: D)
  | sl0 {b off cap sz : Nat} : Fd h (.sl b off 0 cap sz) (.rs [] 0) []
  | ptr {b off : Nat} {l cs' : List AV} {e : TypeId} {ver : Nat} {D : List Nat} (hn : b < h.next) (hg : h.get b = some (.cells l e ver)) (t : Fds h (l.drop off) cs' D) : Fd h (.ptr b off) (.rp cs') (b :: D)
  | agg {l l' : List AV} {D : List Nat} (t : Fds h l l' D) : Fd h (.agg l) (.agg l') D
  | tup {l l' : List AV} {D : List Nat} (t : Fds h l l' D) : Fd h (.tup l) (.tup l') D
inductive Fds (h : Heap) : List AV → List AV → List Nat → Prop
  | nil : Fds h [] [] []
  | cons {x y : AV} {l k : List AV} {D E : List Nat} (f : Fd h x y D) (t : Fds h l k E) : Fds h (x :: l) (y :: k) (D ++ E)
end
section
variable {h h' : Heap}
theorem Fds.tolds : ∀ {l : List AV}, AV.tolds l = true → Fds h l l []
  | [], _ => .nil
  | x :: l, e => by
    simp only [AV.tolds, Bool.and_eq_true] at e
    exact .cons (D := []) (.told e.1) (Fds.tolds e.2)
theorem Fds.app : ∀ {l l' k k' : List AV} {D E : List Nat}, Fds h l k D → Fds h l' k' E → Fds h (l ++ l') (k ++ k') (D ++ E)
  | _, _, _, _, _, _, .nil, t => t
  | _, _, _, _, _, _, .cons f t, t' => by rw [List.append_assoc]; exact .cons f (t.app t')
theorem Fds.length : ∀ {l k : List AV} {D : List Nat}, Fds h l k D → k.length = l.length
  | _, _, _, .nil => rfl
  | _, _, _, .cons _ t => by simp [t.length]
theorem Fds.cast {l k : List AV} {D E : List Nat} (t : Fds h l k D) (e : D = E) : Fds h l k E := e ▸ t
theorem Fd.cast {l k : AV} {D E : List Nat} (t : Fd h l k D) (e : D = E) : Fd h l k E := e ▸ t
mutual
theorem Fd.fz : ∀ {x y : AV} {D : List Nat}, Fd h x y D → Fz true h x y
  | _, _, _, .told hx => Fz.refl hx
  | _, _, _, .sl hl _ hg hc t => .sl hl hg hc t.fzs
  | _, _, _, .sl0 => .sl0
  | _, _, _, .ptr _ hg t => .ptr hg t.fzs
  | _, _, _, .agg t => .agg t.fzs
  | _, _, _, .tup t => .tup t.fzs
theorem Fds.fzs : ∀ {x y : List AV} {D : List Nat}, Fds h x y D → Fzs true h x y
  | _, _, _, .nil => .nil
  | _, _, _, .cons f t => .cons f.fz t.fzs
end
mutual
theorem Fd.frame (hn : h.next ≤ h'.next) : ∀ {x y : AV} {D : List Nat}, Fd h x y D → (∀ b ∈ D, h'.get b = h.get b) → Fd h' x y D
  | _, _, _, .told hx, _ => .told hx
  | _, _, _, .sl hl hb hg hc t, k => .sl hl (Nat.lt_of_lt_of_le hb hn) ((k _ List.mem_cons_self).trans hg) hc (t.frame hn fun b hb => k b (List.mem_cons_of_mem _ hb))
  | _, _, _, .sl0, _ => .sl0
  | _, _, _, .ptr hb hg t, k => .ptr (Nat.lt_of_lt_of_le hb hn) ((k _ List.mem_cons_self).trans hg) (t.frame hn fun b hb => k b (List.mem_cons_of_mem _ hb))
  | _, _, _, .agg t, k => .agg (t.frame hn k)
  | _, _, _, .tup t, k => .tup (t.frame hn k)
theorem Fds.frame (hn : h.next ≤ h'.next) : ∀ {x y : List AV} {D : List Nat}, Fds h x y D → (∀ b ∈ D, h'.get b = h.get b) → Fds h' x y D
  | _, _, _, .nil, _ => .nil
  | _, _, _, .cons f t, k => .cons (f.frame hn fun b hb => k b (List.mem_append_left _ hb)) (t.frame hn fun b hb => k b (List.mem_append_right _ hb))
end
mutual
theorem Fd.lt : ∀ {x y : AV} {D : List Nat}, Fd h x y D → ∀ b ∈ D, b < h.next
  | _, _, _, .told hx => fun b hb => by simp at hb
  | _, _, _, .sl hl hb hg hc t => fun b h => by rcases List.mem_cons.1 h with rfl | h; exact hb; exact t.lt b h
  | _, _, _, .sl0 => fun b hb => by simp at hb
  | _, _, _, .ptr hb hg t => fun b h => by rcases List.mem_cons.1 h with rfl | h; exact hb; exact t.lt b h
  | _, _, _, .agg t => t.lt
  | _, _, _, .tup t => t.lt
theorem Fds.lt : ∀ {x y : List AV} {D : List Nat}, Fds h x y D → ∀ b ∈ D, b < h.next
  | _, _, _, .nil => fun b hb => by simp at hb
  | _, _, _, .cons f t => fun b h => by rcases List.mem_append.1 h with h | h; exact f.lt b h; exact t.lt b h
end
theorem Fd.ext {x y : AV} {D : List Nat} (f : Fd h x y D) (e : Ext h h') : Fd h' x y D := f.frame e.1 fun b hb => e.2 b (f.lt b hb)
theorem Fds.ext {x y : List AV} {D : List Nat} (f : Fds h x y D) (e : Ext h h') : Fds h' x y D := f.frame e.1 fun b hb => e.2 b (f.lt b hb)
end
mutual
/-- numbers, truths, texts, slices and structs of them: nothing told, no functions, no maps -/
def AV.bare : AV → Bool
  | .undef | .bool _ | .int .. | .str _ | .nilp | .nils | .nilm | .nilf | .ptr .. | .sl .. => true
  | .agg l | .tup l => AV.bares l
  | _ => false
def AV.bares : List AV → Bool
  | [] => true
  | x :: l => x.bare && AV.bares l
end
theorem bares_app : ∀ {l k : List AV}, AV.bares (l ++ k) = (AV.bares l && AV.bares k)
  | [], _ => by simp [AV.bares]
  | x :: l, k => by rw [List.cons_append, AV.bares, AV.bares, bares_app, Bool.and_assoc]
/-- all that is reached is bare, block by block -/
def Own (h : Heap) (D : List Nat) : Prop := ∀ b ∈ D, ∃ l e ver, h.get b = some (.cells l e ver) ∧ AV.bares l = true
mutual
def sh (n : Nat) : AV → AV
  | .ptr b off => .ptr (n + b) off
  | .sl b off len cap sz => .sl (n + b) off len cap sz
  | .agg l => .agg (shs n l)
  | .tup l => .tup (shs n l)
  | x => x
def shs (n : Nat) : List AV → List AV
  | [] => []
  | x :: l => sh n x :: shs n l
end
theorem shs_map (n : Nat) : ∀ l, shs n l = l.map (sh n)
  | [] => rfl
  | x :: l => by rw [shs, List.map_cons, shs_map]
section
variable {φ φ2 : Env} {w : World} {n : Nat}
mutual
theorem VR.sh (h2 : ∀ b p, φ b = some p → φ2 (n + b) = some p) : ∀ {x : AV} {u : Value}, VR φ w x u → x.bare = true → VR φ2 w (VM.sh n x) u
  | _, _, .undef, _ => .undef
  | _, _, .bool b, _ => .bool b
  | _, _, .int k n, _ => .int k n
  | _, _, .str s, _ => .str s
  | _, _, .ptr h, _ => .ptr (h2 _ _ h)
  | _, _, .nilp, _ => .nilp
  | _, _, .sl h hc hl hs hr, _ => .sl (h2 _ _ h) hc hl hs hr
  | _, _, .sl0 a, _ => .sl0 a
  | _, _, .nils, _ => .nils
  | _, _, .map h, e => by cases e
  | _, _, .nilm, _ => .nilm
  | _, _, .fn _ h, e => by cases e
  | _, _, .yld h, e => by cases e
  | _, _, .nilf, _ => .nilf
  | _, _, .agg h, e => .agg (VRs.sh h2 h e)
  | _, _, .tup h, e => .tup (VRs.sh h2 h e)
  | _, _, .rs .., e => by cases e
  | _, _, .rs0 .., e => by cases e
  | _, _, .rp .., e => by cases e
theorem VRs.sh (h2 : ∀ b p, φ b = some p → φ2 (n + b) = some p) : ∀ {x : List AV} {u : List Value}, VRs φ w x u → AV.bares x = true → VRs φ2 w (VM.shs n x) u
  | _, _, .nil, _ => .nil
  | _, _, .cons h t, e => by
    simp only [AV.bares, Bool.and_eq_true] at e
    exact .cons (VR.sh h2 h e.1) (VRs.sh h2 t e.2)
end
theorem VRm.sh (h2 : ∀ b p, φ b = some p → φ2 (n + b) = some p) : ∀ {x : List AV} {B o : Nat}, VRm φ w x B o → AV.bares x = true → VRm φ2 w (VM.shs n x) B o
  | _, _, _, .nil, _ => .nil
  | _, _, _, .cons hc h t, e => by
    simp only [AV.bares, Bool.and_eq_true] at e
    exact .cons hc (VR.sh h2 h e.1) (VRm.sh h2 t e.2)
end
theorem shs_cut {n : Nat} {l cs : List AV} {i m : Nat} (h : cut l i m = some cs) : cut (shs n l) i m = some (shs n cs) := by
  rw [cut_eq] at h ⊢
  split at h
  · rename_i e
    cases h
    rw [shs_map, shs_map, ← List.map_drop, ← List.map_take, List.length_map, if_pos e]
  · cases h
theorem shs_drop (n : Nat) (l : List AV) (i : Nat) : shs n (l.drop i) = (shs n l).drop i := by rw [shs_map, shs_map, List.map_drop]
/-- memory with new blocks behind it -/
def lay (h : Heap) (h0 : Heap) (D : List Nat) : Nat → T Blk
  | 0 => h.t
  | m + 1 => (lay h h0 D m).set (h.next + m) (if m ∈ D then (match h0.get m with
    | some (.cells l e ver) => .cells (shs h.next l) e ver
    | _ => .dead) else .dead)
theorem lay_get (h h0 : Heap) (D : List Nat) (b : Nat) : ∀ m, (lay h h0 D m).get b = if h.next ≤ b ∧ b < h.next + m then some (if b - h.next ∈ D then (match h0.get (b - h.next) with
    | some (.cells l e ver) => .cells (shs h.next l) e ver
    | _ => .dead) else .dead) else h.get b
  | 0 => by rw [if_neg (by omega)]; rfl
  | m + 1 => by
    rw [lay, T.get_set, lay_get h h0 D b m]
    by_cases e : b = h.next + m
    · subst e
      rw [if_pos rfl, if_pos (show h.next ≤ h.next + m ∧ h.next + m < h.next + (m + 1) from ⟨by omega, by omega⟩), Nat.add_sub_cancel_left]
    · rw [if_neg e]
      by_cases c : h.next ≤ b ∧ b < h.next + m
      · rw [if_pos c, if_pos (show h.next ≤ b ∧ b < h.next + (m + 1) from ⟨by omega, by omega⟩)]
      · rw [if_neg c, if_neg (show ¬ (h.next ≤ b ∧ b < h.next + (m + 1)) from by omega)]
def laid (h h0 : Heap) (D : List Nat) : Heap := ⟨h.next + h0.next, lay h h0 D h0.next⟩
theorem laid_old {h h0 : Heap} {D : List Nat} {b : Nat} (hb : b < h.next) : (laid h h0 D).get b = h.get b := by
  show (lay h h0 D h0.next).get b = _
  rw [lay_get, if_neg (by omega)]
theorem laid_new {h h0 : Heap} {D : List Nat} {b : Nat} {l : List AV} {e : TypeId} {ver : Nat} (hb : b < h0.next) (hD : b ∈ D) (hg : h0.get b = some (.cells l e ver)) : (laid h h0 D).get (h.next + b) = some (.cells (shs h.next l) e ver) := by
  show (lay h h0 D h0.next).get (h.next + b) = _
  rw [lay_get, if_pos ⟨by omega, by omega⟩, Nat.add_sub_cancel_left, if_pos hD, hg]
theorem laid_ext (h h0 : Heap) (D : List Nat) : Ext h (laid h h0 D) := ⟨Nat.le_add_right _ _, fun _ hb => laid_old hb⟩
section
variable {P : Program}
/-- A call that was shown in an empty memory, in any memory: what it makes is laid behind it. -/
theorem OK.laid {f : Nat} {args args' : List AV} {h h0 : Heap} {v : AV} {D : List Nat} (ha : Fzs true h args args') (o : OK P f args' ⟨0, .e⟩ v h0) (hv : v.bare = true) (hD : Own h0 D) (hlt : ∀ b ∈ D, b < h0.next) :
    OK P f args h (sh h.next v) (VM.laid h h0 D) := by
  obtain ⟨hly, he, o⟩ := o.old (.inl fun r e => by cases e)
  refine .inl ⟨hly, he, fun φ w us hr hus => ?_⟩
  have hus' : VRs none0 w args' us.toList := Fzs.vrs hr (fun _ _ _ _ c p e => by cases e) (fun _ _ => rfl) ha hus
  refine Calls.mono (o none0 w us (hr_empty w) hus') ?_
  rintro e w' ⟨φ', u, rfl, hvu, hr', hu⟩
  have old : ∀ b p, φ b = some p → b < h.next := fun b p hb => by
    rcases Nat.lt_or_ge b h.next with c | c
    · exact c
    · have := hr.blk b
      rw [hr.next b c] at this
      rw [show φ b = none from this] at hb; cases hb
  have new' : ∀ b B o, φ' b = some (B, o) → w.heap.size ≤ B := fun b B o hb => by
    rcases hu.new b B o hb with ⟨_, _, c⟩ | c
    · cases c
    · exact c
  have keep : ∀ B, B < w.heap.size → w'.heap[B]? = w.heap[B]? := fun B hB => hu.keep B hB fun _ _ c => by cases c
  let φ2 : Env := fun b => if b < h.next then φ b else φ' (b - h.next)
  have f1 : ∀ b, b < h.next → φ2 b = φ b := fun b hb => if_pos hb
  have f2 : ∀ b, φ2 (h.next + b) = φ' b := fun b => by
    show (if h.next + b < h.next then _ else _) = _
    rw [if_neg (by omega), Nat.add_sub_cancel_left]
  have f2' : ∀ b, h.next ≤ b → φ2 b = φ' (b - h.next) := fun b hb => if_neg (by omega)
  have hU : Upd φ w φ2 w' := ⟨hu.os, hu.tape, hu.output, hu.size, fun b p hb => by rw [f1 b (old b p hb)]; exact hb, fun b B o hb => by
      rcases Nat.lt_or_ge b h.next with c | c
      · rw [f1 b c] at hb; exact .inl ⟨_, _, hb⟩
      · rw [f2' b c] at hb; exact .inr (new' _ _ _ hb), fun B hB _ => keep B hB, hu.shape, hu.drawn⟩
  have g2 : ∀ b, h.next ≤ b → ((VM.laid h h0 D).get b = some .dead ∨ (∃ l e ver, b - h.next ∈ D ∧ h0.get (b - h.next) = some (.cells l e ver) ∧ AV.bares l = true ∧ (VM.laid h h0 D).get b = some (.cells (shs h.next l) e ver)) ∨ (h0.next ≤ b - h.next ∧ (VM.laid h h0 D).get b = none)) := fun b hb => by
    by_cases c : b - h.next ∈ D
    · obtain ⟨l, e, ver, q1, q2⟩ := hD _ c
      refine .inr (.inl ⟨l, e, ver, c, q1, q2, ?_⟩)
      have := laid_new (h := h) (hlt _ c) c q1
      rwa [show h.next + (b - h.next) = b by omega] at this
    · have : (VM.laid h h0 D).get b = if h.next ≤ b ∧ b < h.next + h0.next then some .dead else h.get b := by
        show (lay h h0 D h0.next).get b = _
        rw [lay_get, if_neg c]
      rw [this]
      by_cases c2 : b < h.next + h0.next
      · rw [if_pos ⟨hb, c2⟩]; exact .inl rfl
      · rw [if_neg (by omega), hr.next b hb]; exact .inr (.inr ⟨by omega, rfl⟩)
  refine ⟨φ2, u, rfl, hvu.sh (fun b p hb => by rw [f2]; exact hb) hv, ⟨fun b => ?_, fun b p hb => ?_, fun b b' p p' hl hl' hp hp' he => ?_, fun b hb => ?_⟩, ?_⟩
  · rcases Nat.lt_or_ge b h.next with c | c
    · rw [laid_old c]
      cases hl : live (h.get b) with
      | true => exact BR.upd hr hU hl fun p hp => keep _ (hr.lt _ _ hp)
      | false =>
        have hb := hr.blk b
        rcases not_live (x := h.get b) (by rw [hl]; simp) with e | e
        · rw [e] at hb ⊢
          exact (f1 b c).trans hb
        · rw [e]; trivial
    · rcases g2 b c with e | ⟨l, e, ver, q0, q1, q2, q3⟩ | ⟨e1, e⟩
      · rw [e]; trivial
      · rw [q3]
        have hb := hr'.blk (b - h.next)
        rw [q1] at hb
        obtain ⟨B, o, e', n, h1, h2, h3, h4, h5⟩ := hb
        exact ⟨B, o, e', n, by rw [f2' b c]; exact h1, h2, h3.sh (fun b p hb => by rw [f2]; exact hb) q2, h4, by rw [shs_map, List.length_map]; exact h5⟩
      · rw [e]
        have hb := hr'.blk (b - h.next)
        rw [hr'.next _ e1] at hb
        exact (f2' b c).trans hb
  · rcases Nat.lt_or_ge b h.next with c | c
    · rw [f1 b c] at hb
      exact Nat.lt_of_lt_of_le (hr.lt _ _ hb) hu.size
    · rw [f2' b c] at hb
      exact hr'.lt _ _ hb
  · rcases Nat.lt_or_ge b h.next with c | c <;> rcases Nat.lt_or_ge b' h.next with c' | c'
    · rw [f1 b c] at hp; rw [f1 b' c'] at hp'
      rw [laid_old c] at hl; rw [laid_old c'] at hl'
      exact hr.inj b b' p p' hl hl' hp hp' he
    · rw [f1 b c] at hp; rw [f2' b' c'] at hp'
      have := hr.lt _ _ hp
      have := new' _ p'.1 p'.2 hp'
      omega
    · rw [f2' b c] at hp; rw [f1 b' c'] at hp'
      have := hr.lt _ _ hp'
      have := new' _ p.1 p.2 hp
      omega
    · rw [f2' b c] at hp; rw [f2' b' c'] at hp'
      have L : ∀ d, h.next ≤ d → live ((VM.laid h h0 D).get d) = true → live (h0.get (d - h.next)) = true := fun d hd hl => by
        rcases g2 d hd with e | ⟨l, e, ver, q0, q1, q2, q3⟩ | ⟨_, e⟩
        · rw [e] at hl; cases hl
        · rw [q1]; rfl
        · rw [e] at hl; cases hl
      have := hr'.inj _ _ p p' (L b c hl) (L b' c' hl') hp hp' he
      omega
  · have hb' : h.next + h0.next ≤ b := hb
    rcases g2 b (by omega) with e | ⟨l, e, ver, q0, _⟩ | ⟨_, e⟩
    · exfalso
      have : (VM.laid h h0 D).get b = h.get b := by
        show (lay h h0 D h0.next).get b = _
        rw [lay_get, if_neg (by omega)]
      rw [this, hr.next b (by omega)] at e; cases e
    · have := hlt _ q0; omega
    · exact e
  · have oldg : ∀ b, h.get b ≠ none → b < h.next := fun b hb => by
      rcases Nat.lt_or_ge b h.next with c | c
      · exact c
      · exact absurd (hr.next b c) hb
    exact { toUpd := hU, keepL := fun B hB _ => keep B hB
            deadL := fun b h1 h2 => by rw [laid_old (oldg b h1)]; exact ⟨h1, h2, f1 b (oldg b h1)⟩
            newL := fun b B o h1 h2 => by
              rcases Nat.lt_or_ge b h.next with c | c
              · rw [laid_old c] at h1; rw [f1 b c] at h2; exact .inl ⟨_, _, h1, h2⟩
              · rw [f2' b c] at h2; exact .inr (new' _ _ _ h2)
            stay := fun b h1 => by rw [laid_old (oldg b h1)]; exact h1 }
end
def blkOf : AV → List Nat
  | .sl b .. => [b]
  | _ => []
/-- a slice over the whole of its block, or none -/
def Row (h : Heap) (v : AV) (sz : Nat) (cs : List AV) (n : Nat) : Prop :=
  (v = .nils ∧ n = 0 ∧ cs = []) ∨ ∃ b e ver, v = .sl b 0 n n sz ∧ 0 < n ∧ b < h.next ∧ cs.length = n * sz ∧ h.get b = some (.cells cs e ver)
theorem Row.nil (h : Heap) (sz : Nat) : Row h .nils sz [] 0 := .inl ⟨rfl, rfl, rfl⟩
theorem Row.len {h : Heap} {v : AV} {sz n : Nat} {cs : List AV} (r : Row h v sz cs n) (hh : Heap) : lnV hh v = .val (.int .i64 n) hh := by
  rcases r with ⟨rfl, rfl, rfl⟩ | ⟨b, e, ver, rfl, _⟩ <;> rfl
theorem Row.one {h : Heap} {v : AV} {sz n : Nat} {cs : List AV} (r : Row h v sz cs n) : v.one = true := by
  rcases r with ⟨rfl, rfl, rfl⟩ | ⟨b, e, ver, rfl, _⟩ <;> rfl
theorem Row.bare {h : Heap} {v : AV} {sz n : Nat} {cs : List AV} (r : Row h v sz cs n) : v.bare = true := by
  rcases r with ⟨rfl, rfl, rfl⟩ | ⟨b, e, ver, rfl, _⟩ <;> rfl
theorem Row.lt {h : Heap} {v : AV} {sz n : Nat} {cs : List AV} (r : Row h v sz cs n) : ∀ b ∈ blkOf v, b < h.next := by
  rcases r with ⟨rfl, rfl, rfl⟩ | ⟨b, e, ver, rfl, _, h1, _⟩
  · intro b hb; simp [blkOf] at hb
  · intro c hc; simp [blkOf] at hc; omega
theorem Row.frame {h h' : Heap} {v : AV} {sz n : Nat} {cs : List AV} (r : Row h v sz cs n) (hn : h.next ≤ h'.next) (hg : ∀ b ∈ blkOf v, h'.get b = h.get b) : Row h' v sz cs n := by
  rcases r with ⟨rfl, rfl, rfl⟩ | ⟨b, e, ver, rfl, h0, h1, h2, h3⟩
  · exact .nil _ _
  · exact .inr ⟨b, e, ver, rfl, h0, by omega, h2, (hg b (by simp [blkOf])).trans h3⟩
theorem Row.ext {h h' : Heap} {v : AV} {sz n : Nat} {cs : List AV} (r : Row h v sz cs n) (e : Ext h h') : Row h' v sz cs n := r.frame e.1 fun b hb => e.2 b (r.lt b hb)
theorem Row.length {h : Heap} {v : AV} {sz n : Nat} {cs : List AV} (r : Row h v sz cs n) : cs.length = n * sz := by
  rcases r with ⟨rfl, rfl, rfl⟩ | ⟨b, e, ver, rfl, _, _, h2, _⟩
  · simp
  · exact h2
theorem cells_of {h : Heap} {b n sz : Nat} {c : List AV} {e : TypeId} {ver : Nat} (hg : h.get b = some (.cells c e ver)) (hl : c.length = n * sz) (cap : Nat) : cellsOf h sz n (.sl b 0 n cap sz) = some c := by
  simp only [cellsOf, Nat.le_refl, if_true, hg, cut_eq, List.drop_zero, ← hl, List.take_length]
/-- elements are put behind -/
theorem Row.append {h : Heap} {v x : AV} {sz n m : Nat} {cs c : List AV} (r : Row h v sz cs n) (hx : cellsOf h sz m x = some c) (hlx : lenV x = some m) (hm : 0 < m) (hl : c.length = m * sz) (ho : c.all AV.one = true) {bytes : Nat} (hb : (n + m) * bytes ≤ most2) (e : TypeId) :
    ∃ h', appendV h sz bytes e v x = some (.sl h.next 0 (n + m) (n + m) sz, h') ∧ Row h' (.sl h.next 0 (n + m) (n + m) sz) sz (cs ++ c) (n + m) ∧ h'.next = h.next + 1 ∧ ∀ b, b ∉ blkOf v → b ≠ h.next → h'.get b = h.get b := by
  rcases r with ⟨rfl, rfl, rfl⟩ | ⟨b, e0, ver, rfl, h0, h1, h2, h3⟩
  · refine ⟨h.mk' h.next (.cells c e 0), ?_, .inr ⟨h.next, e, 0, rfl, by omega, by rw [mk_next]; omega, by rw [List.nil_append, hl, Nat.zero_add], by rw [Heap.get_mk, if_pos rfl, List.nil_append]⟩, by rw [mk_next]; omega, fun b _ hb => by rw [Heap.get_mk, if_neg hb]⟩
    simp only [appendV, hlx, hx, hl, ho, and_self, if_true]
    rw [if_neg (by omega), if_pos (by rwa [Nat.zero_add] at hb), Nat.zero_add]
  · refine ⟨(h.put b .dead).mk' h.next (.cells (cs ++ c) e 0), ?_, .inr ⟨h.next, e, 0, rfl, by omega, ?_, ?_, by rw [Heap.get_mk, if_pos rfl]⟩, ?_, fun b' hb' hb => ?_⟩
    · have hbq : Nat.beq sz sz = true := by rw [Nat.beq_eq]
      simp only [appendV, hlx, hx, hl, ho, and_self, if_true, hbq, cond_true, cells_of h3 h2]
      rw [if_neg (by omega), if_pos hb]
    · rw [mk_next, put_next]; omega
    · rw [List.length_append, h2, hl, Nat.add_mul]
    · rw [mk_next, put_next]; omega
    · rw [Heap.get_mk, if_neg hb, Heap.get_put, if_neg (by simpa [blkOf] using hb')]
/-- one element of a literal -/
theorem Row.push {h : Heap} {v : AV} {sz n nb : Nat} {cs c : List AV} (r : Row h v sz cs n) {eb : TypeId} {vb : Nat} (hg : h.get nb = some (.cells c eb vb)) (hl : c.length = sz) (ho : c.all AV.one = true) {bytes : Nat} (hb : (n + 1) * bytes ≤ most2) (e : TypeId) :
    ∃ h', appendV h sz bytes e v (.sl nb 0 1 1 sz) = some (.sl h.next 0 (n + 1) (n + 1) sz, h') ∧ Row h' (.sl h.next 0 (n + 1) (n + 1) sz) sz (cs ++ c) (n + 1) ∧ h'.next = h.next + 1 ∧ ∀ b, b ∉ blkOf v → b ≠ h.next → h'.get b = h.get b :=
  r.append (cells_of hg (by rw [hl, Nat.one_mul]) 1) rfl (by decide) (by rw [hl, Nat.one_mul]) ho hb e
/-- its cells told -/
theorem Row.fd {h : Heap} {v : AV} {sz n : Nat} {cs cs' : List AV} {D : List Nat} (r : Row h v sz cs n) (t : Fds h cs cs' D) : ∃ v', Fd h v v' (blkOf v ++ D) ∧ ((v' = .nils ∧ n = 0) ∨ v' = .rs cs' n) := by
  rcases r with ⟨rfl, rfl, rfl⟩ | ⟨b, e0, ver, rfl, h0, h1, h2, h3⟩
  · cases t
    exact ⟨_, .told rfl, .inl ⟨rfl, rfl⟩⟩
  · refine ⟨_, .sl h0 h1 h3 (cs := cs) ?_ t, .inr rfl⟩
    rw [cut_eq, List.drop_zero, ← h2, List.take_length, if_pos rfl]
/-- an element of a row, by its place -/
theorem Row.at {h : Heap} {v : AV} {sz n : Nat} {cs : List AV} (r : Row h v sz cs n) {i : Nat} (hi : i < n) : ∃ b e ver, v = .sl b 0 n n sz ∧ h.get b = some (.cells cs e ver) ∧ b < h.next ∧ ∀ (hh : Heap) (kk : IntKind), iaV hh sz none v (.int kk (i : Int)) = .val (.ptr b (i * sz)) hh := by
  rcases r with ⟨rfl, rfl, rfl⟩ | ⟨b, e0, ver, rfl, h0, h1, h2, h3⟩
  · omega
  · refine ⟨b, e0, ver, rfl, h3, h1, fun hh kk => ?_⟩
    rw [iaV_sl, if_pos ⟨by omega, by omega, rfl⟩, Int.toNat_natCast, Nat.zero_add]
end Go.Proofs.Ythmkenkjfmbkiaa.VM
namespace Go.Proofs.Ythmkenkjfmbkiaa.VM
theorem Own.frame {h h' : Heap} {D : List Nat} (o : Own h D) (k : ∀ b ∈ D, h'.get b = h.get b) : Own h' D := fun b hb => by
  obtain ⟨l, e, ver, h1, h2⟩ := o b hb
  exact ⟨l, e, ver, (k b hb).trans h1, h2⟩
theorem Own.app {h : Heap} {D E : List Nat} (o : Own h D) (p : Own h E) : Own h (D ++ E) := fun b hb => (List.mem_append.1 hb).elim (o b) (p b)
theorem Own.nil {h : Heap} : Own h [] := fun b hb => by simp at hb
/-- cells, told; all that they reach is bare and lies in B -/
def Lvs (h : Heap) (B : Nat → Prop) (l l' : List AV) : Prop := ∃ D, Fds h l l' D ∧ AV.bares l = true ∧ Own h D ∧ ∀ b ∈ D, B b
def Lv (h : Heap) (B : Nat → Prop) (x y : AV) : Prop := ∃ D, Fd h x y D ∧ x.bare = true ∧ Own h D ∧ ∀ b ∈ D, B b
section
variable {h h' : Heap} {B B' : Nat → Prop}
theorem Lv.frame {x y : AV} (l : Lv h B x y) (hn : h.next ≤ h'.next) (k : ∀ b, B b → b < h.next → h'.get b = h.get b) : Lv h' B x y := by
  obtain ⟨D, f, a, o, i⟩ := l
  exact ⟨D, f.frame hn fun b hb => k b (i b hb) (f.lt b hb), a, o.frame fun b hb => k b (i b hb) (f.lt b hb), i⟩
theorem Lvs.frame {x y : List AV} (l : Lvs h B x y) (hn : h.next ≤ h'.next) (k : ∀ b, B b → b < h.next → h'.get b = h.get b) : Lvs h' B x y := by
  obtain ⟨D, f, a, o, i⟩ := l
  exact ⟨D, f.frame hn fun b hb => k b (i b hb) (f.lt b hb), a, o.frame fun b hb => k b (i b hb) (f.lt b hb), i⟩
theorem Lv.weak {x y : AV} (l : Lv h B x y) (k : ∀ b, B b → b < h.next → B' b) : Lv h B' x y := by
  obtain ⟨D, f, a, o, i⟩ := l
  exact ⟨D, f, a, o, fun b hb => k b (i b hb) (f.lt b hb)⟩
theorem Lvs.weak {x y : List AV} (l : Lvs h B x y) (k : ∀ b, B b → b < h.next → B' b) : Lvs h B' x y := by
  obtain ⟨D, f, a, o, i⟩ := l
  exact ⟨D, f, a, o, fun b hb => k b (i b hb) (f.lt b hb)⟩
theorem Lvs.nil : Lvs h B [] [] := ⟨[], .nil, rfl, Own.nil, fun b hb => by simp at hb⟩
theorem Lvs.cons {x y : AV} {l k : List AV} (a : Lv h B x y) (t : Lvs h B l k) : Lvs h B (x :: l) (y :: k) := by
  obtain ⟨D, f, b, o, i⟩ := a
  obtain ⟨E, f', b', o', i'⟩ := t
  exact ⟨D ++ E, .cons f f', by simp [AV.bares, b, b'], o.app o', fun c hc => (List.mem_append.1 hc).elim (i c) (i' c)⟩
theorem Lvs.app {l k l' k' : List AV} (a : Lvs h B l k) (t : Lvs h B l' k') : Lvs h B (l ++ l') (k ++ k') := by
  obtain ⟨D, f, b, o, i⟩ := a
  obtain ⟨E, f', b', o', i'⟩ := t
  exact ⟨D ++ E, f.app f', by rw [bares_app, b, b']; rfl, o.app o', fun c hc => (List.mem_append.1 hc).elim (i c) (i' c)⟩
theorem Lv.told {x : AV} (a : x.told = true) (b : x.bare = true) : Lv h B x x := ⟨[], .told a, b, Own.nil, fun c hc => by simp at hc⟩
theorem Lvs.tolds {x : List AV} (a : AV.tolds x = true) (b : AV.bares x = true) : Lvs h B x x := ⟨[], Fds.tolds a, b, Own.nil, fun c hc => by simp at hc⟩
theorem Lv.int {k : IntKind} {n : Int} : Lv h B (.int k n) (.int k n) := .told rfl rfl
theorem Lv.bool {n : Bool} : Lv h B (.bool n) (.bool n) := .told rfl rfl
theorem Lv.nils : Lv h B .nils .nils := .told rfl rfl
theorem Lv.agg {l k : List AV} (t : Lvs h B l k) : Lv h B (.agg l) (.agg k) := by
  obtain ⟨D, f, b, o, i⟩ := t
  exact ⟨D, .agg f, b, o, i⟩
theorem Lv.fz {x y : AV} (l : Lv h B x y) : Fz true h x y := let ⟨_, f, _⟩ := l; f.fz
theorem Lvs.fzs {x y : List AV} (l : Lvs h B x y) : Fzs true h x y := let ⟨_, f, _⟩ := l; f.fzs
theorem Lvs.length {x y : List AV} (l : Lvs h B x y) : y.length = x.length := let ⟨_, f, _⟩ := l; f.length
/-- a row's slice, told -/
def cRow (l : List AV) (n : Nat) : AV := if n = 0 then .nils else .rs l n
theorem cRow_s (l : List AV) {n : Nat} (h : 0 < n) : cRow l n = .rs l n := if_neg (by omega)
/-- a row of one's own -/
def LR (h : Heap) (B : Nat → Prop) (v : AV) (sz : Nat) (told : List AV) (n : Nat) : Prop :=
  ∃ cs, Row h v sz cs n ∧ Lvs h (fun b => B b ∧ b ∉ blkOf v) cs told ∧ ∀ b ∈ blkOf v, B b
theorem LR.nil (h : Heap) (B : Nat → Prop) (sz : Nat) : LR h B .nils sz [] 0 := ⟨[], .nil _ _, .nil, fun b hb => by simp [blkOf] at hb⟩
theorem LR.one {v : AV} {sz n : Nat} {t : List AV} (r : LR h B v sz t n) : v.one = true := let ⟨_, r, _⟩ := r; r.one
theorem LR.len {v : AV} {sz n : Nat} {t : List AV} (r : LR h B v sz t n) (hh : Heap) : lnV hh v = .val (.int .i64 n) hh := let ⟨_, r, _⟩ := r; r.len hh
theorem LR.cells {v : AV} {sz n : Nat} {t : List AV} (r : LR h B v sz t n) : v.cells = some [v] := by
  obtain ⟨_, r, _⟩ := r
  rcases r with ⟨rfl, rfl, rfl⟩ | ⟨b, e, ver, rfl, _⟩ <;> rfl
theorem LR.frame {v : AV} {sz n : Nat} {t : List AV} (r : LR h B v sz t n) (hn : h.next ≤ h'.next) (k : ∀ b, B b → b < h.next → h'.get b = h.get b) : LR h' B v sz t n := by
  obtain ⟨cs, r, l, i⟩ := r
  exact ⟨cs, r.frame hn fun b hb => k b (i b hb) (r.lt b hb), l.frame hn fun b hb => k b hb.1, i⟩
theorem LR.weak {v : AV} {sz n : Nat} {t : List AV} (r : LR h B v sz t n) (k : ∀ b, B b → b < h.next → B' b) : LR h B' v sz t n := by
  obtain ⟨cs, r, l, i⟩ := r
  exact ⟨cs, r, l.weak fun b hb hl => ⟨k b hb.1 hl, hb.2⟩, fun b hb => k b (i b hb) (r.lt b hb)⟩
theorem LR.lv {v : AV} {sz n : Nat} {t : List AV} (r : LR h B v sz t n) : Lv h B v (cRow t n) := by
  obtain ⟨cs, r, ⟨D, f, hb0, o, i⟩, j⟩ := r
  obtain ⟨v', f', hv⟩ := r.fd f
  refine ⟨_, ?_, r.bare, ?_, fun b hb => (List.mem_append.1 hb).elim (j b) fun c => (i b c).1⟩
  · rcases hv with ⟨rfl, rfl⟩ | rfl
    · exact f'
    · rcases r with ⟨rfl, rfl, rfl⟩ | ⟨b, e0, ver, rfl, h0, _⟩
      · cases f'
      · rw [cRow_s _ h0]; exact f'
  · refine Own.app (fun b hb => ?_) o
    rcases r with ⟨rfl, rfl, rfl⟩ | ⟨b', e0, ver, rfl, h0, h1, h2, h3⟩
    · simp [blkOf] at hb
    · simp only [blkOf, List.mem_singleton] at hb
      subst hb
      exact ⟨_, _, _, h3, hb0⟩
/-- one more -/
theorem LR.push {v : AV} {sz n : Nat} {t : List AV} (r : LR h B v sz t n) {nb eb vb : Nat} {c t1 : List AV} (hg : h.get nb = some (.cells c eb vb)) (hl : c.length = sz) (ho : c.all AV.one = true) (l : Lvs h (fun b => B b ∧ b ∉ blkOf v) c t1) (hB : B h.next)
    {bytes : Nat} (hb : (n + 1) * bytes ≤ most2) (e : TypeId) :
    ∃ h', appendV h sz bytes e v (.sl nb 0 1 1 sz) = some (.sl h.next 0 (n + 1) (n + 1) sz, h') ∧ LR h' B (.sl h.next 0 (n + 1) (n + 1) sz) sz (t ++ t1) (n + 1) ∧ h'.next = h.next + 1 ∧ ∀ b, b ∉ blkOf v → b ≠ h.next → h'.get b = h.get b := by
  obtain ⟨cs, r, l0, i⟩ := r
  obtain ⟨h', e1, r', hn, k⟩ := r.push hg hl ho hb e
  have key : ∀ {x y : List AV}, Lvs h (fun b => B b ∧ b ∉ blkOf v) x y → Lvs h' (fun b => B b ∧ b ∉ blkOf (.sl h.next 0 (n + 1) (n + 1) sz)) x y := fun q =>
    (q.weak (B' := fun b => (B b ∧ b ∉ blkOf v) ∧ b ≠ h.next) fun b hb hlt => ⟨hb, by omega⟩).frame (by omega) (fun b hb _ => k b hb.1.2 hb.2) |>.weak fun b hb _ => ⟨hb.1.1, by simpa [blkOf] using hb.2⟩
  exact ⟨h', e1, ⟨_, r', (key l0).app (key l), fun b hb => by simp only [blkOf, List.mem_singleton] at hb; rw [hb]; exact hB⟩, hn, k⟩
theorem LR.lt {v : AV} {sz n : Nat} {t : List AV} (r : LR h B v sz t n) : ∀ b ∈ blkOf v, b < h.next := let ⟨_, r, _⟩ := r; r.lt
theorem LR.inB {v : AV} {sz n : Nat} {t : List AV} (r : LR h B v sz t n) : ∀ b ∈ blkOf v, B b := let ⟨_, _, _, i⟩ := r; i
end
/-- all but one block stays -/
def ExtX (x : Nat) (h h' : Heap) : Prop := h.next ≤ h'.next ∧ ∀ b, b < h.next → b ≠ x → h'.get b = h.get b
theorem ExtX.refl {x : Nat} {h : Heap} : ExtX x h h := ⟨Nat.le_refl _, fun _ _ _ => rfl⟩
theorem ExtX.trans {x : Nat} {a b c : Heap} (p : ExtX x a b) (q : ExtX x b c) : ExtX x a c := ⟨Nat.le_trans p.1 q.1, fun n hn hx => (q.2 n (Nat.lt_of_lt_of_le hn p.1) hx).trans (p.2 n hn hx)⟩
theorem ExtX.put {x : Nat} {h : Heap} (o : Blk) : ExtX x h (h.put x o) := ⟨Nat.le_refl _, fun b _ hx => by rw [Heap.get_put, if_neg hx]⟩
theorem Ext.x {x : Nat} {h h' : Heap} (p : Ext h h') : ExtX x h h' := ⟨p.1, fun b hb _ => p.2 b hb⟩
end Go.Proofs.Ythmkenkjfmbkiaa.VM
namespace Go.Proofs.Ythmkenkjfmbkiaa.VM
theorem hn_l (n k : Nat) : (n = n + k) = (k = 0) := by rw [eq_iff_iff]; omega
theorem hn_r (n k : Nat) : (n + k = n) = (k = 0) := by rw [eq_iff_iff]; omega
def HN := And.intro @hn_l (And.intro @hn_r @Nat.add_assoc)
theorem Ext.putn {h h' : Heap} (x : Ext h h') {b : Nat} (hb : h.next ≤ b) (o : Blk) : Ext h (h'.put b o) := ⟨x.1, fun c hc => by rw [Heap.get_put, if_neg (by omega)]; exact x.2 c hc⟩
theorem Ext.mkn {h h' : Heap} (x : Ext h h') {b : Nat} (hb : h.next ≤ b) (o : Blk) : Ext h (h'.mk' b o) := ⟨by rw [mk_next]; have := x.1; omega, fun c hc => by rw [Heap.get_mk, if_neg (by omega)]; exact x.2 c hc⟩
/-- blocks that stand, with their cells -/
def Has (h : Heap) (L : List (Nat × List AV)) : Prop := ∀ p ∈ L, p.1 < h.next ∧ ∃ e ver, h.get p.1 = some (.cells p.2 e ver)
section
variable {h h' : Heap} {L : List (Nat × List AV)} {b e v : Nat} {l l' : List AV}
theorem Has.nil : Has h [] := fun p hp => by simp at hp
theorem Has.get (H : Has h L) (hm : (b, l) ∈ L) : ∃ e ver, h.get b = some (.cells l e ver) := (H _ hm).2
theorem Has.lt (H : Has h L) (hm : (b, l) ∈ L) : b < h.next := (H _ hm).1
theorem Has.ext (H : Has h L) (x : Ext h h') : Has h' L := fun p hp => ⟨Nat.lt_of_lt_of_le (H p hp).1 x.1, let ⟨e, ver, g⟩ := (H p hp).2; ⟨e, ver, (x.2 _ (H p hp).1).trans g⟩⟩
theorem Has.mk (H : Has h L) (hb : h.next ≤ b) : Has (h.mk' b (.cells l e v)) ((b, l) :: L) := fun p hp => by
  rcases List.mem_cons.1 hp with rfl | hp
  · exact ⟨by rw [mk_next]; simp only; omega, e, v, by rw [Heap.get_mk, if_pos rfl]⟩
  · have := (H p hp).1
    exact ⟨by rw [mk_next]; omega, let ⟨e, ver, g⟩ := (H p hp).2; ⟨e, ver, by rw [Heap.get_mk, if_neg (by omega)]; exact g⟩⟩
theorem Has.put (H : Has h ((b, l) :: L)) (hb : ∀ p ∈ L, p.1 ≠ b) : Has (h.put b (.cells l' e v)) ((b, l') :: L) := fun p hp => by
  rcases List.mem_cons.1 hp with rfl | hp
  · exact ⟨by rw [put_next]; exact (H _ (.head _)).1, e, v, by rw [Heap.get_put, if_pos rfl]⟩
  · exact ⟨by rw [put_next]; exact (H p (.tail _ hp)).1, let ⟨e, ver, g⟩ := (H p (.tail _ hp)).2; ⟨e, ver, by rw [Heap.get_put, if_neg (hb p hp)]; exact g⟩⟩
theorem Has.new {o : Blk} (H : Has h L) : Has ((h.mk' h.next o).put h.next (.cells l e v)) ((h.next, l) :: L) := fun p hp => by
  rcases List.mem_cons.1 hp with rfl | hp
  · exact ⟨by rw [put_next, mk_next]; simp only; omega, e, v, by rw [Heap.get_put, if_pos rfl]⟩
  · have := (H p hp).1
    exact ⟨by rw [put_next, mk_next]; omega, let ⟨e, ver, g⟩ := (H p hp).2; ⟨e, ver, by rw [Heap.get_put, if_neg (by omega), Heap.get_mk, if_neg (by omega)]; exact g⟩⟩
theorem Has.sub {M : List (Nat × List AV)} (H : Has h L) (k : ∀ p ∈ M, p ∈ L) : Has h M := fun p hp => H p (k p hp)
theorem Ext.new {h : Heap} {o o' : Blk} : Ext h ((h.mk' h.next o).put h.next o') := (Ext.mk o).putn (Nat.le_refl _) _
theorem new_next {h : Heap} {o o' : Blk} : ((h.mk' h.next o).put h.next o').next = h.next + 1 := by rw [put_next, mk_next]; omega
end
/-- clear, of a slice -/
def clS (h : Heap) (z : List AV) : AV → Out
  | .nils => .val (.tup []) h
  | .sl b off len _ _ => if len = 0 then .val (.tup []) h else (match writeAt h b off (List.replicate len z).flatten with
    | some h => .val (.tup []) h
    | none => .fail)
  | _ => .fail
theorem vop_clearS {s : T AV} {h : Heap} {nm : Nat} {z : List AV} {x : Opd} : vop ⟨s, h⟩ nm (.bi (.clearS z) [x]) = clS h z (ev s x) := by
  simp only [vop, List.map_cons, List.map_nil, eval_eq]
  cases ev s x <;> try rfl
  rename_i b off len cap sz
  simp only [clS, T.beq_dec]
  by_cases e : len = 0
  · rw [if_pos e, decide_eq_true e, cond_true]
  · rw [if_neg e, decide_eq_false e, cond_false]
    cases writeAt h b off (List.replicate len z).flatten <;> rfl
theorem clS_go {h h' : Heap} {z : List AV} {b off len cap sz : Nat} (h0 : len ≠ 0) (hw : writeAt h b off (List.replicate len z).flatten = some h') : clS h z (.sl b off len cap sz) = .val (.tup []) h' := by
  simp only [clS, if_neg h0, hw]
theorem eqv_p0 {b o : Nat} : eqv .ptr (.ptr b o) .nilp = some false := rfl
theorem eqv_p1 : eqv .ptr .nilp .nilp = some true := rfl
theorem eqv_s0 {a b c d e : Nat} : eqv .sl (.sl a b c d e) .nils = some false := rfl
theorem eqv_s1 : eqv .sl .nils .nils = some true := rfl
theorem eqv_s2 {l : List AV} {n : Nat} : eqv .sl (.rs l n) .nils = some false := rfl
theorem eqv_b (a b : Bool) : eqv .bool (.bool a) (.bool b) = some (decide (a = b)) := by revert a b; decide
/-- what is compared without memory -/
def HE := And.intro @eqv_p0 (And.intro @eqv_p1 (And.intro @eqv_s0 (And.intro @eqv_s1 (And.intro @eqv_s2 @eqv_b))))
def blk : Nat → VCode → VCode
  | 0, .seq a _ => a
  | n + 1, .seq _ b => blk n b
  | _, x => x
def rst : Nat → VCode → VCode
  | 0, x => x
  | n + 1, .seq _ b => rst n b
  | _, x => x
/-- a row in a block of its own, full; it may be there and hold nothing -/
def SRow (h : Heap) (v : AV) (sz : Nat) (cs : List AV) (n : Nat) : Prop := (v = .nils ∧ n = 0 ∧ cs = []) ∨ ∃ b e ver, v = .sl b 0 n n sz ∧ b < h.next ∧ h.get b = some (.cells cs e ver) ∧ cs.length = n * sz ∧ cs.all AV.one = true
section
variable {h h' : Heap} {v x : AV} {sz n m : Nat} {cs c : List AV}
theorem SRow.nil (h : Heap) (sz : Nat) : SRow h .nils sz [] 0 := .inl ⟨rfl, rfl, rfl⟩
theorem SRow.frame (r : SRow h v sz cs n) (hn : h.next ≤ h'.next) (k : ∀ b ∈ blkOf v, h'.get b = h.get b) : SRow h' v sz cs n := by
  rcases r with r | ⟨b, e, ver, rfl, hb, hg, hl, ho⟩
  · exact .inl r
  · exact .inr ⟨b, e, ver, rfl, by omega, (k b (by simp [blkOf])).trans hg, hl, ho⟩
theorem SRow.lt (r : SRow h v sz cs n) : ∀ b ∈ blkOf v, b < h.next := by
  rcases r with ⟨rfl, _⟩ | ⟨b, e, ver, rfl, hb, _⟩
  · intro b hb; simp [blkOf] at hb
  · intro c hc; simp only [blkOf, List.mem_singleton] at hc; rw [hc]; exact hb
theorem SRow.ext (r : SRow h v sz cs n) (x : Ext h h') : SRow h' v sz cs n := r.frame x.1 fun b hb => x.2 b (r.lt b hb)
theorem SRow.one (r : SRow h v sz cs n) : v.one = true := by rcases r with ⟨rfl, _⟩ | ⟨b, e, ver, rfl, _⟩ <;> rfl
theorem SRow.cells (r : SRow h v sz cs n) : v.cells = some [v] := by rcases r with ⟨rfl, _⟩ | ⟨b, e, ver, rfl, _⟩ <;> rfl
theorem SRow.len (r : SRow h v sz cs n) (hh : Heap) : lnV hh v = .val (.int .i64 n) hh := by rcases r with ⟨rfl, rfl, _⟩ | ⟨b, e, ver, rfl, _⟩ <;> rfl
theorem SRow.length (r : SRow h v sz cs n) : cs.length = n * sz := by
  rcases r with ⟨_, rfl, rfl⟩ | ⟨b, e, ver, rfl, _, _, hl, _⟩
  · simp
  · exact hl
/-- a part of a row's cells -/
theorem cells_part {b lo k cap : Nat} {e : TypeId} {ver : Nat} (hg : h.get b = some (.cells cs e ver)) (hl : (lo + k) * sz ≤ cs.length) : cellsOf h sz k (.sl b (lo * sz) k cap sz) = some ((cs.drop (lo * sz)).take (k * sz)) := by
  simp only [cellsOf, Nat.le_refl, if_true, hg]
  have : ((cs.drop (lo * sz)).take (k * sz)).length = k * sz := by rw [List.length_take, List.length_drop, Nat.min_eq_left]; rw [Nat.add_mul] at hl; omega
  rw [cut_eq, if_pos this]
theorem SRow.app (r : SRow h v sz cs n) (hx : cellsOf h sz m x = some c) (hlx : lenV x = some m) (hl : c.length = m * sz) (ho : c.all AV.one = true) {bytes : Nat} (hb : (n + m) * bytes ≤ most2) (e : TypeId) :
    ∃ v' h', appendV h sz bytes e v x = some (v', h') ∧ SRow h' v' sz (cs ++ c) (n + m) ∧ h.next ≤ h'.next ∧ (∀ b ∈ blkOf v', b ∈ blkOf v ∨ h.next ≤ b) ∧ ∀ b, b < h.next → b ∉ blkOf v → h'.get b = h.get b := by
  rcases r with ⟨rfl, rfl, rfl⟩ | ⟨b, eb, vb, rfl, hb', hg, hl', ho'⟩
  · by_cases m0 : m = 0
    · subst m0
      obtain rfl : c = [] := List.eq_nil_of_length_eq_zero (by rw [hl]; omega)
      refine ⟨.nils, h, ?_, .inl ⟨rfl, rfl, rfl⟩, Nat.le_refl _, fun b hb => .inl hb, fun _ _ _ => rfl⟩
      simp [appendV, hlx, hx]
    · rw [Nat.zero_add] at hb
      refine ⟨.sl h.next 0 m m sz, h.mk' h.next (.cells c e 0), ?_, .inr ⟨h.next, e, 0, by rw [Nat.zero_add], by rw [mk_next]; omega, by rw [Heap.get_mk, if_pos rfl, List.nil_append], by rw [List.nil_append, hl, Nat.zero_add], by rw [List.nil_append]; exact ho⟩, by rw [mk_next]; omega, fun b hb => .inr (by simp only [blkOf, List.mem_singleton] at hb; omega), fun b hb _ => by rw [Heap.get_mk, if_neg (by omega)]⟩
      simp only [appendV, hlx, hx, hl, ho, and_self, if_true, m0, if_false, hb]
  · have hold : cellsOf h sz n (.sl b 0 n n sz) = some cs := cells_of hg hl' n
    by_cases m0 : m = 0
    · subst m0
      obtain rfl : c = [] := List.eq_nil_of_length_eq_zero (by rw [hl]; omega)
      have hw : writeAt h b (0 + n * sz) [] = some (h.put b (.cells (cs.take (n * sz) ++ [] ++ cs.drop (n * sz)) eb (vb + 1))) := by
        rw [writeAt_go, hg, wrB_some, if_pos ⟨by simp [hl'], rfl⟩]; simp
      refine ⟨.sl b 0 n n sz, h.put b (.cells (cs.take (n * sz) ++ [] ++ cs.drop (n * sz)) eb (vb + 1)), ?_, .inr ⟨b, eb, vb + 1, rfl, by rw [put_next]; exact hb', by rw [Heap.get_put, if_pos rfl, List.append_nil, List.take_append_drop, List.append_nil], by rw [List.append_nil, hl', Nat.add_zero], by rw [List.append_nil]; exact ho'⟩, by rw [put_next]; exact Nat.le_refl _, fun b hb => .inl hb, fun d _ hd => by simp only [blkOf, List.mem_singleton] at hd; rw [Heap.get_put, if_neg hd]⟩
      simp only [appendV, hlx, hx, hl, ho, and_self, if_true, Nat.beq_refl, cond_true, Nat.add_zero, Nat.le_refl, hw]
    · have hc : ¬ n + m ≤ n := by omega
      refine ⟨.sl h.next 0 (n + m) (n + m) sz, (h.put b .dead).mk' h.next (.cells (cs ++ c) e 0), ?_, .inr ⟨h.next, e, 0, rfl, by rw [mk_next]; omega, by rw [Heap.get_mk, if_pos rfl], by rw [List.length_append, hl', hl, Nat.add_mul], by rw [List.all_append, ho', ho]; rfl⟩, by rw [mk_next, put_next]; omega, fun d hd => .inr (by simp only [blkOf, List.mem_singleton] at hd; omega), fun d hd hn => by
        simp only [blkOf, List.mem_singleton] at hn
        rw [Heap.get_mk, if_neg (by omega), Heap.get_put, if_neg hn]⟩
      simp only [appendV, hlx, hx, hl, ho, and_self, if_true, Nat.beq_refl, cond_true, hc, if_false, hb, hold]
/-- one more -/
theorem SRow.push (r : SRow h v sz cs n) {nb eb vb : Nat} (hg : h.get nb = some (.cells c eb vb)) (hl : c.length = sz) (ho : c.all AV.one = true) {bytes : Nat} (hb : (n + 1) * bytes ≤ most2) (e : TypeId) :
    ∃ v' h', appendV h sz bytes e v (.sl nb 0 1 1 sz) = some (v', h') ∧ SRow h' v' sz (cs ++ c) (n + 1) ∧ h.next ≤ h'.next ∧ (∀ b ∈ blkOf v', b ∈ blkOf v ∨ h.next ≤ b) ∧ ∀ b, b < h.next → b ∉ blkOf v → h'.get b = h.get b :=
  r.app (cells_of hg (by rw [hl, Nat.one_mul]) 1) rfl (by rw [hl, Nat.one_mul]) ho hb e
/-- a look at a row of one cell each -/
theorem SRow.at (r : SRow h v 1 cs n) {i : Nat} (hi : i < n) : ∃ b e ver x, v = .sl b 0 n n 1 ∧ b < h.next ∧ h.get b = some (.cells cs e ver) ∧ cs[i]? = some x ∧ part false cs i 1 = some x ∧ ∀ (hh : Heap) (kk : IntKind), iaV hh 1 none v (.int kk (i : Int)) = .val (.ptr b i) hh := by
  rcases r with ⟨_, rfl, _⟩ | ⟨b, e, ver, rfl, hb, hg, hl, ho⟩
  · omega
  · have hil : i < cs.length := by omega
    refine ⟨b, e, ver, cs[i], rfl, hb, hg, List.getElem?_eq_getElem hil, part_f (List.drop_eq_getElem_cons hil), fun hh kk => ?_⟩
    have : 0 ≤ (i : Int) ∧ (i : Int) < (n : Int) ∧ 1 = 1 := ⟨by omega, by omega, rfl⟩
    simp only [iaV, this, and_self, if_true, Int.toNat_natCast, Nat.zero_add, Nat.mul_one]
end
theorem nat_of {k : IntKind} {n y : Nat} (h : n ≤ y) : natOf (.int k (n : Int)) y = some n := by
  show (if 0 ≤ (n : Int) ∧ (n : Int) ≤ (y : Int) then some (n : Int).toNat else none) = some n
  rw [if_pos ⟨by omega, by omega⟩, Int.toNat_natCast]
section
variable {b off len cap sz lo hi mx : Nat} {k1 k2 k3 : IntKind}
theorem slV3 (h1 : lo ≤ hi) (h2 : hi ≤ mx) (h3 : mx ≤ cap) : sliceV sz (.sl b off len cap sz) (some (.int k1 (lo : Int))) (some (.int k2 (hi : Int))) (some (.int k3 (mx : Int))) = some (.sl b (off + lo * sz) (hi - lo) (mx - lo) sz) := by
  simp [sliceV, bounds, nat_of h1, nat_of h2, nat_of h3]
theorem slV2 (h1 : lo ≤ hi) (h2 : hi ≤ cap) : sliceV sz (.sl b off len cap sz) (some (.int k1 (lo : Int))) (some (.int k2 (hi : Int))) none = some (.sl b (off + lo * sz) (hi - lo) (cap - lo) sz) := by
  simp [sliceV, bounds, nat_of h1, nat_of h2]
theorem slVhi (h2 : hi ≤ cap) : sliceV sz (.sl b off len cap sz) none (some (.int k2 (hi : Int))) none = some (.sl b off hi cap sz) := by
  simp [sliceV, bounds, nat_of h2]
theorem slVlo (h1 : lo ≤ len) : sliceV sz (.sl b off len cap sz) (some (.int k1 (lo : Int))) none none = some (.sl b (off + lo * sz) (len - lo) (cap - lo) sz) := by
  simp [sliceV, bounds, nat_of h1]
end
end Go.Proofs.Ythmkenkjfmbkiaa.VM
namespace Go.Proofs.Ythmkenkjfmbkiaa.VM
open Go.RowKit Go.Shelf
section
variable {P : Program} {φ φ' : Env} {w w' : World} {H H1 H2 : Heap}
theorem Calls.ret {f : Nat} {us : Array Value} {u : Value} (e : Calls P f us w fun e w1 => e = .returned u ∧ w1 = w') {v : AV} (hv : VR φ' w' v u) (hr : HR φ' w' H2) (hu : UpdH φ w H φ' w' H2) :
    Calls P f us w fun e w' => ∃ φ' u, e = .returned u ∧ VR φ' w' v u ∧ HR φ' w' H2 ∧ UpdH φ w H φ' w' H2 :=
  Calls.mono e (by rintro e w1 ⟨rfl, rfl⟩; exact ⟨φ', u, rfl, hv, hr, hu⟩)
theorem VRs.zeros : ∀ n : Nat, VRs φ w (List.replicate n (.int .i64 0)) (List.replicate n (Value.int .i64 0))
  | 0 => by simpa using VRs.nil
  | n + 1 => by rw [List.replicate_succ, List.replicate_succ]; exact .cons (.int _ _) (VRs.zeros n)
theorem SameH.put2 {H0 : Heap} {nb e v e' v' : Nat} {X Y : Blk} {l : List AV} : SameH (((H0.mk' nb X).put nb Y).put nb (.cells l e v)) (H0.mk' nb (.cells l e' v')) := by
  refine ⟨by rw [put_next, put_next, mk_next, mk_next], fun d => ?_⟩
  by_cases hd : d = nb
  · subst hd
    exact .inr ⟨_, _, _, _, _, by rw [Heap.get_put, if_pos rfl], by rw [Heap.get_mk, if_pos rfl]⟩
  · exact .inl (by rw [Heap.get_put, if_neg hd, Heap.get_put, if_neg hd, Heap.get_mk, if_neg hd, Heap.get_mk, if_neg hd])
theorem ins_list {α : Type} {cs : List α} {x : α} {i : Nat} (hi : i < cs.length) : (cs.take (i + 1) ++ cs.drop i).take i ++ [x] ++ (cs.take (i + 1) ++ cs.drop i).drop (i + 1) = cs.take i ++ x :: cs.drop i := by
  have h1 : (cs.take (i + 1)).length = i + 1 := by rw [List.length_take]; omega
  rw [List.take_append_of_le_length (by omega), List.take_take, Nat.min_eq_left (by omega), List.drop_left' h1, List.append_assoc]
  rfl
theorem ins_list2 {α : Type} {cs zs : List α} {x : α} {i : Nat} (hi : i ≤ cs.length) (hz : zs.length = cs.length + 1 - i) : ((cs.take i ++ zs).take i ++ [x] ++ (cs.take i ++ zs).drop (i + 1)).take (i + 1) ++ cs.drop i ++ ((cs.take i ++ zs).take i ++ [x] ++ (cs.take i ++ zs).drop (i + 1)).drop (i + 1 + (cs.drop i).length) = cs.take i ++ x :: cs.drop i := by
  have h1 : (cs.take i).length = i := by rw [List.length_take]; omega
  have h2 : (cs.take i ++ zs).take i = cs.take i := List.take_left' h1
  rw [h2]
  have h3 : (cs.take i ++ [x]).length = i + 1 := by rw [List.length_append, h1]; rfl
  rw [List.take_left' h3]
  have h4 : (cs.take i ++ [x] ++ (cs.take i ++ zs).drop (i + 1)).drop (i + 1 + (cs.drop i).length) = [] := by
    apply List.drop_of_length_le
    simp only [List.length_append, List.length_drop, h1, hz, List.length_singleton]
    omega
  rw [h4, List.append_nil, List.append_assoc]
  rfl
theorem zc_int (k : Nat) : Builtin.zeroCells (Value.int .i64 0).cells k = (List.replicate k (Value.int .i64 0)).toArray := by
  apply Array.ext'
  simp [Builtin.zeroCells, Value.cells]
  apply List.ext_getElem
  · simp
  · intro i h1 h2; simp [Nat.mod_one]
theorem insert_ok {ρ : Ren} (L : Lays2.n21 P ρ) (hly : ρ.f 21 < YB) {b n cap i vb : Nat} {cs : List AV} {e e2 ver ver2 : Nat} {x : AV} (hg : H.get b = some (.cells cs e ver)) (hl : cs.length = n) (ho : cs.all AV.one = true) (hx : x.one = true) (hi : i ≤ n) (hgv : H.get vb = some (.cells [x] e2 ver2)) (hne : vb ≠ b) (hsm : n < 1000000) (hz0 : ∀ a, x = a → True) :
    OK P (ρ.f 21) [.sl b 0 n cap 1, .int .i64 i, .sl vb 0 1 1 1] H (.sl H.next 0 (n + 1) (n + 1) 1) ((H.put b .dead).mk' H.next (.cells (cs.take i ++ x :: cs.drop i) (ρ.t 3) 0)) := by
  refine .inl ⟨hly, ⟨_, L.f21, rfl, fun e => by rw [show (Body2.n21 ρ).name = "slices.Insert[[]int,int]" from rfl] at e; exact absurd e (by decide)⟩, fun φ w us hr hus => ?_⟩
  obtain ⟨B, o, e', N, q1, q2, q3, q4, q5⟩ := hr.cells hg
  obtain ⟨B2, o2, e2', N2, p1, p2, p3, p4, p5⟩ := hr.cells hgv
  have hBB : B2 ≠ B := fun e => hne (hr.inj vb b _ _ (by rw [hgv]; rfl) (by rw [hg]; rfl) p1 q1 e)
  cases us with | mk us =>
  simp only at hus
  cases hus with | cons h1 t => cases t with | cons h2 t => cases t with | cons h3 t =>
  cases t
  cases h2
  obtain ⟨vs, v1, v2⟩ := p3.vals
  obtain ⟨us, u1, u2⟩ := q3.vals
  have vl : vs.length = 1 := by rw [← v1.length]; rfl
  have ul : us.length = n := by rw [← u1.length]; exact hl
  have oc := u1.one ho
  have ov := v1.one (by simp [hx])
  have hnx := hr.next H.next (Nat.le_refl _)
  have hlive : ∃ y, H.get b = some y := ⟨_, hg⟩
  cases h3 with
  | sl hb3 hc3 hl3 hs3 hr3 =>
    rename_i vB vo vc vN vE
    rw [p1] at hb3
    cases hb3
    rw [p2] at hs3
    cases hs3
    simp only [Nat.add_zero] at *
    have hnext : (H.put b .dead).next = H.next := rfl
    have hk : ∀ c, c ≠ b → (H.put b .dead).get c = H.get c := fun c hc => by rw [Heap.get_put, if_neg hc]
    have hbn : b ≠ H.next := fun e => by rw [e, hnx] at hg; cases hg
    have hnx2 : (H.put b .dead).get H.next = none := by rw [hk _ (Ne.symm hbn)]; exact hnx
    have endgrow : ∀ (base : Option Addr) (c : Nat), i = n → n ≤ c → c < n + 1 → (base = none → n = 0) → (∀ a, base = some a → ∀ j v, us[j]? = some v → w.cell? (a.add j) = some v) →
        Calls P (ρ.f 21) #[.slice base n c, .int .i64 (i : Int), .slice (some ⟨B2, o2, none⟩) 1 vc] w (fun e w' => ∃ φ' u, e = .returned u ∧ VR φ' w' (.sl H.next 0 (n + 1) (n + 1) 1) u ∧ HR φ' w' ((H.put b .dead).mk' H.next (.cells (cs.take i ++ x :: cs.drop i) (ρ.t 3) 0)) ∧ UpdH φ w H φ' w' ((H.put b .dead).mk' H.next (.cells (cs.take i ++ x :: cs.drop i) (ρ.t 3) 0))) := by
      intro base c hin h1 h2 h3 h4
      subst hin
      have C := Any2.slices_Insert_int_end_grow L base i c B2 o2 1 vc us vs w (by decide) h1 h2 (by omega) ul vl h3 h4 v2 ov
      have hs := (hr_drew hr)
      have hk1 := kill_ok hs hlive
      have hφ : φ H.next = none := by have := hr.blk H.next; rw [hnx] at this; exact this
      have hl' : VRs φ w.drew (cs.take i ++ x :: cs.drop i) (us ++ vs) := by
        rw [List.take_of_length_le (by omega), List.drop_of_length_le (by omega)]
        exact (u1.upd upd_drew).append (v1.upd upd_drew)
      have ea : (us ++ vs).toArray ++ Builtin.zeroCells (Value.int .i64 0).cells (grownCap w (i + 1) c (ρ.t 3) - (i + 1)) = (us ++ vs ++ (Builtin.zeroCells (Value.int .i64 0).cells (grownCap w (i + 1) c (ρ.t 3) - (i + 1))).toList).toArray := by simp
      rw [ea] at C
      have hcap : i + 1 ≤ grownCap w (i + 1) c (ρ.t 3) := grownCap_ge _ _ _ _
      refine Calls.ret C ?_ (hr_alloc hk1 hnx2 (br_new' (w := w.drew) hl' hφ (ρ.t 3) (ρ.t 3) 0)) (((updH_drew H).trans (updH_kill hlive)).trans (updH_alloc hk1 hnx2 _ _))
      refine .sl (o := 0) (at_self _ _) hcap (Nat.le_refl _) (shape_new _ _) ⟨?_, ?_⟩
      · rw [zc_int]
        simp [ul, vl]; omega
      · have := grownCap_le_maxLen w (i + 1) c (ρ.t 3) (by unfold maxLen; omega)
        unfold maxLen at this; omega
    cases h1 with
    | sl hb1 hc1 hl1 hs1 hr1 =>
      rename_i oB oo c oN oE
      rw [q1] at hb1
      cases hb1
      rw [q2] at hs1
      cases hs1
      have hcs : ∀ j v, us[j]? = some v → w.cell? ⟨B, o + j, none⟩ = some v := u2
      have hcell : ∀ j, j < N → (w.cell? ⟨B, j, none⟩).isSome = true := fun j hj => cell_some q2 hj
      by_cases hroom : n + 1 ≤ c
      · by_cases hin : i = n
        · subst hin
          have C := Any2.slices_Insert_int_end_room L B o i c B2 o2 1 vc vs w (by decide) hroom hr1.2 vl (fun j hj => hcell _ (by omega)) (fun j hj => q4 _ (by omega)) v2 ov
          obtain ⟨r1, r2⟩ := regrow (e0 := e') (o := o) (off := 0) hr hg q1 q2 (old := cs) (new := [x]) (us := vs) (at_ := o + i) q3 (by omega) v1 (by simp; omega) (ρ.t 3)
          rw [show cs.take i ++ x :: cs.drop i = cs ++ [x] by rw [List.take_of_length_le (by omega), List.drop_of_length_le (by omega)]]
          refine Calls.ret C ?_ r1 r2
          exact VR.sl (o := o) (off := 0) (at_self _ _) hroom (Nat.le_refl _) (r2.shape _ _ q2) ⟨by omega, hr1.2⟩
        · have hlt : i < n := by omega
          have C := Any2.slices_Insert_int_shift L B o n c i B2 o2 1 vc us vs w hlt (by decide) hroom hr1.2 hBB ul vl hcs (fun j hj => hcell _ (by omega)) (fun j hj => q4 _ (by omega)) v2 oc ov _ _ _ _ p2 q2 (by omega) (p4 _ (by simp at p5; omega)) (p4 _ (Nat.le_refl _))
          have hrd := hr_drew hr
          obtain ⟨r1, r2⟩ := regrow (e0 := e') (o := o) (off := 0) hrd hg q1 ((upd_drew (φ := φ) (w := w)).shape _ _ q2) (old := cs.take (i + 1)) (new := cs.drop i) (us := us.drop i) (at_ := o + (i + 1)) ((q3.upd upd_drew rfl).take (i + 1)) (by rw [List.length_take]; omega) ((u1.upd upd_drew).drop i) (by rw [List.length_drop]; omega) (ρ.t 3)
          have u2' := (updH_drew H).trans r2
          have g1 : ((H.put b .dead).mk' H.next (.cells (cs.take (i + 1) ++ cs.drop i) (ρ.t 3) 0)).get H.next = some (.cells (cs.take (i + 1) ++ cs.drop i) (ρ.t 3) 0) := by rw [Heap.get_mk, if_pos rfl]
          have ll : (cs.take (i + 1) ++ cs.drop i).length = n + 1 := by rw [List.length_append, List.length_take, List.length_drop]; omega
          have hw : writeAt ((H.put b .dead).mk' H.next (.cells (cs.take (i + 1) ++ cs.drop i) (ρ.t 3) 0)) H.next i [x] = some (((H.put b .dead).mk' H.next (.cells (cs.take (i + 1) ++ cs.drop i) (ρ.t 3) 0)).put H.next (.cells (cs.take i ++ x :: cs.drop i) (ρ.t 3) 1)) := by
            rw [writeAt_go, g1, wrB_some, if_pos ⟨by simp only [List.length_singleton]; omega, by simp [hx]⟩, List.length_singleton, ins_list (by omega)]
          obtain ⟨w1, _, _⟩ := hr_write r1 (at_self _ _) hw (v1.upd u2'.toUpd)
          have uw := updH_write (w := w.drew.setCells B (o + (i + 1)) (us.drop i)) (at_ := o + i) (us := vs) (at_self (φ := φ) H.next (B, o + 0)) hw
          have sm : SameH (((H.put b .dead).mk' H.next (.cells (cs.take (i + 1) ++ cs.drop i) (ρ.t 3) 0)).put H.next (.cells (cs.take i ++ x :: cs.drop i) (ρ.t 3) 1)) ((H.put b .dead).mk' H.next (.cells (cs.take i ++ x :: cs.drop i) (ρ.t 3) 0)) := by
            refine ⟨by rw [put_next, mk_next, mk_next], fun d => ?_⟩
            by_cases hd : d = H.next
            · subst hd
              exact .inr ⟨_, _, _, _, _, by rw [Heap.get_put, if_pos rfl], by rw [Heap.get_mk, if_pos rfl]⟩
            · exact .inl (by rw [Heap.get_put, if_neg hd, Heap.get_mk, if_neg hd, Heap.get_mk, if_neg hd])
          refine Calls.ret C ?_ (w1.congr sm) ((u2'.trans uw).congr sm)
          exact VR.sl (o := o) (off := 0) (at_self _ _) hroom (Nat.le_refl _) (uw.shape _ _ (r2.shape _ _ ((upd_drew (φ := φ) (w := w)).shape _ _ q2))) ⟨by omega, hr1.2⟩
      · by_cases hin : i = n
        · exact endgrow (some ⟨B, o, none⟩) c hin (by omega) (by omega) (fun c => by cases c) (fun a ha j v hj => by cases ha; rw [add_none]; exact hcs j v hj)
        · have hlt : i < n := by omega
          have C := Any2.slices_Insert_int_grow L B o n c i B2 o2 1 vc us vs w hlt (by decide) (by omega) (by omega) (by omega) ul vl hcs v2 oc ov
          have hk1 := kill_ok hr hlive
          have hφ : φ H.next = none := by have := hr.blk H.next; rw [hnx] at this; exact this
          have hZ : VRs φ w (cs.take i ++ List.replicate (n + 1 - i) (AV.int .i64 0)) (us.take i ++ List.replicate (n + 1 - i) (Value.int .i64 0)) := (u1.take i).append (VRs.zeros _)
          have ea : (us.take i).toArray ++ Builtin.zeroCells (Value.int .i64 0).cells (n + 1 - i) ++ Builtin.zeroCells (Value.int .i64 0).cells (grownCap w (n + 1) c (ρ.t 3) - (n + 1)) = (us.take i ++ List.replicate (n + 1 - i) (Value.int .i64 0) ++ List.replicate (grownCap w (n + 1) c (ρ.t 3) - (n + 1)) (Value.int .i64 0)).toArray := by rw [zc_int, zc_int]; simp
          rw [ea] at C
          have a1 := hr_alloc hk1 hnx2 (br_new' (w := w) (rest := List.replicate (grownCap w (n + 1) c (ρ.t 3) - (n + 1)) (Value.int .i64 0)) hZ hφ (ρ.t 3) (ρ.t 3) 0)
          have b1 := (updH_kill (φ := φ) (w := w) hlive).trans (updH_alloc hk1 hnx2 (.cells (us.take i ++ List.replicate (n + 1 - i) (Value.int .i64 0) ++ List.replicate (grownCap w (n + 1) c (ρ.t 3) - (n + 1)) (Value.int .i64 0)).toArray (ρ.t 3)) (.cells (cs.take i ++ List.replicate (n + 1 - i) (AV.int .i64 0)) (ρ.t 3) 0))
          have a2 := hr_drew a1
          have b2 := b1.trans (updH_drew _)
          have Zl : (cs.take i ++ List.replicate (n + 1 - i) (AV.int .i64 0)).length = n + 1 := by rw [List.length_append, List.length_take, List.length_replicate]; omega
          have g1 : ((H.put b .dead).mk' (H.put b .dead).next (.cells (cs.take i ++ List.replicate (n + 1 - i) (AV.int .i64 0)) (ρ.t 3) 0)).get H.next = some (.cells (cs.take i ++ List.replicate (n + 1 - i) (AV.int .i64 0)) (ρ.t 3) 0) := by rw [hnext, Heap.get_mk, if_pos rfl]
          have hw1 := writeAt_go (h := (H.put b .dead).mk' (H.put b .dead).next (.cells (cs.take i ++ List.replicate (n + 1 - i) (AV.int .i64 0)) (ρ.t 3) 0)) (b := H.next) (off := i) (vs := [x])
          rw [g1, wrB_some, if_pos ⟨by simp only [List.length_singleton]; omega, by simp [hx]⟩, List.length_singleton] at hw1
          obtain ⟨a3, _, _⟩ := hr_write (b := H.next) a2 (at_self (φ := φ) H.next (w.heap.size, 0)) hw1 (v1.upd b2.toUpd)
          have b3 := b2.trans (updH_write (b := H.next) (at_ := i) (us := vs) (at_self (φ := φ) H.next (w.heap.size, 0)) hw1)
          have a4 := hr_drew a3
          have b4 := b3.trans (updH_drew _)
          have g2 : (((H.put b .dead).mk' (H.put b .dead).next (.cells (cs.take i ++ List.replicate (n + 1 - i) (AV.int .i64 0)) (ρ.t 3) 0)).put H.next (.cells ((cs.take i ++ List.replicate (n + 1 - i) (AV.int .i64 0)).take i ++ [x] ++ (cs.take i ++ List.replicate (n + 1 - i) (AV.int .i64 0)).drop (i + 1)) (ρ.t 3) (0 + 1))).get H.next = some (.cells ((cs.take i ++ List.replicate (n + 1 - i) (AV.int .i64 0)).take i ++ [x] ++ (cs.take i ++ List.replicate (n + 1 - i) (AV.int .i64 0)).drop (i + 1)) (ρ.t 3) (0 + 1)) := by rw [Heap.get_put, if_pos rfl]
          have l2 : ((cs.take i ++ List.replicate (n + 1 - i) (AV.int .i64 0)).take i ++ [x] ++ (cs.take i ++ List.replicate (n + 1 - i) (AV.int .i64 0)).drop (i + 1)).length = n + 1 := by
            simp only [List.length_append, List.length_take, List.length_drop, List.length_singleton, List.length_replicate]; omega
          have hw2 := writeAt_go (h := ((H.put b .dead).mk' (H.put b .dead).next (.cells (cs.take i ++ List.replicate (n + 1 - i) (AV.int .i64 0)) (ρ.t 3) 0)).put H.next (.cells ((cs.take i ++ List.replicate (n + 1 - i) (AV.int .i64 0)).take i ++ [x] ++ (cs.take i ++ List.replicate (n + 1 - i) (AV.int .i64 0)).drop (i + 1)) (ρ.t 3) (0 + 1))) (b := H.next) (off := i + 1) (vs := cs.drop i)
          have od : (cs.drop i).all AV.one = true := List.all_eq_true.2 fun y hy => List.all_eq_true.1 ho y (List.mem_of_mem_drop hy)
          rw [g2, wrB_some, if_pos ⟨by rw [List.length_drop]; omega, od⟩, ins_list2 (by omega) (by rw [List.length_replicate]; omega)] at hw2
          have b4u := b4.toUpd
          obtain ⟨a5, _, _⟩ := hr_write (b := H.next) a4 (at_self (φ := φ) H.next (w.heap.size, 0)) hw2 ((u1.drop i).upd (by simpa using b4u))
          have b5 := b4.trans (updH_write (b := H.next) (at_ := i + 1) (us := us.drop i) (at_self (φ := φ) H.next (w.heap.size, 0)) hw2)
          simp only [Nat.zero_add] at a5 b5
          have s1 := shape_new (w := w) (us.take i ++ List.replicate (n + 1 - i) (Value.int .i64 0) ++ List.replicate (grownCap w (n + 1) c (ρ.t 3) - (n + 1)) (Value.int .i64 0)).toArray (ρ.t 3)
          have sh : ∀ {W : World} {q : Nat × TypeId × Nat} (k : Nat) (z : List Value), W.shape? w.heap.size = some q.2 → (W.drew.setCells w.heap.size k z).shape? w.heap.size = some q.2 := fun {W q} k z h => (upd_setCells (φ := φ.at H.next (w.heap.size, 0)) (b := H.next) (at_self _ _) k z).shape _ _ ((upd_drew (φ := φ) (w := W)).shape _ _ h)
          have s3 := sh (q := (0, _)) (i + 1) (us.drop i) (sh (q := (0, _)) i vs s1)
          refine Calls.ret (H2 := (H.put b .dead).mk' H.next (.cells (cs.take i ++ x :: cs.drop i) (ρ.t 3) 0)) C ?_ (a5.congr (SameH.put2 (l := cs.take i ++ x :: cs.drop i))) (b5.congr (SameH.put2 (l := cs.take i ++ x :: cs.drop i)))
          refine VR.sl (o := 0) (off := 0) (at_self _ _) (grownCap_ge _ _ _ _) (Nat.le_refl _) s3 ⟨?_, ?_⟩
          · simp [ul]; have := grownCap_ge w (n + 1) c (ρ.t 3); omega
          · have := grownCap_le_maxLen w (n + 1) c (ρ.t 3) (by unfold maxLen; omega)
            unfold maxLen at this; omega
    | sl0 a =>
      have hi0 : i = 0 := by omega
      subst hi0
      refine endgrow (some a) 0 rfl (Nat.le_refl _) (by omega) (fun c => by cases c) (fun a' ha j v hj => ?_)
      have : us = [] := List.eq_nil_of_length_eq_zero ul
      rw [this] at hj
      simp at hj
end
end Go.Proofs.Ythmkenkjfmbkiaa.VM
namespace Go.Proofs.Ythmkenkjfmbkiaa.VM
/-- furlong/furlonglaw22.Reshards -/
def v3 : VFun := ⟨4, [(.tmp 8)], (.seq (.ops [⟨(some 4), none, .box 24 (.t 0)⟩, ⟨(some 6), none, .box 26 (.t 2)⟩, ⟨(some 8), none, .mov (.c (.bool false))⟩])
 (.seq (.ops [⟨(some 15), none, .load true 3 (.t 4)⟩, ⟨(some 16), none, .call 12 [(.t 15)]⟩, ⟨(some 17), none, .mov (.t 3)⟩, ⟨(some 18), none, .call 13 [(.t 17)]⟩, ⟨(some 9), none, .alloc [(.int .i64 0), .nils, .nils] 24⟩, ⟨none, none, .store 3 (.t 9) (.t 16)⟩, ⟨(some 10), none, .mov (.t 18)⟩])
 (.seq (.ops [⟨(some 20), none, .load true 3 (.t 9)⟩, ⟨(some 21), none, .mov (.t 1)⟩, ⟨(some 22), none, .load true 3 (.t 6)⟩, ⟨(some 23), none, .mov (.t 10)⟩, ⟨(some 24), none, .call 14 [(.t 20), (.t 21), (.t 22), (.t 23)]⟩, ⟨(some 19), none, .mov (.t 24)⟩, ⟨(some 25), none, .extract (.t 19) 0⟩, ⟨(some 26), none, .extract (.t 19) 1⟩, ⟨(some 11), none, .mov (.t 25)⟩, ⟨(some 12), none, .mov (.t 26)⟩])
 (.seq (.ops [⟨(some 28), none, .load true 3 (.t 4)⟩, ⟨(some 29), none, .mov (.t 1)⟩, ⟨(some 30), none, .load true 3 (.t 6)⟩, ⟨(some 31), none, .mov (.t 3)⟩, ⟨(some 32), none, .call 15 [(.t 28), (.t 29), (.t 30), (.t 31)]⟩, ⟨(some 27), none, .mov (.t 32)⟩, ⟨(some 33), none, .extract (.t 27) 0⟩, ⟨(some 34), none, .extract (.t 27) 1⟩, ⟨(some 13), none, .mov (.t 33)⟩, ⟨(some 14), none, .mov (.t 34)⟩])
 (.seq (.seq (.ops [⟨(some 35), none, .mov (.t 11)⟩, ⟨(some 36), none, .mov (.t 13)⟩, ⟨(some 37), none, .call 16 [(.t 35), (.t 36)]⟩, ⟨(some 38), none, .un .not (.t 37)⟩, ⟨(some 39), none, .mov (.t 38)⟩, ⟨(some 40), (some (39, false)), .mov (.t 12)⟩, ⟨(some 41), (some (39, false)), .call 17 [(.t 40)]⟩, ⟨(some 42), (some (39, false)), .mov (.t 14)⟩, ⟨(some 43), (some (39, false)), .bin .neq (.t 41) (.t 42)⟩, ⟨(some 44), none, .pick (.t 39) (.c (.bool true)) (.t 43)⟩])
 (.cond (.t 44) (.seq (.ops [⟨(some 8), none, .mov (.c (.bool false))⟩])
 .ret) .skip))
 (.seq (.ops [⟨(some 45), none, .mov (.t 11)⟩, ⟨(some 46), none, .call 18 [(.t 45)]⟩])
 (.seq (.ops [⟨(some 47), none, .load true 3 (.t 9)⟩, ⟨(some 48), none, .load true 3 (.t 4)⟩, ⟨(some 49), none, .call 19 [(.t 47), (.t 48)]⟩, ⟨(some 50), none, .mov (.t 49)⟩, ⟨(some 51), (some (50, true)), .mov (.t 10)⟩, ⟨(some 52), (some (50, true)), .mov (.t 3)⟩, ⟨(some 53), (some (50, true)), .call 20 [(.t 51), (.t 52)]⟩, ⟨(some 54), none, .pick (.t 50) (.t 53) (.c (.bool false))⟩, ⟨(some 55), none, .mov (.t 54)⟩, ⟨(some 56), (some (55, true)), .call 21 []⟩, ⟨(some 57), none, .pick (.t 55) (.t 56) (.c (.bool false))⟩, ⟨(some 8), none, .mov (.t 57)⟩])
 .ret)))))))⟩
/-- furlong/furlonglaw0.CopyMap -/
def v12 : VFun := ⟨1, [(.cell 2 true 3)], (.seq (.ops [⟨(some 1), none, .box 24 (.t 0)⟩, ⟨(some 2), none, .alloc [(.int .i64 0), .nils, .nils] 24⟩])
 (.seq (.mixed [⟨(some 3), none, .faddr 0 (.t 1)⟩, ⟨(some 4), none, .load false 1 (.t 3)⟩, ⟨(some 5), none, .bslice [(.int .i64 0)] 3 0 []⟩, ⟨(some 6), none, .faddr 1 (.t 1)⟩, ⟨(some 7), none, .load false 1 (.t 6)⟩, ⟨(some 8), none, .bi (.append 1 8 3) [(.t 5), (.t 7)]⟩, ⟨(some 9), none, .bslice [(.int .i64 0)] 3 0 []⟩, ⟨(some 10), none, .faddr 2 (.t 1)⟩, ⟨(some 11), none, .load false 1 (.t 10)⟩, ⟨(some 12), none, .bi (.append 1 8 3) [(.t 9), (.t 11)]⟩, ⟨(some 13), none, .build [(.int .i64 0), .nils, .nils] [(0, 1, (.t 4)), (1, 1, (.t 8)), (2, 1, (.t 12))]⟩, ⟨none, none, .store 3 (.t 2) (.t 13)⟩] [(1, [3, 6, 7, 10]), (4, [0]), (8, [0, 3, 6])])
 .ret))⟩
def b13_0 : VCode := (.seq (.seq (.ops [⟨(some 5), none, .mov (.t 4)⟩, ⟨(some 6), none, .mov (.t 0)⟩, ⟨(some 7), none, .bi (.len 1) [(.t 6)]⟩, ⟨(some 8), none, .bin .lss (.t 5) (.t 7)⟩])
 (.cond (.t 8) .skip (.exit 0)))
 (.seq (.block 1 (.ops [⟨(some 11), none, .mov (.t 3)⟩, ⟨(some 12), none, .mov (.t 0)⟩, ⟨(some 13), none, .mov (.t 4)⟩, ⟨(some 14), none, .iaddr 3 none (.t 12) (.t 13)⟩, ⟨(some 15), none, .load true 3 (.t 14)⟩, ⟨(some 16), none, .call 45 [(.t 15)]⟩, ⟨(some 17), none, .bslice [(.int .i64 0), (.int .i64 0), .nils] 50 1 [(0, 3, (.t 16))]⟩, ⟨(some 18), none, .bi (.append 3 40 50) [(.t 11), (.t 17)]⟩, ⟨(some 3), none, .mov (.t 18)⟩]))
 (.ops [⟨(some 9), none, .mov (.t 4)⟩, ⟨(some 10), none, .bin .add (.t 9) (.c (.int .i64 1))⟩, ⟨(some 4), none, .mov (.t 10)⟩])))
/-- furlong/furlonglaw0.CopyFeatures -/
def v13 : VFun := ⟨1, [(.tmp 2)], (.seq (.ops [⟨(some 2), none, .mov (.c .nils)⟩])
 (.seq (.ops [⟨(some 3), none, .mov (.c .nils)⟩])
 (.seq (.seq (.ops [⟨(some 4), none, .mov (.c (.int .i64 0))⟩])
 (.block 0 (.loop b13_0)))
 (.seq (.ops [⟨(some 19), none, .mov (.t 3)⟩, ⟨(some 2), none, .mov (.t 19)⟩])
 .ret))))⟩
def b14_0 : VCode := (.seq (.ops [⟨(some 35), none, .bin .lss (.t 34) (.t 33)⟩])
 (.seq (.cond (.t 35) .skip (.exit 0))
 (.seq (.block 1 (.seq (.ops [⟨(some 36), none, .iaddr 3 none (.t 32) (.t 34)⟩, ⟨(some 37), none, .load true 3 (.t 36)⟩, ⟨(some 14), none, .alloc [(.int .i64 0), (.int .i64 0), .nils] 50⟩, ⟨none, none, .store 3 (.t 14) (.t 37)⟩])
 (.ops [⟨(some 38), none, .mov (.t 12)⟩, ⟨(some 39), none, .load true 3 (.t 14)⟩, ⟨(some 40), none, .call 46 [(.t 39)]⟩, ⟨(some 41), none, .build [(.int .i64 0), (.int .i64 0), (.int .i64 0), .nils, (.int .i64 0), (.int .i64 0), .nils, .nils] [(0, 1, (.c (.int .i64 0))), (1, 3, (.t 40))]⟩, ⟨(some 42), none, .bslice [(.int .i64 0), (.int .i64 0), (.int .i64 0), .nils, (.int .i64 0), (.int .i64 0), .nils, .nils] 52 1 [(0, 8, (.t 41))]⟩, ⟨(some 43), none, .bi (.append 8 112 52) [(.t 38), (.t 42)]⟩, ⟨(some 12), none, .mov (.t 43)⟩])))
 (.ops [⟨(some 44), none, .bin .add (.t 34) (.c (.int .i64 1))⟩, ⟨(some 34), none, .mov (.t 44)⟩]))))
/-- furlong/reshard.Ops -/
def v14 : VFun := ⟨4, [(.tmp 8), (.tmp 9)], (.seq (.ops [⟨(some 4), none, .box 24 (.t 0)⟩, ⟨(some 6), none, .box 26 (.t 2)⟩, ⟨(some 8), none, .mov (.c .nils)⟩, ⟨(some 9), none, .mov (.c (.int .i64 0))⟩])
 (.seq (.ops [⟨(some 16), none, .load true 3 (.t 4)⟩, ⟨(some 17), none, .mov (.t 1)⟩, ⟨(some 18), none, .load true 3 (.t 6)⟩, ⟨(some 19), none, .call 32 [(.t 16), (.t 17), (.t 18)]⟩, ⟨(some 15), none, .mov (.t 19)⟩, ⟨(some 20), none, .extract (.t 15) 0⟩, ⟨(some 21), none, .extract (.t 15) 1⟩, ⟨(some 10), none, .alloc [(.int .i64 0), .nils, .nils] 24⟩, ⟨none, none, .store 3 (.t 10) (.t 20)⟩, ⟨(some 11), none, .mov (.t 21)⟩])
 (.seq (.seq (.ops [⟨(some 22), none, .mov (.t 11)⟩, ⟨(some 23), none, .bin .neq (.t 22) (.c (.int .i64 0))⟩, ⟨(some 24), none, .mov (.t 23)⟩, ⟨(some 25), (some (24, false)), .mov (.t 3)⟩, ⟨(some 26), (some (24, false)), .bi (.len 1) [(.t 25)]⟩, ⟨(some 27), (some (24, false)), .bin .geq (.t 26) (.c (.int .i64 32))⟩, ⟨(some 28), none, .pick (.t 24) (.c (.bool true)) (.t 27)⟩])
 (.cond (.t 28) (.seq (.ops [⟨(some 8), none, .mov (.c .nils)⟩, ⟨(some 9), none, .mov (.c (.int .i64 2200))⟩])
 .ret) .skip))
 (.seq (.ops [⟨(some 29), none, .load true 3 (.t 10)⟩, ⟨(some 30), none, .build [(.int .i64 0), (.int .i64 0), (.int .i64 0), .nils, (.int .i64 0), (.int .i64 0), .nils, .nils] [(0, 1, (.c (.int .i64 2))), (5, 3, (.t 29))]⟩, ⟨(some 31), none, .bslice [(.int .i64 0), (.int .i64 0), (.int .i64 0), .nils, (.int .i64 0), (.int .i64 0), .nils, .nils] 52 1 [(0, 8, (.t 30))]⟩, ⟨(some 12), none, .mov (.t 31)⟩])
 (.seq (.seq (.ops [⟨(some 32), none, .mov (.t 3)⟩, ⟨(some 33), none, .bi (.len 1) [(.t 32)]⟩, ⟨(some 34), none, .mov (.c (.int .i64 0))⟩])
 (.block 0 (.loop b14_0)))
 (.seq (.seq (.ops [⟨(some 45), none, .mov (.t 12)⟩, ⟨(some 46), none, .mov (.t 1)⟩, ⟨(some 47), none, .call 47 [(.t 45), (.t 46)]⟩, ⟨(some 48), none, .un .not (.t 47)⟩])
 (.cond (.t 48) (.seq (.ops [⟨(some 8), none, .mov (.c .nils)⟩, ⟨(some 9), none, .mov (.c (.int .i64 2200))⟩])
 .ret) .skip))
 (.seq (.ops [⟨(some 49), none, .mov (.t 12)⟩, ⟨(some 8), none, .mov (.t 49)⟩, ⟨(some 9), none, .mov (.c (.int .i64 0))⟩])
 .ret)))))))⟩
def b15_0 : VCode := (.seq (.seq (.ops [⟨(some 26), none, .mov (.t 13)⟩, ⟨(some 27), none, .mov (.t 3)⟩, ⟨(some 28), none, .bi (.len 1) [(.t 27)]⟩, ⟨(some 29), none, .bin .lss (.t 26) (.t 28)⟩])
 (.cond (.t 29) .skip (.exit 0)))
 (.seq (.block 1 (.ops [⟨(some 32), none, .mov (.t 12)⟩, ⟨(some 33), none, .mov (.t 3)⟩, ⟨(some 34), none, .mov (.t 13)⟩, ⟨(some 35), none, .iaddr 3 none (.t 33) (.t 34)⟩, ⟨(some 36), none, .load true 3 (.t 35)⟩, ⟨(some 37), none, .build [(.int .i64 0), (.int .i64 0), (.int .i64 0), .nils, (.int .i64 0), (.int .i64 0), .nils, .nils] [(0, 1, (.c (.int .i64 0))), (1, 3, (.t 36))]⟩, ⟨(some 38), none, .bslice [(.int .i64 0), (.int .i64 0), (.int .i64 0), .nils, (.int .i64 0), (.int .i64 0), .nils, .nils] 52 1 [(0, 8, (.t 37))]⟩, ⟨(some 39), none, .bi (.append 8 112 52) [(.t 32), (.t 38)]⟩, ⟨(some 12), none, .mov (.t 39)⟩]))
 (.ops [⟨(some 30), none, .mov (.t 13)⟩, ⟨(some 31), none, .bin .add (.t 30) (.c (.int .i64 1))⟩, ⟨(some 13), none, .mov (.t 31)⟩])))
/-- furlong/furlongref12.ReshardOps -/
def v15 : VFun := ⟨4, [(.tmp 8), (.tmp 9)], (.seq (.ops [⟨(some 4), none, .box 24 (.t 0)⟩, ⟨(some 6), none, .box 26 (.t 2)⟩, ⟨(some 8), none, .mov (.c .nils)⟩, ⟨(some 9), none, .mov (.c (.int .i64 0))⟩])
 (.seq (.ops [⟨(some 15), none, .load true 3 (.t 4)⟩, ⟨(some 16), none, .mov (.t 1)⟩, ⟨(some 17), none, .load true 3 (.t 6)⟩, ⟨(some 18), none, .call 29 [(.t 15), (.t 16), (.t 17)]⟩, ⟨(some 14), none, .mov (.t 18)⟩, ⟨(some 19), none, .extract (.t 14) 0⟩, ⟨(some 20), none, .extract (.t 14) 1⟩, ⟨(some 10), none, .alloc [(.int .i64 0), .nils, .nils] 24⟩, ⟨none, none, .store 3 (.t 10) (.t 19)⟩, ⟨(some 11), none, .mov (.t 20)⟩])
 (.seq (.seq (.ops [⟨(some 21), none, .mov (.t 11)⟩, ⟨(some 22), none, .bin .neq (.t 21) (.c (.int .i64 0))⟩])
 (.cond (.t 22) (.seq (.ops [⟨(some 8), none, .mov (.c .nils)⟩, ⟨(some 9), none, .mov (.c (.int .i64 2200))⟩])
 .ret) .skip))
 (.seq (.ops [⟨(some 23), none, .load true 3 (.t 10)⟩, ⟨(some 24), none, .build [(.int .i64 0), (.int .i64 0), (.int .i64 0), .nils, (.int .i64 0), (.int .i64 0), .nils, .nils] [(0, 1, (.c (.int .i64 2))), (5, 3, (.t 23))]⟩, ⟨(some 25), none, .bslice [(.int .i64 0), (.int .i64 0), (.int .i64 0), .nils, (.int .i64 0), (.int .i64 0), .nils, .nils] 52 1 [(0, 8, (.t 24))]⟩, ⟨(some 12), none, .mov (.t 25)⟩])
 (.seq (.seq (.ops [⟨(some 13), none, .mov (.c (.int .i64 0))⟩])
 (.block 0 (.loop b15_0)))
 (.seq (.seq (.ops [⟨(some 40), none, .mov (.t 12)⟩, ⟨(some 41), none, .call 48 [(.t 40)]⟩, ⟨(some 42), none, .un .not (.t 41)⟩])
 (.cond (.t 42) (.seq (.ops [⟨(some 8), none, .mov (.c .nils)⟩, ⟨(some 9), none, .mov (.c (.int .i64 2200))⟩])
 .ret) .skip))
 (.seq (.ops [⟨(some 43), none, .mov (.t 12)⟩, ⟨(some 8), none, .mov (.t 43)⟩, ⟨(some 9), none, .mov (.c (.int .i64 0))⟩])
 .ret)))))))⟩
def b16_0 : VCode := (.seq (.seq (.ops [⟨(some 11), none, .mov (.t 5)⟩, ⟨(some 12), none, .mov (.t 0)⟩, ⟨(some 13), none, .bi (.len 1) [(.t 12)]⟩, ⟨(some 14), none, .bin .lss (.t 11) (.t 13)⟩])
 (.cond (.t 14) .skip (.exit 0)))
 (.seq (.block 1 (.seq (.drawn [⟨(some 17), none, .mov (.t 0)⟩, ⟨(some 18), none, .mov (.t 5)⟩, ⟨(some 19), none, .iaddr 8 none (.t 17) (.t 18)⟩, ⟨(some 20), none, .faddr 0 (.t 19)⟩, ⟨(some 21), none, .load false 1 (.t 20)⟩, ⟨(some 22), none, .mov (.t 1)⟩, ⟨(some 23), none, .mov (.t 5)⟩, ⟨(some 24), none, .iaddr 8 none (.t 22) (.t 23)⟩, ⟨(some 25), none, .faddr 0 (.t 24)⟩, ⟨(some 26), none, .load false 1 (.t 25)⟩, ⟨(some 27), none, .bin .neq (.t 21) (.t 26)⟩, ⟨(some 28), none, .mov (.t 27)⟩, ⟨(some 29), (some (28, false)), .mov (.t 0)⟩, ⟨(some 30), (some (28, false)), .mov (.t 5)⟩, ⟨(some 31), (some (28, false)), .iaddr 8 none (.t 29) (.t 30)⟩, ⟨(some 32), (some (28, false)), .faddr 4 (.t 31)⟩, ⟨(some 33), (some (28, false)), .load false 1 (.t 32)⟩, ⟨(some 34), (some (28, false)), .mov (.t 1)⟩, ⟨(some 35), (some (28, false)), .mov (.t 5)⟩, ⟨(some 36), (some (28, false)), .iaddr 8 none (.t 34) (.t 35)⟩, ⟨(some 37), (some (28, false)), .faddr 4 (.t 36)⟩, ⟨(some 38), (some (28, false)), .load false 1 (.t 37)⟩, ⟨(some 39), (some (28, false)), .bin .neq (.t 33) (.t 38)⟩, ⟨(some 40), none, .pick (.t 28) (.c (.bool true)) (.t 39)⟩, ⟨(some 41), none, .mov (.t 40)⟩, ⟨(some 42), (some (41, false)), .mov (.t 0)⟩, ⟨(some 43), (some (41, false)), .mov (.t 5)⟩, ⟨(some 44), (some (41, false)), .iaddr 8 none (.t 42) (.t 43)⟩, ⟨(some 45), (some (41, false)), .faddr 1 (.t 44)⟩, ⟨(some 46), (some (41, false)), .load true 3 (.t 45)⟩, ⟨(some 47), (some (41, false)), .mov (.t 1)⟩, ⟨(some 48), (some (41, false)), .mov (.t 5)⟩, ⟨(some 49), (some (41, false)), .iaddr 8 none (.t 47) (.t 48)⟩, ⟨(some 50), (some (41, false)), .faddr 1 (.t 49)⟩, ⟨(some 51), (some (41, false)), .load true 3 (.t 50)⟩, ⟨(some 52), (some (41, false)), .call 26 [(.t 46), (.t 51)]⟩, ⟨(some 53), (some (41, false)), .un .not (.t 52)⟩, ⟨(some 54), none, .pick (.t 41) (.c (.bool true)) (.t 53)⟩, ⟨(some 55), none, .mov (.t 54)⟩, ⟨(some 56), (some (55, false)), .mov (.t 0)⟩, ⟨(some 57), (some (55, false)), .mov (.t 5)⟩, ⟨(some 58), (some (55, false)), .iaddr 8 none (.t 56) (.t 57)⟩, ⟨(some 59), (some (55, false)), .faddr 5 (.t 58)⟩, ⟨(some 60), (some (55, false)), .load true 3 (.t 59)⟩, ⟨(some 61), (some (55, false)), .mov (.t 1)⟩, ⟨(some 62), (some (55, false)), .mov (.t 5)⟩, ⟨(some 63), (some (55, false)), .iaddr 8 none (.t 61) (.t 62)⟩, ⟨(some 64), (some (55, false)), .faddr 5 (.t 63)⟩, ⟨(some 65), (some (55, false)), .load true 3 (.t 64)⟩, ⟨(some 66), (some (55, false)), .call 19 [(.t 60), (.t 65)]⟩, ⟨(some 67), (some (55, false)), .un .not (.t 66)⟩, ⟨(some 68), none, .pick (.t 55) (.c (.bool true)) (.t 67)⟩] [])
 (.cond (.t 68) (.seq (.ops [⟨(some 4), none, .mov (.c (.bool false))⟩])
 .ret) .skip)))
 (.ops [⟨(some 15), none, .mov (.t 5)⟩, ⟨(some 16), none, .bin .add (.t 15) (.c (.int .i64 1))⟩, ⟨(some 5), none, .mov (.t 16)⟩])))
/-- furlong/furlonglaw0.SameOps -/
def v16 : VFun := ⟨2, [(.tmp 4)], (.seq (.ops [⟨(some 4), none, .mov (.c (.bool false))⟩])
 (.seq (.seq (.ops [⟨(some 6), none, .mov (.t 0)⟩, ⟨(some 7), none, .bi (.len 1) [(.t 6)]⟩, ⟨(some 8), none, .mov (.t 1)⟩, ⟨(some 9), none, .bi (.len 1) [(.t 8)]⟩, ⟨(some 10), none, .bin .neq (.t 7) (.t 9)⟩])
 (.cond (.t 10) (.seq (.ops [⟨(some 4), none, .mov (.c (.bool false))⟩])
 .ret) .skip))
 (.seq (.seq (.ops [⟨(some 5), none, .mov (.c (.int .i64 0))⟩])
 (.block 0 (.loop b16_0)))
 (.seq (.ops [⟨(some 4), none, .mov (.c (.bool true))⟩])
 .ret))))⟩
/-- furlong/furlonglaw0.Num -/
def v17 : VFun := ⟨1, [(.tmp 2)], (.seq (.ops [⟨(some 2), none, .mov (.c (.int .i64 0))⟩])
 (.seq (.ops [⟨(some 3), none, .mov (.t 0)⟩, ⟨(some 2), none, .mov (.t 3)⟩])
 .ret))⟩
def b18_0 : VCode := (.seq (.seq (.ops [⟨(some 3), none, .mov (.t 2)⟩, ⟨(some 4), none, .mov (.t 0)⟩, ⟨(some 5), none, .bi (.len 1) [(.t 4)]⟩, ⟨(some 6), none, .bin .lss (.t 3) (.t 5)⟩])
 (.cond (.t 6) .skip (.exit 0)))
 (.seq (.block 1 (.seq (.ops [⟨(some 9), none, .mov (.t 0)⟩, ⟨(some 10), none, .mov (.t 2)⟩, ⟨(some 11), none, .iaddr 8 none (.t 9) (.t 10)⟩, ⟨(some 12), none, .faddr 1 (.t 11)⟩, ⟨(some 13), none, .load true 3 (.t 12)⟩, ⟨(some 14), none, .bslice [(.int .i64 0), (.int .i64 0), .nils] 50 1 [(0, 3, (.t 13))]⟩, ⟨(some 15), none, .call 49 [(.t 14)]⟩])
 (.seq (.ops [⟨(some 16), none, .mov (.t 0)⟩, ⟨(some 17), none, .mov (.t 2)⟩, ⟨(some 18), none, .iaddr 8 none (.t 16) (.t 17)⟩, ⟨(some 19), none, .faddr 5 (.t 18)⟩, ⟨(some 20), none, .load true 3 (.t 19)⟩, ⟨(some 21), none, .call 41 [(.t 20)]⟩])
 (.ops [⟨(some 22), none, .mov (.t 0)⟩, ⟨(some 23), none, .mov (.t 2)⟩, ⟨(some 24), none, .mov (.t 0)⟩, ⟨(some 25), none, .mov (.t 2)⟩, ⟨(some 26), none, .iaddr 8 none (.t 24) (.t 25)⟩, ⟨(some 27), none, .faddr 4 (.t 26)⟩, ⟨(some 28), none, .load false 1 (.t 27)⟩, ⟨(some 29), none, .bin .xor (.t 28) (.c (.int .i64 90))⟩, ⟨(some 30), none, .iaddr 8 none (.t 22) (.t 23)⟩, ⟨(some 31), none, .faddr 4 (.t 30)⟩, ⟨none, none, .store 1 (.t 31) (.t 29)⟩]))))
 (.ops [⟨(some 7), none, .mov (.t 2)⟩, ⟨(some 8), none, .bin .add (.t 7) (.c (.int .i64 1))⟩, ⟨(some 2), none, .mov (.t 8)⟩])))
/-- furlong/furlonglaw0.SpoilOps -/
def v18 : VFun := ⟨1, [], (.seq (.ops [⟨(some 2), none, .mov (.c (.int .i64 0))⟩])
 (.block 0 (.loop b18_0)))⟩
/-- furlong/furlonglaw0.SameMap -/
def v19 : VFun := ⟨2, [(.tmp 4)], (.seq (.ops [⟨(some 2), none, .box 24 (.t 0)⟩, ⟨(some 3), none, .box 24 (.t 1)⟩, ⟨(some 4), none, .mov (.c (.bool false))⟩])
 (.seq (.ops [⟨(some 5), none, .faddr 0 (.t 2)⟩, ⟨(some 6), none, .load false 1 (.t 5)⟩, ⟨(some 7), none, .faddr 0 (.t 3)⟩, ⟨(some 8), none, .load false 1 (.t 7)⟩, ⟨(some 9), none, .bin .eql (.t 6) (.t 8)⟩, ⟨(some 10), none, .mov (.t 9)⟩, ⟨(some 11), (some (10, true)), .faddr 1 (.t 2)⟩, ⟨(some 12), (some (10, true)), .load false 1 (.t 11)⟩, ⟨(some 13), (some (10, true)), .faddr 1 (.t 3)⟩, ⟨(some 14), (some (10, true)), .load false 1 (.t 13)⟩, ⟨(some 15), (some (10, true)), .call 30 [(.t 12), (.t 14)]⟩, ⟨(some 16), none, .pick (.t 10) (.t 15) (.c (.bool false))⟩, ⟨(some 17), none, .mov (.t 16)⟩, ⟨(some 18), (some (17, true)), .faddr 2 (.t 2)⟩, ⟨(some 19), (some (17, true)), .load false 1 (.t 18)⟩, ⟨(some 20), (some (17, true)), .faddr 2 (.t 3)⟩, ⟨(some 21), (some (17, true)), .load false 1 (.t 20)⟩, ⟨(some 22), (some (17, true)), .call 30 [(.t 19), (.t 21)]⟩, ⟨(some 23), none, .pick (.t 17) (.t 22) (.c (.bool false))⟩, ⟨(some 4), none, .mov (.t 23)⟩])
 .ret))⟩
def b20_0 : VCode := (.seq (.seq (.ops [⟨(some 11), none, .mov (.t 5)⟩, ⟨(some 12), none, .mov (.t 0)⟩, ⟨(some 13), none, .bi (.len 1) [(.t 12)]⟩, ⟨(some 14), none, .bin .lss (.t 11) (.t 13)⟩])
 (.cond (.t 14) .skip (.exit 0)))
 (.seq (.block 1 (.seq (.drawn [⟨(some 17), none, .mov (.t 0)⟩, ⟨(some 18), none, .mov (.t 5)⟩, ⟨(some 19), none, .iaddr 3 none (.t 17) (.t 18)⟩, ⟨(some 20), none, .load true 3 (.t 19)⟩, ⟨(some 21), none, .mov (.t 1)⟩, ⟨(some 22), none, .mov (.t 5)⟩, ⟨(some 23), none, .iaddr 3 none (.t 21) (.t 22)⟩, ⟨(some 24), none, .load true 3 (.t 23)⟩, ⟨(some 25), none, .call 26 [(.t 20), (.t 24)]⟩, ⟨(some 26), none, .un .not (.t 25)⟩] [])
 (.cond (.t 26) (.seq (.ops [⟨(some 4), none, .mov (.c (.bool false))⟩])
 .ret) .skip)))
 (.ops [⟨(some 15), none, .mov (.t 5)⟩, ⟨(some 16), none, .bin .add (.t 15) (.c (.int .i64 1))⟩, ⟨(some 5), none, .mov (.t 16)⟩])))
/-- furlong/furlonglaw0.SameFeatures -/
def v20 : VFun := ⟨2, [(.tmp 4)], (.seq (.ops [⟨(some 4), none, .mov (.c (.bool false))⟩])
 (.seq (.seq (.ops [⟨(some 6), none, .mov (.t 0)⟩, ⟨(some 7), none, .bi (.len 1) [(.t 6)]⟩, ⟨(some 8), none, .mov (.t 1)⟩, ⟨(some 9), none, .bi (.len 1) [(.t 8)]⟩, ⟨(some 10), none, .bin .neq (.t 7) (.t 9)⟩])
 (.cond (.t 10) (.seq (.ops [⟨(some 4), none, .mov (.c (.bool false))⟩])
 .ret) .skip))
 (.seq (.seq (.ops [⟨(some 5), none, .mov (.c (.int .i64 0))⟩])
 (.block 0 (.loop b20_0)))
 (.seq (.ops [⟨(some 4), none, .mov (.c (.bool true))⟩])
 .ret))))⟩
/-- furlong/furlonglaw22.awake -/
def v21 : VFun := ⟨0, [(.tmp 0)], (.seq (.ops [⟨(some 0), none, .mov (.c (.bool false))⟩])
 (.seq (.ops [⟨(some 9), none, .call 28 [(.c (.int .i64 2))]⟩, ⟨(some 8), none, .mov (.t 9)⟩, ⟨(some 10), none, .extract (.t 8) 0⟩, ⟨(some 11), none, .extract (.t 8) 1⟩, ⟨(some 1), none, .alloc [(.int .i64 0), .nils, .nils] 24⟩, ⟨none, none, .store 3 (.t 1) (.t 10)⟩, ⟨(some 2), none, .mov (.t 11)⟩])
 (.seq (.ops [⟨(some 12), none, .build [(.int .i64 0), (.int .i64 0)] [(0, 1, (.c (.int .i64 1))), (1, 1, (.c (.int .i64 2)))]⟩, ⟨(some 13), none, .bslice [(.int .i64 0), (.int .i64 0)] 61 1 [(0, 2, (.t 12))]⟩, ⟨(some 14), none, .bslice [.nils] 62 1 [(0, 1, (.t 13))]⟩, ⟨(some 15), none, .build [(.int .i64 0), (.int .i64 0), .nils] [(0, 1, (.c (.int .i64 4))), (2, 1, (.t 14))]⟩, ⟨(some 3), none, .alloc [(.int .i64 0), (.int .i64 0), .nils] 50⟩, ⟨none, none, .store 3 (.t 3) (.t 15)⟩])
 (.seq (.ops [⟨(some 17), none, .load true 3 (.t 1)⟩, ⟨(some 18), none, .build [(.int .i64 0), (.int .i64 0), (.int .i64 0)] [(0, 1, (.c (.int .i64 1))), (1, 1, (.c (.int .i64 0))), (2, 1, (.c (.int .i64 1)))]⟩, ⟨(some 19), none, .load true 3 (.t 3)⟩, ⟨(some 20), none, .bslice [(.int .i64 0), (.int .i64 0), .nils] 50 1 [(0, 3, (.t 19))]⟩, ⟨(some 21), none, .call 14 [(.t 17), (.c (.int .i64 2)), (.t 18), (.t 20)]⟩, ⟨(some 16), none, .mov (.t 21)⟩, ⟨(some 22), none, .extract (.t 16) 0⟩, ⟨(some 23), none, .extract (.t 16) 1⟩, ⟨(some 4), none, .mov (.t 22)⟩, ⟨(some 5), none, .mov (.t 23)⟩])
 (.seq (.ops [⟨(some 25), none, .load true 3 (.t 1)⟩, ⟨(some 26), none, .build [(.int .i64 0), (.int .i64 0), (.int .i64 0)] [(0, 1, (.c (.int .i64 1))), (1, 1, (.c (.int .i64 0))), (2, 1, (.c (.int .i64 2)))]⟩, ⟨(some 27), none, .call 14 [(.t 25), (.c (.int .i64 2)), (.t 26), (.c .nils)]⟩, ⟨(some 24), none, .mov (.t 27)⟩, ⟨(some 28), none, .extract (.t 24) 0⟩, ⟨(some 29), none, .extract (.t 24) 1⟩, ⟨(some 6), none, .mov (.t 28)⟩, ⟨(some 7), none, .mov (.t 29)⟩])
 (.seq (.drawn [⟨(some 30), none, .mov (.t 4)⟩, ⟨(some 31), none, .bi (.len 1) [(.t 30)]⟩, ⟨(some 32), none, .bin .eql (.t 31) (.c (.int .i64 2))⟩, ⟨(some 33), none, .mov (.t 32)⟩, ⟨(some 34), (some (33, true)), .mov (.t 4)⟩, ⟨(some 35), (some (33, true)), .iaddr 8 none (.t 34) (.c (.int .i64 0))⟩, ⟨(some 36), (some (33, true)), .faddr 0 (.t 35)⟩, ⟨(some 37), (some (33, true)), .load false 1 (.t 36)⟩, ⟨(some 38), (some (33, true)), .bin .eql (.t 37) (.c (.int .i64 2))⟩, ⟨(some 39), none, .pick (.t 33) (.t 38) (.c (.bool false))⟩, ⟨(some 40), none, .mov (.t 39)⟩, ⟨(some 41), (some (40, true)), .mov (.t 4)⟩, ⟨(some 42), (some (40, true)), .iaddr 8 none (.t 41) (.c (.int .i64 0))⟩, ⟨(some 43), (some (40, true)), .faddr 5 (.t 42)⟩, ⟨(some 44), (some (40, true)), .faddr 0 (.t 43)⟩, ⟨(some 45), (some (40, true)), .load false 1 (.t 44)⟩, ⟨(some 46), (some (40, true)), .bin .eql (.t 45) (.c (.int .i64 2))⟩, ⟨(some 47), none, .pick (.t 40) (.t 46) (.c (.bool false))⟩, ⟨(some 48), none, .mov (.t 47)⟩, ⟨(some 49), (some (48, true)), .mov (.t 4)⟩, ⟨(some 50), (some (48, true)), .iaddr 8 none (.t 49) (.c (.int .i64 0))⟩, ⟨(some 51), (some (48, true)), .faddr 5 (.t 50)⟩, ⟨(some 52), (some (48, true)), .faddr 2 (.t 51)⟩, ⟨(some 53), (some (48, true)), .load false 1 (.t 52)⟩, ⟨(some 54), (some (48, true)), .bslice [(.int .i64 0)] 3 2 [(0, 1, (.c (.int .i64 1))), (1, 1, (.c (.int .i64 1)))]⟩, ⟨(some 55), (some (48, true)), .call 30 [(.t 53), (.t 54)]⟩, ⟨(some 56), none, .pick (.t 48) (.t 55) (.c (.bool false))⟩, ⟨(some 57), none, .mov (.t 56)⟩, ⟨(some 58), (some (57, true)), .mov (.t 4)⟩, ⟨(some 59), (some (57, true)), .iaddr 8 none (.t 58) (.c (.int .i64 1))⟩, ⟨(some 60), (some (57, true)), .faddr 1 (.t 59)⟩, ⟨(some 61), (some (57, true)), .load true 3 (.t 60)⟩, ⟨(some 62), (some (57, true)), .load true 3 (.t 3)⟩, ⟨(some 63), (some (57, true)), .call 26 [(.t 61), (.t 62)]⟩, ⟨(some 64), none, .pick (.t 57) (.t 63) (.c (.bool false))⟩, ⟨(some 65), none, .mov (.t 64)⟩, ⟨(some 66), (some (65, true)), .mov (.t 5)⟩, ⟨(some 67), (some (65, true)), .call 17 [(.t 66)]⟩, ⟨(some 68), (some (65, true)), .bin .eql (.t 67) (.c (.int .i64 0))⟩, ⟨(some 69), none, .pick (.t 65) (.t 68) (.c (.bool false))⟩, ⟨(some 70), none, .mov (.t 69)⟩, ⟨(some 71), (some (70, true)), .mov (.t 7)⟩, ⟨(some 72), (some (70, true)), .call 17 [(.t 71)]⟩, ⟨(some 73), (some (70, true)), .bin .eql (.t 72) (.c (.int .i64 2200))⟩, ⟨(some 74), none, .pick (.t 70) (.t 73) (.c (.bool false))⟩, ⟨(some 0), none, .mov (.t 74)⟩] [(23, [25])])
 .ret))))))⟩
def b26_0 : VCode := (.seq (.seq (.ops [⟨(some 48), none, .mov (.t 6)⟩, ⟨(some 49), none, .faddr 2 (.t 2)⟩, ⟨(some 50), none, .load false 1 (.t 49)⟩, ⟨(some 51), none, .mov (.t 5)⟩, ⟨(some 52), none, .iaddr 1 none (.t 50) (.t 51)⟩, ⟨(some 53), none, .load false 1 (.t 52)⟩, ⟨(some 54), none, .bi (.len 1) [(.t 53)]⟩, ⟨(some 55), none, .bin .lss (.t 48) (.t 54)⟩])
 (.cond (.t 55) .skip (.exit 2)))
 (.seq (.block 3 (.seq (.drawn [⟨(some 58), none, .faddr 2 (.t 2)⟩, ⟨(some 59), none, .load false 1 (.t 58)⟩, ⟨(some 60), none, .mov (.t 5)⟩, ⟨(some 61), none, .iaddr 1 none (.t 59) (.t 60)⟩, ⟨(some 62), none, .load false 1 (.t 61)⟩, ⟨(some 63), none, .mov (.t 6)⟩, ⟨(some 64), none, .iaddr 2 none (.t 62) (.t 63)⟩, ⟨(some 65), none, .load true 2 (.t 64)⟩, ⟨(some 66), none, .faddr 2 (.t 3)⟩, ⟨(some 67), none, .load false 1 (.t 66)⟩, ⟨(some 68), none, .mov (.t 5)⟩, ⟨(some 69), none, .iaddr 1 none (.t 67) (.t 68)⟩, ⟨(some 70), none, .load false 1 (.t 69)⟩, ⟨(some 71), none, .mov (.t 6)⟩, ⟨(some 72), none, .iaddr 2 none (.t 70) (.t 71)⟩, ⟨(some 73), none, .load true 2 (.t 72)⟩, ⟨(some 74), none, .eqs (.flat [.int, .int]) true (.t 65) (.t 73)⟩] [])
 (.cond (.t 74) (.seq (.ops [⟨(some 4), none, .mov (.c (.bool false))⟩])
 .ret) .skip)))
 (.ops [⟨(some 56), none, .mov (.t 6)⟩, ⟨(some 57), none, .bin .add (.t 56) (.c (.int .i64 1))⟩, ⟨(some 6), none, .mov (.t 57)⟩])))
def b26_1 : VCode := (.seq (.seq (.ops [⟨(some 28), none, .mov (.t 5)⟩, ⟨(some 29), none, .faddr 2 (.t 2)⟩, ⟨(some 30), none, .load false 1 (.t 29)⟩, ⟨(some 31), none, .bi (.len 1) [(.t 30)]⟩, ⟨(some 32), none, .bin .lss (.t 28) (.t 31)⟩])
 (.cond (.t 32) .skip (.exit 0)))
 (.seq (.block 1 (.seq (.seq (.drawn [⟨(some 35), none, .faddr 2 (.t 2)⟩, ⟨(some 36), none, .load false 1 (.t 35)⟩, ⟨(some 37), none, .mov (.t 5)⟩, ⟨(some 38), none, .iaddr 1 none (.t 36) (.t 37)⟩, ⟨(some 39), none, .load false 1 (.t 38)⟩, ⟨(some 40), none, .bi (.len 1) [(.t 39)]⟩, ⟨(some 41), none, .faddr 2 (.t 3)⟩, ⟨(some 42), none, .load false 1 (.t 41)⟩, ⟨(some 43), none, .mov (.t 5)⟩, ⟨(some 44), none, .iaddr 1 none (.t 42) (.t 43)⟩, ⟨(some 45), none, .load false 1 (.t 44)⟩, ⟨(some 46), none, .bi (.len 1) [(.t 45)]⟩, ⟨(some 47), none, .bin .neq (.t 40) (.t 46)⟩] [])
 (.cond (.t 47) (.seq (.ops [⟨(some 4), none, .mov (.c (.bool false))⟩])
 .ret) .skip))
 (.seq (.ops [⟨(some 6), none, .mov (.c (.int .i64 0))⟩])
 (.block 2 (.loop b26_0)))))
 (.ops [⟨(some 33), none, .mov (.t 5)⟩, ⟨(some 34), none, .bin .add (.t 33) (.c (.int .i64 1))⟩, ⟨(some 5), none, .mov (.t 34)⟩])))
/-- furlong/furlonglaw0.SameFeature -/
def v26 : VFun := ⟨2, [(.tmp 4)], (.seq (.ops [⟨(some 2), none, .box 50 (.t 0)⟩, ⟨(some 3), none, .box 50 (.t 1)⟩, ⟨(some 4), none, .mov (.c (.bool false))⟩])
 (.seq (.seq (.ops [⟨(some 7), none, .faddr 0 (.t 2)⟩, ⟨(some 8), none, .load false 1 (.t 7)⟩, ⟨(some 9), none, .faddr 0 (.t 3)⟩, ⟨(some 10), none, .load false 1 (.t 9)⟩, ⟨(some 11), none, .bin .neq (.t 8) (.t 10)⟩, ⟨(some 12), none, .mov (.t 11)⟩, ⟨(some 13), (some (12, false)), .faddr 1 (.t 2)⟩, ⟨(some 14), (some (12, false)), .load false 1 (.t 13)⟩, ⟨(some 15), (some (12, false)), .faddr 1 (.t 3)⟩, ⟨(some 16), (some (12, false)), .load false 1 (.t 15)⟩, ⟨(some 17), (some (12, false)), .bin .neq (.t 14) (.t 16)⟩, ⟨(some 18), none, .pick (.t 12) (.c (.bool true)) (.t 17)⟩, ⟨(some 19), none, .mov (.t 18)⟩, ⟨(some 20), (some (19, false)), .faddr 2 (.t 2)⟩, ⟨(some 21), (some (19, false)), .load false 1 (.t 20)⟩, ⟨(some 22), (some (19, false)), .bi (.len 1) [(.t 21)]⟩, ⟨(some 23), (some (19, false)), .faddr 2 (.t 3)⟩, ⟨(some 24), (some (19, false)), .load false 1 (.t 23)⟩, ⟨(some 25), (some (19, false)), .bi (.len 1) [(.t 24)]⟩, ⟨(some 26), (some (19, false)), .bin .neq (.t 22) (.t 25)⟩, ⟨(some 27), none, .pick (.t 19) (.c (.bool true)) (.t 26)⟩])
 (.cond (.t 27) (.seq (.ops [⟨(some 4), none, .mov (.c (.bool false))⟩])
 .ret) .skip))
 (.seq (.seq (.ops [⟨(some 5), none, .mov (.c (.int .i64 0))⟩])
 (.block 0 (.loop b26_1)))
 (.seq (.ops [⟨(some 4), none, .mov (.c (.bool true))⟩])
 .ret))))⟩
def b28_0 : VCode := (.seq (.seq (.ops [⟨(some 14), none, .mov (.t 5)⟩, ⟨(some 15), none, .mov (.t 0)⟩, ⟨(some 16), none, .bin .lss (.t 14) (.t 15)⟩])
 (.cond (.t 16) .skip (.exit 0)))
 (.seq (.block 1 (.seq (.drawn [⟨(some 19), none, .faddr 1 (.t 4)⟩, ⟨(some 20), none, .load false 1 (.t 19)⟩, ⟨(some 21), none, .mov (.t 5)⟩, ⟨(some 22), none, .bin .mul (.t 21) (.c (.int .i64 4294967296))⟩, ⟨(some 23), none, .mov (.t 0)⟩, ⟨(some 24), none, .bin .quo (.t 22) (.t 23)⟩, ⟨(some 25), none, .bslice [(.int .i64 0)] 3 1 [(0, 1, (.t 24))]⟩, ⟨(some 26), none, .bi (.append 1 8 3) [(.t 20), (.t 25)]⟩, ⟨(some 27), none, .faddr 1 (.t 4)⟩, ⟨none, none, .store 1 (.t 27) (.t 26)⟩] [(1, [7])])
 (.ops [⟨(some 28), none, .faddr 2 (.t 4)⟩, ⟨(some 29), none, .load false 1 (.t 28)⟩, ⟨(some 30), none, .mov (.t 5)⟩, ⟨(some 31), none, .bslice [(.int .i64 0)] 3 1 [(0, 1, (.t 30))]⟩, ⟨(some 32), none, .bi (.append 1 8 3) [(.t 29), (.t 31)]⟩, ⟨(some 33), none, .faddr 2 (.t 4)⟩, ⟨none, none, .store 1 (.t 33) (.t 32)⟩])))
 (.ops [⟨(some 17), none, .mov (.t 5)⟩, ⟨(some 18), none, .bin .add (.t 17) (.c (.int .i64 1))⟩, ⟨(some 5), none, .mov (.t 18)⟩])))
/-- furlong/furlongref1.First -/
def v28 : VFun := ⟨1, [(.cell 2 true 3), (.tmp 3)], (.seq (.ops [⟨(some 2), none, .alloc [(.int .i64 0), .nils, .nils] 24⟩, ⟨(some 3), none, .mov (.c (.int .i64 0))⟩])
 (.seq (.seq (.ops [⟨(some 6), none, .mov (.t 0)⟩, ⟨(some 7), none, .bin .lss (.t 6) (.c (.int .i64 1))⟩, ⟨(some 8), none, .mov (.t 7)⟩, ⟨(some 9), (some (8, false)), .mov (.t 0)⟩, ⟨(some 10), (some (8, false)), .bin .gtr (.t 9) (.c (.int .i64 8))⟩, ⟨(some 11), none, .pick (.t 8) (.c (.bool true)) (.t 10)⟩])
 (.cond (.t 11) (.seq (.ops [⟨(some 12), none, .build [(.int .i64 0), .nils, .nils] []⟩, ⟨none, none, .store 3 (.t 2) (.t 12)⟩, ⟨(some 3), none, .mov (.c (.int .i64 700))⟩])
 .ret) .skip))
 (.seq (.ops [⟨(some 13), none, .build [(.int .i64 0), .nils, .nils] [(0, 1, (.c (.int .i64 1)))]⟩, ⟨(some 4), none, .alloc [(.int .i64 0), .nils, .nils] 24⟩, ⟨none, none, .store 3 (.t 4) (.t 13)⟩])
 (.seq (.seq (.ops [⟨(some 5), none, .mov (.c (.int .i64 0))⟩])
 (.block 0 (.loop b28_0)))
 (.seq (.ops [⟨(some 34), none, .load true 3 (.t 4)⟩, ⟨none, none, .store 3 (.t 2) (.t 34)⟩, ⟨(some 3), none, .mov (.c (.int .i64 0))⟩])
 .ret)))))⟩
/-- furlong/furlongref1.Change -/
def v29 : VFun := ⟨3, [(.cell 6 true 3), (.tmp 7)], (.seq (.ops [⟨(some 3), none, .box 24 (.t 0)⟩, ⟨(some 5), none, .box 26 (.t 2)⟩, ⟨(some 6), none, .alloc [(.int .i64 0), .nils, .nils] 24⟩, ⟨(some 7), none, .mov (.c (.int .i64 0))⟩])
 (.seq (.seq (.ops [⟨(some 10), none, .load true 3 (.t 3)⟩, ⟨(some 11), none, .mov (.t 1)⟩, ⟨(some 12), none, .call 42 [(.t 10), (.t 11)]⟩, ⟨(some 13), none, .un .not (.t 12)⟩, ⟨(some 14), none, .mov (.t 13)⟩, ⟨(some 15), (some (14, false)), .faddr 0 (.t 5)⟩, ⟨(some 16), (some (14, false)), .load false 1 (.t 15)⟩, ⟨(some 17), (some (14, false)), .bin .lss (.t 16) (.c (.int .i64 0))⟩, ⟨(some 18), none, .pick (.t 14) (.c (.bool true)) (.t 17)⟩, ⟨(some 19), none, .mov (.t 18)⟩, ⟨(some 20), (some (19, false)), .faddr 0 (.t 5)⟩, ⟨(some 21), (some (19, false)), .load false 1 (.t 20)⟩, ⟨(some 22), (some (19, false)), .bin .gtr (.t 21) (.c (.int .i64 2))⟩, ⟨(some 23), none, .pick (.t 19) (.c (.bool true)) (.t 22)⟩, ⟨(some 24), none, .mov (.t 23)⟩, ⟨(some 25), (some (24, false)), .faddr 1 (.t 5)⟩, ⟨(some 26), (some (24, false)), .load false 1 (.t 25)⟩, ⟨(some 27), (some (24, false)), .bin .lss (.t 26) (.c (.int .i64 0))⟩, ⟨(some 28), none, .pick (.t 24) (.c (.bool true)) (.t 27)⟩, ⟨(some 29), none, .mov (.t 28)⟩, ⟨(some 30), (some (29, false)), .faddr 1 (.t 5)⟩, ⟨(some 31), (some (29, false)), .load false 1 (.t 30)⟩, ⟨(some 32), (some (29, false)), .bin .geq (.t 31) (.c (.int .i64 4294967296))⟩, ⟨(some 33), none, .pick (.t 29) (.c (.bool true)) (.t 32)⟩])
 (.cond (.t 33) (.seq (.ops [⟨(some 34), none, .build [(.int .i64 0), .nils, .nils] []⟩, ⟨none, none, .store 3 (.t 6) (.t 34)⟩, ⟨(some 7), none, .mov (.c (.int .i64 700))⟩])
 .ret) .skip))
 (.seq (.seq (.ops [⟨(some 35), none, .faddr 0 (.t 3)⟩, ⟨(some 36), none, .load false 1 (.t 35)⟩, ⟨(some 37), none, .bin .eql (.t 36) (.c (.int .i64 65535))⟩])
 (.cond (.t 37) (.seq (.ops [⟨(some 38), none, .build [(.int .i64 0), .nils, .nils] []⟩, ⟨none, none, .store 3 (.t 6) (.t 38)⟩, ⟨(some 7), none, .mov (.c (.int .i64 701))⟩])
 .ret) .skip))
 (.seq (.ops [⟨(some 39), none, .load true 3 (.t 3)⟩, ⟨(some 40), none, .faddr 1 (.t 5)⟩, ⟨(some 41), none, .load false 1 (.t 40)⟩, ⟨(some 42), none, .call 56 [(.t 39), (.t 41)]⟩, ⟨(some 8), none, .mov (.t 42)⟩])
 (.seq (.mixed [⟨(some 43), none, .faddr 0 (.t 3)⟩, ⟨(some 44), none, .load false 1 (.t 43)⟩, ⟨(some 45), none, .bin .add (.t 44) (.c (.int .i64 1))⟩, ⟨(some 46), none, .bslice [(.int .i64 0)] 3 0 []⟩, ⟨(some 47), none, .faddr 1 (.t 3)⟩, ⟨(some 48), none, .load false 1 (.t 47)⟩, ⟨(some 49), none, .bi (.append 1 8 3) [(.t 46), (.t 48)]⟩, ⟨(some 50), none, .bslice [(.int .i64 0)] 3 0 []⟩, ⟨(some 51), none, .faddr 2 (.t 3)⟩, ⟨(some 52), none, .load false 1 (.t 51)⟩, ⟨(some 53), none, .bi (.append 1 8 3) [(.t 50), (.t 52)]⟩, ⟨(some 54), none, .build [(.int .i64 0), .nils, .nils] [(0, 1, (.t 45)), (1, 1, (.t 49)), (2, 1, (.t 53))]⟩, ⟨(some 9), none, .alloc [(.int .i64 0), .nils, .nils] 24⟩, ⟨none, none, .store 3 (.t 9) (.t 54)⟩] [(1, [4, 7, 8, 11, 13]), (5, [0]), (9, [0, 4, 7])])
 (.seq (.seq (.ops [⟨(some 55), none, .faddr 0 (.t 5)⟩, ⟨(some 56), none, .load false 1 (.t 55)⟩])
 (.block 0 (.seq (.ops [⟨(some 77), none, .bin .eql (.t 56) (.c (.int .i64 0))⟩, ⟨(some 76), none, .mov (.t 77)⟩])
 (.cond (.t 76) (.seq (.seq (.drawn [⟨(some 78), none, .faddr 1 (.t 3)⟩, ⟨(some 79), none, .load false 1 (.t 78)⟩, ⟨(some 80), none, .mov (.t 8)⟩, ⟨(some 81), none, .iaddr 1 none (.t 79) (.t 80)⟩, ⟨(some 82), none, .load false 1 (.t 81)⟩, ⟨(some 83), none, .faddr 1 (.t 5)⟩, ⟨(some 84), none, .load false 1 (.t 83)⟩, ⟨(some 85), none, .bin .eql (.t 82) (.t 84)⟩, ⟨(some 86), none, .mov (.t 85)⟩, ⟨(some 87), (some (86, false)), .faddr 1 (.t 3)⟩, ⟨(some 88), (some (86, false)), .load false 1 (.t 87)⟩, ⟨(some 89), (some (86, false)), .bi (.len 1) [(.t 88)]⟩, ⟨(some 90), (some (86, false)), .bin .eql (.t 89) (.c (.int .i64 32))⟩, ⟨(some 91), none, .pick (.t 86) (.c (.bool true)) (.t 90)⟩] [])
 (.cond (.t 91) (.seq (.ops [⟨(some 92), none, .build [(.int .i64 0), .nils, .nils] []⟩, ⟨none, none, .store 3 (.t 6) (.t 92)⟩, ⟨(some 7), none, .mov (.c (.int .i64 700))⟩])
 .ret) .skip))
 (.seq (.ops [⟨(some 93), none, .faddr 1 (.t 3)⟩, ⟨(some 94), none, .load false 1 (.t 93)⟩, ⟨(some 95), none, .mov (.t 8)⟩, ⟨(some 96), none, .bin .add (.t 95) (.c (.int .i64 1))⟩, ⟨(some 97), none, .faddr 1 (.t 5)⟩, ⟨(some 98), none, .load false 1 (.t 97)⟩, ⟨(some 99), none, .call 57 [(.t 94), (.t 96), (.t 98), (.c (.bool false))]⟩, ⟨(some 100), none, .faddr 1 (.t 9)⟩, ⟨none, none, .store 1 (.t 100) (.t 99)⟩])
 (.drawn [⟨(some 101), none, .faddr 2 (.t 3)⟩, ⟨(some 102), none, .load false 1 (.t 101)⟩, ⟨(some 103), none, .mov (.t 8)⟩, ⟨(some 104), none, .bin .add (.t 103) (.c (.int .i64 1))⟩, ⟨(some 105), none, .faddr 2 (.t 3)⟩, ⟨(some 106), none, .load false 1 (.t 105)⟩, ⟨(some 107), none, .mov (.t 8)⟩, ⟨(some 108), none, .iaddr 1 none (.t 106) (.t 107)⟩, ⟨(some 109), none, .load false 1 (.t 108)⟩, ⟨(some 110), none, .call 57 [(.t 102), (.t 104), (.t 109), (.c (.bool false))]⟩, ⟨(some 111), none, .faddr 2 (.t 9)⟩, ⟨none, none, .store 1 (.t 111) (.t 110)⟩] []))) (.seq (.ops [⟨(some 113), none, .bin .eql (.t 56) (.c (.int .i64 1))⟩, ⟨(some 112), none, .mov (.t 113)⟩])
 (.cond (.t 112) (.seq (.seq (.ops [⟨(some 114), none, .faddr 2 (.t 5)⟩, ⟨(some 115), none, .load false 1 (.t 114)⟩, ⟨(some 116), none, .bin .lss (.t 115) (.c (.int .i64 0))⟩, ⟨(some 117), none, .mov (.t 116)⟩, ⟨(some 118), (some (117, false)), .faddr 2 (.t 5)⟩, ⟨(some 119), (some (117, false)), .load false 1 (.t 118)⟩, ⟨(some 120), (some (117, false)), .mov (.t 1)⟩, ⟨(some 121), (some (117, false)), .bin .geq (.t 119) (.t 120)⟩, ⟨(some 122), none, .pick (.t 117) (.c (.bool true)) (.t 121)⟩])
 (.cond (.t 122) (.seq (.ops [⟨(some 123), none, .build [(.int .i64 0), .nils, .nils] []⟩, ⟨none, none, .store 3 (.t 6) (.t 123)⟩, ⟨(some 7), none, .mov (.c (.int .i64 700))⟩])
 .ret) .skip))
 (.ops [⟨(some 124), none, .faddr 2 (.t 9)⟩, ⟨(some 125), none, .load false 1 (.t 124)⟩, ⟨(some 126), none, .mov (.t 8)⟩, ⟨(some 127), none, .faddr 2 (.t 5)⟩, ⟨(some 128), none, .load false 1 (.t 127)⟩, ⟨(some 129), none, .iaddr 1 none (.t 125) (.t 126)⟩, ⟨none, none, .store 1 (.t 129) (.t 128)⟩])) (.seq (.seq (.ops [⟨(some 57), none, .mov (.t 8)⟩, ⟨(some 58), none, .bin .add (.t 57) (.c (.int .i64 1))⟩, ⟨(some 59), none, .faddr 1 (.t 3)⟩, ⟨(some 60), none, .load false 1 (.t 59)⟩, ⟨(some 61), none, .bi (.len 1) [(.t 60)]⟩, ⟨(some 62), none, .bin .eql (.t 58) (.t 61)⟩])
 (.cond (.t 62) (.seq (.ops [⟨(some 63), none, .build [(.int .i64 0), .nils, .nils] []⟩, ⟨none, none, .store 3 (.t 6) (.t 63)⟩, ⟨(some 7), none, .mov (.c (.int .i64 700))⟩])
 .ret) .skip))
 (.seq (.ops [⟨(some 64), none, .faddr 1 (.t 3)⟩, ⟨(some 65), none, .load false 1 (.t 64)⟩, ⟨(some 66), none, .mov (.t 8)⟩, ⟨(some 67), none, .bin .add (.t 66) (.c (.int .i64 1))⟩, ⟨(some 68), none, .call 57 [(.t 65), (.t 67), (.c (.int .i64 0)), (.c (.bool true))]⟩, ⟨(some 69), none, .faddr 1 (.t 9)⟩, ⟨none, none, .store 1 (.t 69) (.t 68)⟩])
 (.ops [⟨(some 70), none, .faddr 2 (.t 3)⟩, ⟨(some 71), none, .load false 1 (.t 70)⟩, ⟨(some 72), none, .mov (.t 8)⟩, ⟨(some 73), none, .bin .add (.t 72) (.c (.int .i64 1))⟩, ⟨(some 74), none, .call 57 [(.t 71), (.t 73), (.c (.int .i64 0)), (.c (.bool true))]⟩, ⟨(some 75), none, .faddr 2 (.t 9)⟩, ⟨none, none, .store 1 (.t 75) (.t 74)⟩])))))))))
 (.seq (.ops [⟨(some 130), none, .load true 3 (.t 9)⟩, ⟨none, none, .store 3 (.t 6) (.t 130)⟩, ⟨(some 7), none, .mov (.c (.int .i64 0))⟩])
 .ret)))))))⟩
def b30_0 : VCode := (.seq (.seq (.ops [⟨(some 11), none, .mov (.t 5)⟩, ⟨(some 12), none, .mov (.t 0)⟩, ⟨(some 13), none, .bi (.len 1) [(.t 12)]⟩, ⟨(some 14), none, .bin .lss (.t 11) (.t 13)⟩])
 (.cond (.t 14) .skip (.exit 0)))
 (.seq (.block 1 (.seq (.drawn [⟨(some 17), none, .mov (.t 0)⟩, ⟨(some 18), none, .mov (.t 5)⟩, ⟨(some 19), none, .iaddr 1 none (.t 17) (.t 18)⟩, ⟨(some 20), none, .load false 1 (.t 19)⟩, ⟨(some 21), none, .mov (.t 1)⟩, ⟨(some 22), none, .mov (.t 5)⟩, ⟨(some 23), none, .iaddr 1 none (.t 21) (.t 22)⟩, ⟨(some 24), none, .load false 1 (.t 23)⟩, ⟨(some 25), none, .bin .neq (.t 20) (.t 24)⟩] [])
 (.cond (.t 25) (.seq (.ops [⟨(some 4), none, .mov (.c (.bool false))⟩])
 .ret) .skip)))
 (.ops [⟨(some 15), none, .mov (.t 5)⟩, ⟨(some 16), none, .bin .add (.t 15) (.c (.int .i64 1))⟩, ⟨(some 5), none, .mov (.t 16)⟩])))
/-- furlong/furlonglaw0.SameInts -/
def v30 : VFun := ⟨2, [(.tmp 4)], (.seq (.ops [⟨(some 4), none, .mov (.c (.bool false))⟩])
 (.seq (.seq (.ops [⟨(some 6), none, .mov (.t 0)⟩, ⟨(some 7), none, .bi (.len 1) [(.t 6)]⟩, ⟨(some 8), none, .mov (.t 1)⟩, ⟨(some 9), none, .bi (.len 1) [(.t 8)]⟩, ⟨(some 10), none, .bin .neq (.t 7) (.t 9)⟩])
 (.cond (.t 10) (.seq (.ops [⟨(some 4), none, .mov (.c (.bool false))⟩])
 .ret) .skip))
 (.seq (.seq (.ops [⟨(some 5), none, .mov (.c (.int .i64 0))⟩])
 (.block 0 (.loop b30_0)))
 (.seq (.ops [⟨(some 4), none, .mov (.c (.bool true))⟩])
 .ret))))⟩
/-- furlong/smap.Change -/
def v32 : VFun := ⟨3, [(.cell 6 true 3), (.tmp 7)], (.seq (.ops [⟨(some 3), none, .box 24 (.t 0)⟩, ⟨(some 5), none, .box 26 (.t 2)⟩, ⟨(some 6), none, .alloc [(.int .i64 0), .nils, .nils] 24⟩, ⟨(some 7), none, .mov (.c (.int .i64 0))⟩])
 (.seq (.block 0 (.seq (.ops [⟨(some 11), none, .load true 3 (.t 3)⟩, ⟨(some 12), none, .mov (.t 1)⟩, ⟨(some 13), none, .call 35 [(.t 11), (.t 12)]⟩, ⟨(some 14), none, .un .not (.t 13)⟩, ⟨(some 15), none, .mov (.t 14)⟩, ⟨(some 16), (some (15, false)), .faddr 0 (.t 5)⟩, ⟨(some 17), (some (15, false)), .load false 1 (.t 16)⟩, ⟨(some 18), (some (15, false)), .bin .lss (.t 17) (.c (.int .i64 0))⟩, ⟨(some 19), none, .pick (.t 15) (.c (.bool true)) (.t 18)⟩, ⟨(some 20), none, .mov (.t 19)⟩, ⟨(some 21), (some (20, false)), .faddr 0 (.t 5)⟩, ⟨(some 22), (some (20, false)), .load false 1 (.t 21)⟩, ⟨(some 23), (some (20, false)), .bin .gtr (.t 22) (.c (.int .i64 2))⟩, ⟨(some 24), none, .pick (.t 20) (.c (.bool true)) (.t 23)⟩, ⟨(some 25), none, .mov (.t 24)⟩, ⟨(some 26), (some (25, false)), .faddr 1 (.t 5)⟩, ⟨(some 27), (some (25, false)), .load false 1 (.t 26)⟩, ⟨(some 28), (some (25, false)), .bin .lss (.t 27) (.c (.int .i64 0))⟩, ⟨(some 29), none, .pick (.t 25) (.c (.bool true)) (.t 28)⟩, ⟨(some 30), none, .mov (.t 29)⟩, ⟨(some 31), (some (30, false)), .faddr 1 (.t 5)⟩, ⟨(some 32), (some (30, false)), .load false 1 (.t 31)⟩, ⟨(some 33), (some (30, false)), .bin .geq (.t 32) (.c (.int .i64 4294967296))⟩, ⟨(some 34), none, .pick (.t 30) (.c (.bool true)) (.t 33)⟩, ⟨(some 10), none, .mov (.t 34)⟩])
 (.cond (.t 10) (.seq (.ops [⟨(some 35), none, .build [(.int .i64 0), .nils, .nils] []⟩, ⟨none, none, .store 3 (.t 6) (.t 35)⟩, ⟨(some 7), none, .mov (.c (.int .i64 700))⟩])
 .ret) (.seq (.ops [⟨(some 37), none, .faddr 0 (.t 3)⟩, ⟨(some 38), none, .load false 1 (.t 37)⟩, ⟨(some 39), none, .bin .eql (.t 38) (.c (.int .i64 65535))⟩, ⟨(some 36), none, .mov (.t 39)⟩])
 (.cond (.t 36) (.seq (.ops [⟨(some 40), none, .build [(.int .i64 0), .nils, .nils] []⟩, ⟨none, none, .store 3 (.t 6) (.t 40)⟩, ⟨(some 7), none, .mov (.c (.int .i64 701))⟩])
 .ret) .skip)))))
 (.seq (.ops [⟨(some 41), none, .faddr 1 (.t 5)⟩, ⟨(some 42), none, .load false 1 (.t 41)⟩, ⟨(some 43), none, .call 58 [(.t 3), (.t 42)]⟩, ⟨(some 8), none, .mov (.t 43)⟩])
 (.seq (.ops [⟨(some 44), none, .load true 3 (.t 3)⟩, ⟨(some 45), none, .call 59 [(.t 44)]⟩, ⟨(some 9), none, .alloc [(.int .i64 0), .nils, .nils] 24⟩, ⟨none, none, .store 3 (.t 9) (.t 45)⟩])
 (.seq (.ops [⟨(some 46), none, .faddr 0 (.t 9)⟩, ⟨(some 47), none, .load false 1 (.t 46)⟩, ⟨(some 48), none, .bin .add (.t 47) (.c (.int .i64 1))⟩, ⟨(some 49), none, .faddr 0 (.t 9)⟩, ⟨none, none, .store 1 (.t 49) (.t 48)⟩])
 (.seq (.seq (.ops [⟨(some 50), none, .faddr 0 (.t 5)⟩, ⟨(some 51), none, .load false 1 (.t 50)⟩])
 (.block 1 (.seq (.ops [⟨(some 76), none, .bin .eql (.t 51) (.c (.int .i64 0))⟩, ⟨(some 75), none, .mov (.t 76)⟩])
 (.cond (.t 75) (.seq (.ops [⟨(some 77), none, .faddr 1 (.t 9)⟩, ⟨(some 78), none, .load false 1 (.t 77)⟩, ⟨(some 79), none, .mov (.t 8)⟩, ⟨(some 80), none, .bin .add (.t 79) (.c (.int .i64 1))⟩, ⟨(some 81), none, .faddr 1 (.t 5)⟩, ⟨(some 82), none, .load false 1 (.t 81)⟩, ⟨(some 83), none, .bslice [(.int .i64 0)] 3 1 [(0, 1, (.t 82))]⟩, ⟨(some 84), none, .call 60 [(.t 78), (.t 80), (.t 83)]⟩, ⟨(some 85), none, .faddr 1 (.t 9)⟩, ⟨none, none, .store 1 (.t 85) (.t 84)⟩])
 (.drawn [⟨(some 86), none, .faddr 2 (.t 9)⟩, ⟨(some 87), none, .load false 1 (.t 86)⟩, ⟨(some 88), none, .mov (.t 8)⟩, ⟨(some 89), none, .bin .add (.t 88) (.c (.int .i64 1))⟩, ⟨(some 90), none, .faddr 2 (.t 3)⟩, ⟨(some 91), none, .load false 1 (.t 90)⟩, ⟨(some 92), none, .mov (.t 8)⟩, ⟨(some 93), none, .iaddr 1 none (.t 91) (.t 92)⟩, ⟨(some 94), none, .load false 1 (.t 93)⟩, ⟨(some 95), none, .bslice [(.int .i64 0)] 3 1 [(0, 1, (.t 94))]⟩, ⟨(some 96), none, .call 60 [(.t 87), (.t 89), (.t 95)]⟩, ⟨(some 97), none, .faddr 2 (.t 9)⟩, ⟨none, none, .store 1 (.t 97) (.t 96)⟩] [(1, [10])])) (.seq (.ops [⟨(some 99), none, .bin .eql (.t 51) (.c (.int .i64 1))⟩, ⟨(some 98), none, .mov (.t 99)⟩])
 (.cond (.t 98) (.ops [⟨(some 100), none, .faddr 2 (.t 9)⟩, ⟨(some 101), none, .load false 1 (.t 100)⟩, ⟨(some 102), none, .mov (.t 8)⟩, ⟨(some 103), none, .faddr 2 (.t 5)⟩, ⟨(some 104), none, .load false 1 (.t 103)⟩, ⟨(some 105), none, .iaddr 1 none (.t 101) (.t 102)⟩, ⟨none, none, .store 1 (.t 105) (.t 104)⟩]) (.seq (.seq (.ops [⟨(some 52), none, .mov (.t 8)⟩, ⟨(some 53), none, .bin .add (.t 52) (.c (.int .i64 1))⟩, ⟨(some 54), none, .faddr 1 (.t 3)⟩, ⟨(some 55), none, .load false 1 (.t 54)⟩, ⟨(some 56), none, .bi (.len 1) [(.t 55)]⟩, ⟨(some 57), none, .bin .eql (.t 53) (.t 56)⟩])
 (.cond (.t 57) (.seq (.ops [⟨(some 58), none, .build [(.int .i64 0), .nils, .nils] []⟩, ⟨none, none, .store 3 (.t 6) (.t 58)⟩, ⟨(some 7), none, .mov (.c (.int .i64 700))⟩])
 .ret) .skip))
 (.seq (.ops [⟨(some 59), none, .faddr 1 (.t 9)⟩, ⟨(some 60), none, .load false 1 (.t 59)⟩, ⟨(some 61), none, .mov (.t 8)⟩, ⟨(some 62), none, .bin .add (.t 61) (.c (.int .i64 1))⟩, ⟨(some 63), none, .mov (.t 8)⟩, ⟨(some 64), none, .bin .add (.t 63) (.c (.int .i64 2))⟩, ⟨(some 65), none, .call 61 [(.t 60), (.t 62), (.t 64)]⟩, ⟨(some 66), none, .faddr 1 (.t 9)⟩, ⟨none, none, .store 1 (.t 66) (.t 65)⟩])
 (.ops [⟨(some 67), none, .faddr 2 (.t 9)⟩, ⟨(some 68), none, .load false 1 (.t 67)⟩, ⟨(some 69), none, .mov (.t 8)⟩, ⟨(some 70), none, .bin .add (.t 69) (.c (.int .i64 1))⟩, ⟨(some 71), none, .mov (.t 8)⟩, ⟨(some 72), none, .bin .add (.t 71) (.c (.int .i64 2))⟩, ⟨(some 73), none, .call 61 [(.t 68), (.t 70), (.t 72)]⟩, ⟨(some 74), none, .faddr 2 (.t 9)⟩, ⟨none, none, .store 1 (.t 74) (.t 73)⟩])))))))))
 (.seq (.seq (.ops [⟨(some 106), none, .load true 3 (.t 9)⟩, ⟨(some 107), none, .mov (.t 1)⟩, ⟨(some 108), none, .call 35 [(.t 106), (.t 107)]⟩, ⟨(some 109), none, .un .not (.t 108)⟩])
 (.cond (.t 109) (.seq (.ops [⟨(some 110), none, .build [(.int .i64 0), .nils, .nils] []⟩, ⟨none, none, .store 3 (.t 6) (.t 110)⟩, ⟨(some 7), none, .mov (.c (.int .i64 700))⟩])
 .ret) .skip))
 (.seq (.ops [⟨(some 111), none, .load true 3 (.t 9)⟩, ⟨none, none, .store 3 (.t 6) (.t 111)⟩, ⟨(some 7), none, .mov (.c (.int .i64 0))⟩])
 .ret))))))))⟩
def b35_0 : VCode := (.seq (.ops [⟨(some 55), none, .bin .lss (.t 54) (.t 53)⟩])
 (.seq (.cond (.t 55) .skip (.exit 0))
 (.seq (.block 1 (.seq (.ops [⟨(some 56), none, .mov (.t 54)⟩, ⟨(some 57), none, .iaddr 1 none (.t 52) (.t 54)⟩, ⟨(some 58), none, .load false 1 (.t 57)⟩, ⟨(some 5), none, .mov (.t 56)⟩, ⟨(some 6), none, .mov (.t 58)⟩])
 (.seq (.ops [⟨(some 59), none, .mov (.t 6)⟩, ⟨(some 60), none, .bin .geq (.t 59) (.c (.int .i64 4294967296))⟩, ⟨(some 61), none, .mov (.t 60)⟩, ⟨(some 62), (some (61, false)), .mov (.t 5)⟩, ⟨(some 63), (some (61, false)), .bin .gtr (.t 62) (.c (.int .i64 0))⟩, ⟨(some 64), (some (61, false)), .mov (.t 63)⟩, ⟨(some 65), (some (64, true)), .mov (.t 6)⟩, ⟨(some 66), (some (64, true)), .faddr 1 (.t 2)⟩, ⟨(some 67), (some (64, true)), .load false 1 (.t 66)⟩, ⟨(some 68), (some (64, true)), .mov (.t 5)⟩, ⟨(some 69), (some (64, true)), .bin .sub (.t 68) (.c (.int .i64 1))⟩, ⟨(some 70), (some (64, true)), .iaddr 1 none (.t 67) (.t 69)⟩, ⟨(some 71), (some (64, true)), .load false 1 (.t 70)⟩, ⟨(some 72), (some (64, true)), .bin .leq (.t 65) (.t 71)⟩, ⟨(some 73), (some (61, false)), .pick (.t 64) (.t 72) (.c (.bool false))⟩, ⟨(some 74), none, .pick (.t 61) (.c (.bool true)) (.t 73)⟩, ⟨(some 75), none, .mov (.t 74)⟩, ⟨(some 76), (some (75, false)), .faddr 2 (.t 2)⟩, ⟨(some 77), (some (75, false)), .load false 1 (.t 76)⟩, ⟨(some 78), (some (75, false)), .mov (.t 5)⟩, ⟨(some 79), (some (75, false)), .iaddr 1 none (.t 77) (.t 78)⟩, ⟨(some 80), (some (75, false)), .load false 1 (.t 79)⟩, ⟨(some 81), (some (75, false)), .bin .lss (.t 80) (.c (.int .i64 0))⟩, ⟨(some 82), none, .pick (.t 75) (.c (.bool true)) (.t 81)⟩, ⟨(some 83), none, .mov (.t 82)⟩, ⟨(some 84), (some (83, false)), .faddr 2 (.t 2)⟩, ⟨(some 85), (some (83, false)), .load false 1 (.t 84)⟩, ⟨(some 86), (some (83, false)), .mov (.t 5)⟩, ⟨(some 87), (some (83, false)), .iaddr 1 none (.t 85) (.t 86)⟩, ⟨(some 88), (some (83, false)), .load false 1 (.t 87)⟩, ⟨(some 89), (some (83, false)), .mov (.t 1)⟩, ⟨(some 90), (some (83, false)), .bin .geq (.t 88) (.t 89)⟩, ⟨(some 91), none, .pick (.t 83) (.c (.bool true)) (.t 90)⟩])
 (.cond (.t 91) (.seq (.ops [⟨(some 4), none, .mov (.c (.bool false))⟩])
 .ret) .skip))))
 (.ops [⟨(some 92), none, .bin .add (.t 54) (.c (.int .i64 1))⟩, ⟨(some 54), none, .mov (.t 92)⟩]))))
/-- furlong/smap.May -/
def v35 : VFun := ⟨2, [(.tmp 4)], (.seq (.ops [⟨(some 2), none, .box 24 (.t 0)⟩, ⟨(some 4), none, .mov (.c (.bool false))⟩])
 (.seq (.seq (.ops [⟨(some 7), none, .mov (.t 1)⟩, ⟨(some 8), none, .bin .lss (.t 7) (.c (.int .i64 1))⟩, ⟨(some 9), none, .mov (.t 8)⟩, ⟨(some 10), (some (9, false)), .mov (.t 1)⟩, ⟨(some 11), (some (9, false)), .bin .gtr (.t 10) (.c (.int .i64 8))⟩, ⟨(some 12), none, .pick (.t 9) (.c (.bool true)) (.t 11)⟩, ⟨(some 13), none, .mov (.t 12)⟩, ⟨(some 14), (some (13, false)), .faddr 0 (.t 2)⟩, ⟨(some 15), (some (13, false)), .load false 1 (.t 14)⟩, ⟨(some 16), (some (13, false)), .bin .lss (.t 15) (.c (.int .i64 1))⟩, ⟨(some 17), none, .pick (.t 13) (.c (.bool true)) (.t 16)⟩, ⟨(some 18), none, .mov (.t 17)⟩, ⟨(some 19), (some (18, false)), .faddr 0 (.t 2)⟩, ⟨(some 20), (some (18, false)), .load false 1 (.t 19)⟩, ⟨(some 21), (some (18, false)), .bin .gtr (.t 20) (.c (.int .i64 65535))⟩, ⟨(some 22), none, .pick (.t 18) (.c (.bool true)) (.t 21)⟩, ⟨(some 23), none, .mov (.t 22)⟩, ⟨(some 24), (some (23, false)), .faddr 1 (.t 2)⟩, ⟨(some 25), (some (23, false)), .load false 1 (.t 24)⟩, ⟨(some 26), (some (23, false)), .bi (.len 1) [(.t 25)]⟩, ⟨(some 27), (some (23, false)), .bin .lss (.t 26) (.c (.int .i64 1))⟩, ⟨(some 28), none, .pick (.t 23) (.c (.bool true)) (.t 27)⟩, ⟨(some 29), none, .mov (.t 28)⟩, ⟨(some 30), (some (29, false)), .faddr 1 (.t 2)⟩, ⟨(some 31), (some (29, false)), .load false 1 (.t 30)⟩, ⟨(some 32), (some (29, false)), .bi (.len 1) [(.t 31)]⟩, ⟨(some 33), (some (29, false)), .bin .gtr (.t 32) (.c (.int .i64 32))⟩, ⟨(some 34), none, .pick (.t 29) (.c (.bool true)) (.t 33)⟩, ⟨(some 35), none, .mov (.t 34)⟩, ⟨(some 36), (some (35, false)), .faddr 2 (.t 2)⟩, ⟨(some 37), (some (35, false)), .load false 1 (.t 36)⟩, ⟨(some 38), (some (35, false)), .bi (.len 1) [(.t 37)]⟩, ⟨(some 39), (some (35, false)), .faddr 1 (.t 2)⟩, ⟨(some 40), (some (35, false)), .load false 1 (.t 39)⟩, ⟨(some 41), (some (35, false)), .bi (.len 1) [(.t 40)]⟩, ⟨(some 42), (some (35, false)), .bin .neq (.t 38) (.t 41)⟩, ⟨(some 43), none, .pick (.t 35) (.c (.bool true)) (.t 42)⟩, ⟨(some 44), none, .mov (.t 43)⟩, ⟨(some 45), (some (44, false)), .faddr 1 (.t 2)⟩, ⟨(some 46), (some (44, false)), .load false 1 (.t 45)⟩, ⟨(some 47), (some (44, false)), .iaddr 1 none (.t 46) (.c (.int .i64 0))⟩, ⟨(some 48), (some (44, false)), .load false 1 (.t 47)⟩, ⟨(some 49), (some (44, false)), .bin .neq (.t 48) (.c (.int .i64 0))⟩, ⟨(some 50), none, .pick (.t 44) (.c (.bool true)) (.t 49)⟩])
 (.cond (.t 50) (.seq (.ops [⟨(some 4), none, .mov (.c (.bool false))⟩])
 .ret) .skip))
 (.seq (.seq (.ops [⟨(some 51), none, .faddr 1 (.t 2)⟩, ⟨(some 52), none, .load false 1 (.t 51)⟩, ⟨(some 53), none, .bi (.len 1) [(.t 52)]⟩, ⟨(some 54), none, .mov (.c (.int .i64 0))⟩])
 (.block 0 (.loop b35_0)))
 (.seq (.ops [⟨(some 4), none, .mov (.c (.bool true))⟩])
 .ret))))⟩
/-- furlong/furlonglaw0.SpoilMap -/
def v41 : VFun := ⟨1, [], (.seq (.ops [⟨(some 1), none, .box 24 (.t 0)⟩])
 (.seq (.ops [⟨(some 2), none, .faddr 1 (.t 1)⟩, ⟨(some 3), none, .load false 1 (.t 2)⟩, ⟨(some 4), none, .call 67 [(.t 3)]⟩])
 (.ops [⟨(some 5), none, .faddr 2 (.t 1)⟩, ⟨(some 6), none, .load false 1 (.t 5)⟩, ⟨(some 7), none, .call 67 [(.t 6)]⟩])))⟩
def b42_0 : VCode := (.seq (.seq (.ops [⟨(some 50), none, .mov (.t 5)⟩, ⟨(some 51), none, .faddr 1 (.t 2)⟩, ⟨(some 52), none, .load false 1 (.t 51)⟩, ⟨(some 53), none, .bi (.len 1) [(.t 52)]⟩, ⟨(some 54), none, .bin .lss (.t 50) (.t 53)⟩])
 (.cond (.t 54) .skip (.exit 0)))
 (.seq (.block 1 (.seq (.drawn [⟨(some 57), none, .faddr 1 (.t 2)⟩, ⟨(some 58), none, .load false 1 (.t 57)⟩, ⟨(some 59), none, .mov (.t 5)⟩, ⟨(some 60), none, .iaddr 1 none (.t 58) (.t 59)⟩, ⟨(some 61), none, .load false 1 (.t 60)⟩, ⟨(some 62), none, .bin .geq (.t 61) (.c (.int .i64 4294967296))⟩, ⟨(some 63), none, .mov (.t 62)⟩, ⟨(some 64), (some (63, false)), .faddr 2 (.t 2)⟩, ⟨(some 65), (some (63, false)), .load false 1 (.t 64)⟩, ⟨(some 66), (some (63, false)), .mov (.t 5)⟩, ⟨(some 67), (some (63, false)), .iaddr 1 none (.t 65) (.t 66)⟩, ⟨(some 68), (some (63, false)), .load false 1 (.t 67)⟩, ⟨(some 69), (some (63, false)), .bin .lss (.t 68) (.c (.int .i64 0))⟩, ⟨(some 70), none, .pick (.t 63) (.c (.bool true)) (.t 69)⟩, ⟨(some 71), none, .mov (.t 70)⟩, ⟨(some 72), (some (71, false)), .faddr 2 (.t 2)⟩, ⟨(some 73), (some (71, false)), .load false 1 (.t 72)⟩, ⟨(some 74), (some (71, false)), .mov (.t 5)⟩, ⟨(some 75), (some (71, false)), .iaddr 1 none (.t 73) (.t 74)⟩, ⟨(some 76), (some (71, false)), .load false 1 (.t 75)⟩, ⟨(some 77), (some (71, false)), .mov (.t 1)⟩, ⟨(some 78), (some (71, false)), .bin .geq (.t 76) (.t 77)⟩, ⟨(some 79), none, .pick (.t 71) (.c (.bool true)) (.t 78)⟩, ⟨(some 80), none, .mov (.t 79)⟩, ⟨(some 81), (some (80, false)), .mov (.t 5)⟩, ⟨(some 82), (some (80, false)), .bin .gtr (.t 81) (.c (.int .i64 0))⟩, ⟨(some 83), (some (80, false)), .mov (.t 82)⟩, ⟨(some 84), (some (83, true)), .faddr 1 (.t 2)⟩, ⟨(some 85), (some (83, true)), .load false 1 (.t 84)⟩, ⟨(some 86), (some (83, true)), .mov (.t 5)⟩, ⟨(some 87), (some (83, true)), .bin .sub (.t 86) (.c (.int .i64 1))⟩, ⟨(some 88), (some (83, true)), .iaddr 1 none (.t 85) (.t 87)⟩, ⟨(some 89), (some (83, true)), .load false 1 (.t 88)⟩, ⟨(some 90), (some (83, true)), .faddr 1 (.t 2)⟩, ⟨(some 91), (some (83, true)), .load false 1 (.t 90)⟩, ⟨(some 92), (some (83, true)), .mov (.t 5)⟩, ⟨(some 93), (some (83, true)), .iaddr 1 none (.t 91) (.t 92)⟩, ⟨(some 94), (some (83, true)), .load false 1 (.t 93)⟩, ⟨(some 95), (some (83, true)), .bin .geq (.t 89) (.t 94)⟩, ⟨(some 96), (some (80, false)), .pick (.t 83) (.t 95) (.c (.bool false))⟩, ⟨(some 97), none, .pick (.t 80) (.c (.bool true)) (.t 96)⟩] [])
 (.cond (.t 97) (.seq (.ops [⟨(some 4), none, .mov (.c (.bool false))⟩])
 .ret) .skip)))
 (.ops [⟨(some 55), none, .mov (.t 5)⟩, ⟨(some 56), none, .bin .add (.t 55) (.c (.int .i64 1))⟩, ⟨(some 5), none, .mov (.t 56)⟩])))
/-- furlong/furlongref1.MapMay -/
def v42 : VFun := ⟨2, [(.tmp 4)], (.seq (.ops [⟨(some 2), none, .box 24 (.t 0)⟩, ⟨(some 4), none, .mov (.c (.bool false))⟩])
 (.seq (.seq (.ops [⟨(some 6), none, .mov (.t 1)⟩, ⟨(some 7), none, .bin .lss (.t 6) (.c (.int .i64 1))⟩, ⟨(some 8), none, .mov (.t 7)⟩, ⟨(some 9), (some (8, false)), .mov (.t 1)⟩, ⟨(some 10), (some (8, false)), .bin .gtr (.t 9) (.c (.int .i64 8))⟩, ⟨(some 11), none, .pick (.t 8) (.c (.bool true)) (.t 10)⟩, ⟨(some 12), none, .mov (.t 11)⟩, ⟨(some 13), (some (12, false)), .faddr 0 (.t 2)⟩, ⟨(some 14), (some (12, false)), .load false 1 (.t 13)⟩, ⟨(some 15), (some (12, false)), .bin .lss (.t 14) (.c (.int .i64 1))⟩, ⟨(some 16), none, .pick (.t 12) (.c (.bool true)) (.t 15)⟩, ⟨(some 17), none, .mov (.t 16)⟩, ⟨(some 18), (some (17, false)), .faddr 0 (.t 2)⟩, ⟨(some 19), (some (17, false)), .load false 1 (.t 18)⟩, ⟨(some 20), (some (17, false)), .bin .gtr (.t 19) (.c (.int .i64 65535))⟩, ⟨(some 21), none, .pick (.t 17) (.c (.bool true)) (.t 20)⟩, ⟨(some 22), none, .mov (.t 21)⟩, ⟨(some 23), (some (22, false)), .faddr 1 (.t 2)⟩, ⟨(some 24), (some (22, false)), .load false 1 (.t 23)⟩, ⟨(some 25), (some (22, false)), .bi (.len 1) [(.t 24)]⟩, ⟨(some 26), (some (22, false)), .bin .lss (.t 25) (.c (.int .i64 1))⟩, ⟨(some 27), none, .pick (.t 22) (.c (.bool true)) (.t 26)⟩, ⟨(some 28), none, .mov (.t 27)⟩, ⟨(some 29), (some (28, false)), .faddr 1 (.t 2)⟩, ⟨(some 30), (some (28, false)), .load false 1 (.t 29)⟩, ⟨(some 31), (some (28, false)), .bi (.len 1) [(.t 30)]⟩, ⟨(some 32), (some (28, false)), .bin .gtr (.t 31) (.c (.int .i64 32))⟩, ⟨(some 33), none, .pick (.t 28) (.c (.bool true)) (.t 32)⟩, ⟨(some 34), none, .mov (.t 33)⟩, ⟨(some 35), (some (34, false)), .faddr 2 (.t 2)⟩, ⟨(some 36), (some (34, false)), .load false 1 (.t 35)⟩, ⟨(some 37), (some (34, false)), .bi (.len 1) [(.t 36)]⟩, ⟨(some 38), (some (34, false)), .faddr 1 (.t 2)⟩, ⟨(some 39), (some (34, false)), .load false 1 (.t 38)⟩, ⟨(some 40), (some (34, false)), .bi (.len 1) [(.t 39)]⟩, ⟨(some 41), (some (34, false)), .bin .neq (.t 37) (.t 40)⟩, ⟨(some 42), none, .pick (.t 34) (.c (.bool true)) (.t 41)⟩, ⟨(some 43), none, .mov (.t 42)⟩, ⟨(some 44), (some (43, false)), .faddr 1 (.t 2)⟩, ⟨(some 45), (some (43, false)), .load false 1 (.t 44)⟩, ⟨(some 46), (some (43, false)), .iaddr 1 none (.t 45) (.c (.int .i64 0))⟩, ⟨(some 47), (some (43, false)), .load false 1 (.t 46)⟩, ⟨(some 48), (some (43, false)), .bin .neq (.t 47) (.c (.int .i64 0))⟩, ⟨(some 49), none, .pick (.t 43) (.c (.bool true)) (.t 48)⟩])
 (.cond (.t 49) (.seq (.ops [⟨(some 4), none, .mov (.c (.bool false))⟩])
 .ret) .skip))
 (.seq (.seq (.ops [⟨(some 5), none, .mov (.c (.int .i64 0))⟩])
 (.block 0 (.loop b42_0)))
 (.seq (.ops [⟨(some 4), none, .mov (.c (.bool true))⟩])
 .ret))))⟩
def b45_0 : VCode := (.seq (.seq (.ops [⟨(some 10), none, .mov (.t 4)⟩, ⟨(some 11), none, .faddr 2 (.t 1)⟩, ⟨(some 12), none, .load false 1 (.t 11)⟩, ⟨(some 13), none, .bi (.len 1) [(.t 12)]⟩, ⟨(some 14), none, .bin .lss (.t 10) (.t 13)⟩])
 (.cond (.t 14) .skip (.exit 0)))
 (.seq (.block 1 (.drawn [⟨(some 17), none, .faddr 2 (.t 3)⟩, ⟨(some 18), none, .load false 1 (.t 17)⟩, ⟨(some 19), none, .bslice [(.int .i64 0), (.int .i64 0)] 61 0 []⟩, ⟨(some 20), none, .faddr 2 (.t 1)⟩, ⟨(some 21), none, .load false 1 (.t 20)⟩, ⟨(some 22), none, .mov (.t 4)⟩, ⟨(some 23), none, .iaddr 1 none (.t 21) (.t 22)⟩, ⟨(some 24), none, .load false 1 (.t 23)⟩, ⟨(some 25), none, .bi (.append 2 16 61) [(.t 19), (.t 24)]⟩, ⟨(some 26), none, .bslice [.nils] 62 1 [(0, 1, (.t 25))]⟩, ⟨(some 27), none, .bi (.append 1 24 62) [(.t 18), (.t 26)]⟩, ⟨(some 28), none, .faddr 2 (.t 3)⟩, ⟨none, none, .store 1 (.t 28) (.t 27)⟩] [(1, [3, 9, 10]), (4, [0]), (7, [0])]))
 (.ops [⟨(some 15), none, .mov (.t 4)⟩, ⟨(some 16), none, .bin .add (.t 15) (.c (.int .i64 1))⟩, ⟨(some 4), none, .mov (.t 16)⟩])))
/-- furlong/furlonglaw0.CopyFeature -/
def v45 : VFun := ⟨1, [(.cell 2 true 3)], (.seq (.ops [⟨(some 1), none, .box 50 (.t 0)⟩, ⟨(some 2), none, .alloc [(.int .i64 0), (.int .i64 0), .nils] 50⟩])
 (.seq (.ops [⟨(some 5), none, .faddr 0 (.t 1)⟩, ⟨(some 6), none, .load false 1 (.t 5)⟩, ⟨(some 7), none, .faddr 1 (.t 1)⟩, ⟨(some 8), none, .load false 1 (.t 7)⟩, ⟨(some 9), none, .build [(.int .i64 0), (.int .i64 0), .nils] [(0, 1, (.t 6)), (1, 1, (.t 8))]⟩, ⟨(some 3), none, .alloc [(.int .i64 0), (.int .i64 0), .nils] 50⟩, ⟨none, none, .store 3 (.t 3) (.t 9)⟩])
 (.seq (.seq (.ops [⟨(some 4), none, .mov (.c (.int .i64 0))⟩])
 (.block 0 (.loop b45_0)))
 (.seq (.ops [⟨(some 29), none, .load true 3 (.t 3)⟩, ⟨none, none, .store 3 (.t 2) (.t 29)⟩])
 .ret))))⟩
def b46_0 : VCode := (.seq (.ops [⟨(some 14), none, .bin .lss (.t 13) (.t 12)⟩])
 (.seq (.cond (.t 14) .skip (.exit 0))
 (.seq (.block 1 (.seq (.ops [⟨(some 15), none, .mov (.t 13)⟩, ⟨(some 16), none, .iaddr 1 none (.t 11) (.t 13)⟩, ⟨(some 17), none, .load false 1 (.t 16)⟩, ⟨(some 4), none, .mov (.t 15)⟩, ⟨(some 5), none, .mov (.t 17)⟩])
 (.ops [⟨(some 18), none, .mov (.t 3)⟩, ⟨(some 19), none, .mov (.t 4)⟩, ⟨(some 20), none, .mov (.t 5)⟩, ⟨(some 21), none, .call 72 [(.t 20)]⟩, ⟨(some 22), none, .iaddr 1 none (.t 18) (.t 19)⟩, ⟨none, none, .store 1 (.t 22) (.t 21)⟩])))
 (.ops [⟨(some 23), none, .bin .add (.t 13) (.c (.int .i64 1))⟩, ⟨(some 13), none, .mov (.t 23)⟩]))))
/-- furlong/shape.Copy -/
def v46 : VFun := ⟨1, [(.cell 2 true 3)], (.seq (.ops [⟨(some 1), none, .box 50 (.t 0)⟩, ⟨(some 2), none, .alloc [(.int .i64 0), (.int .i64 0), .nils] 50⟩])
 (.seq (.ops [⟨(some 6), none, .faddr 2 (.t 1)⟩, ⟨(some 7), none, .load false 1 (.t 6)⟩, ⟨(some 8), none, .bi (.len 1) [(.t 7)]⟩, ⟨(some 9), none, .mkslice [.nils] 62 24 (.t 8) (.t 8)⟩, ⟨(some 3), none, .mov (.t 9)⟩])
 (.seq (.seq (.ops [⟨(some 10), none, .faddr 2 (.t 1)⟩, ⟨(some 11), none, .load false 1 (.t 10)⟩, ⟨(some 12), none, .bi (.len 1) [(.t 11)]⟩, ⟨(some 13), none, .mov (.c (.int .i64 0))⟩])
 (.block 0 (.loop b46_0)))
 (.seq (.ops [⟨(some 24), none, .mov (.t 3)⟩, ⟨(some 25), none, .faddr 2 (.t 1)⟩, ⟨none, none, .store 1 (.t 25) (.t 24)⟩])
 (.seq (.ops [⟨(some 26), none, .load true 3 (.t 1)⟩, ⟨none, none, .store 3 (.t 2) (.t 26)⟩])
 .ret)))))⟩
def b47_0 : VCode := (.seq (.ops [⟨(some 21), none, .bin .lss (.t 20) (.t 19)⟩])
 (.seq (.cond (.t 21) .skip (.exit 0))
 (.seq (.block 1 (.seq (.ops [⟨(some 22), none, .mov (.t 20)⟩, ⟨(some 6), none, .mov (.t 22)⟩])
 (.seq (.ops [⟨(some 23), none, .mov (.t 0)⟩, ⟨(some 24), none, .mov (.t 6)⟩, ⟨(some 25), none, .iaddr 8 none (.t 23) (.t 24)⟩, ⟨(some 7), none, .mov (.t 25)⟩])
 (.seq (.seq (.ops [⟨(some 26), none, .mov (.t 7)⟩, ⟨(some 27), none, .mov (.t 1)⟩, ⟨(some 28), none, .call 73 [(.t 26), (.t 27)]⟩, ⟨(some 29), none, .un .not (.t 28)⟩, ⟨(some 30), none, .mov (.t 29)⟩, ⟨(some 31), (some (30, false)), .mov (.t 7)⟩, ⟨(some 32), (some (30, false)), .nilck (.t 31)⟩, ⟨(some 33), (some (30, false)), .faddr 0 (.t 32)⟩, ⟨(some 34), (some (30, false)), .load false 1 (.t 33)⟩, ⟨(some 35), (some (30, false)), .bin .eql (.t 34) (.c (.int .i64 2))⟩, ⟨(some 36), (some (30, false)), .mov (.t 35)⟩, ⟨(some 37), (some (36, true)), .mov (.t 6)⟩, ⟨(some 38), (some (36, true)), .bin .gtr (.t 37) (.c (.int .i64 0))⟩, ⟨(some 39), (some (30, false)), .pick (.t 36) (.t 38) (.c (.bool false))⟩, ⟨(some 40), none, .pick (.t 30) (.c (.bool true)) (.t 39)⟩])
 (.cond (.t 40) (.seq (.ops [⟨(some 4), none, .mov (.c (.bool false))⟩])
 .ret) .skip))
 (.seq (.ops [⟨(some 41), none, .mov (.t 7)⟩, ⟨(some 42), none, .call 74 [(.t 41)]⟩, ⟨(some 8), none, .mov (.t 42)⟩])
 (.seq (.ops [⟨(some 43), none, .mov (.t 8)⟩, ⟨(some 44), none, .bin .gtr (.t 43) (.c (.int .i64 0))⟩])
 (.cond (.t 44) (.seq (.seq (.ops [⟨(some 45), none, .mov (.t 5)⟩, ⟨(some 46), none, .mov (.t 8)⟩, ⟨(some 47), none, .lookup .int (.bool false) false (.t 45) (.t 46)⟩])
 (.cond (.t 47) (.seq (.ops [⟨(some 4), none, .mov (.c (.bool false))⟩])
 .ret) .skip))
 (.ops [⟨(some 48), none, .mov (.t 5)⟩, ⟨(some 49), none, .mov (.t 8)⟩, ⟨none, none, .mupd .int (.t 48) (.t 49) (.c (.bool true))⟩])) .skip)))))))
 (.ops [⟨(some 50), none, .bin .add (.t 20) (.c (.int .i64 1))⟩, ⟨(some 20), none, .mov (.t 50)⟩]))))
/-- furlong/rec.OpsMay -/
def v47 : VFun := ⟨2, [(.tmp 4)], (.seq (.ops [⟨(some 4), none, .mov (.c (.bool false))⟩])
 (.seq (.seq (.ops [⟨(some 9), none, .mov (.t 0)⟩, ⟨(some 10), none, .bi (.len 1) [(.t 9)]⟩, ⟨(some 11), none, .bin .lss (.t 10) (.c (.int .i64 1))⟩, ⟨(some 12), none, .mov (.t 11)⟩, ⟨(some 13), (some (12, false)), .mov (.t 0)⟩, ⟨(some 14), (some (12, false)), .bi (.len 1) [(.t 13)]⟩, ⟨(some 15), (some (12, false)), .bin .gtr (.t 14) (.c (.int .i64 32))⟩, ⟨(some 16), none, .pick (.t 12) (.c (.bool true)) (.t 15)⟩])
 (.cond (.t 16) (.seq (.ops [⟨(some 4), none, .mov (.c (.bool false))⟩])
 .ret) .skip))
 (.seq (.ops [⟨(some 17), none, .mkmap⟩, ⟨(some 5), none, .mov (.t 17)⟩])
 (.seq (.seq (.ops [⟨(some 18), none, .mov (.t 0)⟩, ⟨(some 19), none, .bi (.len 1) [(.t 18)]⟩, ⟨(some 20), none, .mov (.c (.int .i64 0))⟩])
 (.block 0 (.loop b47_0)))
 (.seq (.ops [⟨(some 4), none, .mov (.c (.bool true))⟩])
 .ret)))))⟩
def b48_0 : VCode := (.seq (.seq (.ops [⟨(some 37), none, .mov (.t 4)⟩, ⟨(some 38), none, .mov (.t 3)⟩, ⟨(some 39), none, .bin .lss (.t 37) (.t 38)⟩])
 (.cond (.t 39) .skip (.exit 2)))
 (.seq (.block 3 (.seq (.drawn [⟨(some 42), none, .mov (.t 0)⟩, ⟨(some 43), none, .mov (.t 3)⟩, ⟨(some 44), none, .iaddr 8 none (.t 42) (.t 43)⟩, ⟨(some 45), none, .load true 8 (.t 44)⟩, ⟨(some 46), none, .call 76 [(.t 45)]⟩, ⟨(some 47), none, .bin .gtr (.t 46) (.c (.int .i64 0))⟩, ⟨(some 48), none, .mov (.t 47)⟩, ⟨(some 49), (some (48, true)), .mov (.t 0)⟩, ⟨(some 50), (some (48, true)), .mov (.t 4)⟩, ⟨(some 51), (some (48, true)), .iaddr 8 none (.t 49) (.t 50)⟩, ⟨(some 52), (some (48, true)), .load true 8 (.t 51)⟩, ⟨(some 53), (some (48, true)), .call 76 [(.t 52)]⟩, ⟨(some 54), (some (48, true)), .mov (.t 0)⟩, ⟨(some 55), (some (48, true)), .mov (.t 3)⟩, ⟨(some 56), (some (48, true)), .iaddr 8 none (.t 54) (.t 55)⟩, ⟨(some 57), (some (48, true)), .load true 8 (.t 56)⟩, ⟨(some 58), (some (48, true)), .call 76 [(.t 57)]⟩, ⟨(some 59), (some (48, true)), .bin .eql (.t 53) (.t 58)⟩, ⟨(some 60), none, .pick (.t 48) (.t 59) (.c (.bool false))⟩] [(15, [5])])
 (.cond (.t 60) (.seq (.ops [⟨(some 2), none, .mov (.c (.bool false))⟩])
 .ret) .skip)))
 (.ops [⟨(some 40), none, .mov (.t 4)⟩, ⟨(some 41), none, .bin .add (.t 40) (.c (.int .i64 1))⟩, ⟨(some 4), none, .mov (.t 41)⟩])))
def b48_1 : VCode := (.seq (.seq (.ops [⟨(some 13), none, .mov (.t 3)⟩, ⟨(some 14), none, .mov (.t 0)⟩, ⟨(some 15), none, .bi (.len 1) [(.t 14)]⟩, ⟨(some 16), none, .bin .lss (.t 13) (.t 15)⟩])
 (.cond (.t 16) .skip (.exit 0)))
 (.seq (.block 1 (.seq (.seq (.ops [⟨(some 19), none, .mov (.t 0)⟩, ⟨(some 20), none, .mov (.t 3)⟩, ⟨(some 21), none, .iaddr 8 none (.t 19) (.t 20)⟩, ⟨(some 22), none, .load true 8 (.t 21)⟩, ⟨(some 23), none, .call 75 [(.t 22)]⟩, ⟨(some 24), none, .un .not (.t 23)⟩, ⟨(some 25), none, .mov (.t 24)⟩, ⟨(some 26), (some (25, false)), .mov (.t 0)⟩, ⟨(some 27), (some (25, false)), .mov (.t 3)⟩, ⟨(some 28), (some (25, false)), .iaddr 8 none (.t 26) (.t 27)⟩, ⟨(some 29), (some (25, false)), .faddr 0 (.t 28)⟩, ⟨(some 30), (some (25, false)), .load false 1 (.t 29)⟩, ⟨(some 31), (some (25, false)), .bin .eql (.t 30) (.c (.int .i64 2))⟩, ⟨(some 32), (some (25, false)), .mov (.t 31)⟩, ⟨(some 33), (some (32, true)), .mov (.t 3)⟩, ⟨(some 34), (some (32, true)), .bin .gtr (.t 33) (.c (.int .i64 0))⟩, ⟨(some 35), (some (25, false)), .pick (.t 32) (.t 34) (.c (.bool false))⟩, ⟨(some 36), none, .pick (.t 25) (.c (.bool true)) (.t 35)⟩])
 (.cond (.t 36) (.seq (.ops [⟨(some 2), none, .mov (.c (.bool false))⟩])
 .ret) .skip))
 (.seq (.ops [⟨(some 4), none, .mov (.c (.int .i64 0))⟩])
 (.block 2 (.loop b48_0)))))
 (.ops [⟨(some 17), none, .mov (.t 3)⟩, ⟨(some 18), none, .bin .add (.t 17) (.c (.int .i64 1))⟩, ⟨(some 3), none, .mov (.t 18)⟩])))
/-- furlong/furlongref8.OpsMay -/
def v48 : VFun := ⟨1, [(.tmp 2)], (.seq (.ops [⟨(some 2), none, .mov (.c (.bool false))⟩])
 (.seq (.seq (.ops [⟨(some 5), none, .mov (.t 0)⟩, ⟨(some 6), none, .bi (.len 1) [(.t 5)]⟩, ⟨(some 7), none, .bin .lss (.t 6) (.c (.int .i64 1))⟩, ⟨(some 8), none, .mov (.t 7)⟩, ⟨(some 9), (some (8, false)), .mov (.t 0)⟩, ⟨(some 10), (some (8, false)), .bi (.len 1) [(.t 9)]⟩, ⟨(some 11), (some (8, false)), .bin .gtr (.t 10) (.c (.int .i64 32))⟩, ⟨(some 12), none, .pick (.t 8) (.c (.bool true)) (.t 11)⟩])
 (.cond (.t 12) (.seq (.ops [⟨(some 2), none, .mov (.c (.bool false))⟩])
 .ret) .skip))
 (.seq (.seq (.ops [⟨(some 3), none, .mov (.c (.int .i64 0))⟩])
 (.block 0 (.loop b48_1)))
 (.seq (.ops [⟨(some 2), none, .mov (.c (.bool true))⟩])
 .ret))))⟩
def b49_0 : VCode := (.seq (.seq (.ops [⟨(some 21), none, .mov (.t 4)⟩, ⟨(some 22), none, .mov (.t 0)⟩, ⟨(some 23), none, .mov (.t 2)⟩, ⟨(some 24), none, .iaddr 3 none (.t 22) (.t 23)⟩, ⟨(some 25), none, .faddr 2 (.t 24)⟩, ⟨(some 26), none, .load false 1 (.t 25)⟩, ⟨(some 27), none, .mov (.t 3)⟩, ⟨(some 28), none, .iaddr 1 none (.t 26) (.t 27)⟩, ⟨(some 29), none, .load false 1 (.t 28)⟩, ⟨(some 30), none, .bi (.len 1) [(.t 29)]⟩, ⟨(some 31), none, .bin .lss (.t 21) (.t 30)⟩])
 (.cond (.t 31) .skip (.exit 4)))
 (.seq (.block 5 (.drawn [⟨(some 34), none, .mov (.t 0)⟩, ⟨(some 35), none, .mov (.t 2)⟩, ⟨(some 36), none, .iaddr 3 none (.t 34) (.t 35)⟩, ⟨(some 37), none, .faddr 2 (.t 36)⟩, ⟨(some 38), none, .load false 1 (.t 37)⟩, ⟨(some 39), none, .mov (.t 3)⟩, ⟨(some 40), none, .iaddr 1 none (.t 38) (.t 39)⟩, ⟨(some 41), none, .load false 1 (.t 40)⟩, ⟨(some 42), none, .mov (.t 4)⟩, ⟨(some 43), none, .mov (.t 0)⟩, ⟨(some 44), none, .mov (.t 2)⟩, ⟨(some 45), none, .iaddr 3 none (.t 43) (.t 44)⟩, ⟨(some 46), none, .faddr 2 (.t 45)⟩, ⟨(some 47), none, .load false 1 (.t 46)⟩, ⟨(some 48), none, .mov (.t 3)⟩, ⟨(some 49), none, .iaddr 1 none (.t 47) (.t 48)⟩, ⟨(some 50), none, .load false 1 (.t 49)⟩, ⟨(some 51), none, .mov (.t 4)⟩, ⟨(some 52), none, .iaddr 2 none (.t 50) (.t 51)⟩, ⟨(some 53), none, .faddr 0 (.t 52)⟩, ⟨(some 54), none, .load false 1 (.t 53)⟩, ⟨(some 55), none, .bin .xor (.t 54) (.c (.int .i64 90))⟩, ⟨(some 56), none, .iaddr 2 none (.t 41) (.t 42)⟩, ⟨(some 57), none, .faddr 0 (.t 56)⟩, ⟨none, none, .store 1 (.t 57) (.t 55)⟩] []))
 (.ops [⟨(some 32), none, .mov (.t 4)⟩, ⟨(some 33), none, .bin .add (.t 32) (.c (.int .i64 1))⟩, ⟨(some 4), none, .mov (.t 33)⟩])))
def b49_1 : VCode := (.seq (.seq (.ops [⟨(some 11), none, .mov (.t 3)⟩, ⟨(some 12), none, .mov (.t 0)⟩, ⟨(some 13), none, .mov (.t 2)⟩, ⟨(some 14), none, .iaddr 3 none (.t 12) (.t 13)⟩, ⟨(some 15), none, .faddr 2 (.t 14)⟩, ⟨(some 16), none, .load false 1 (.t 15)⟩, ⟨(some 17), none, .bi (.len 1) [(.t 16)]⟩, ⟨(some 18), none, .bin .lss (.t 11) (.t 17)⟩])
 (.cond (.t 18) .skip (.exit 2)))
 (.seq (.block 3 (.seq (.ops [⟨(some 4), none, .mov (.c (.int .i64 0))⟩])
 (.block 4 (.loop b49_0))))
 (.ops [⟨(some 19), none, .mov (.t 3)⟩, ⟨(some 20), none, .bin .add (.t 19) (.c (.int .i64 1))⟩, ⟨(some 3), none, .mov (.t 20)⟩])))
def b49_2 : VCode := (.seq (.seq (.ops [⟨(some 5), none, .mov (.t 2)⟩, ⟨(some 6), none, .mov (.t 0)⟩, ⟨(some 7), none, .bi (.len 1) [(.t 6)]⟩, ⟨(some 8), none, .bin .lss (.t 5) (.t 7)⟩])
 (.cond (.t 8) .skip (.exit 0)))
 (.seq (.block 1 (.seq (.seq (.ops [⟨(some 3), none, .mov (.c (.int .i64 0))⟩])
 (.block 2 (.loop b49_1)))
 (.ops [⟨(some 58), none, .mov (.t 0)⟩, ⟨(some 59), none, .mov (.t 2)⟩, ⟨(some 60), none, .mov (.t 0)⟩, ⟨(some 61), none, .mov (.t 2)⟩, ⟨(some 62), none, .iaddr 3 none (.t 60) (.t 61)⟩, ⟨(some 63), none, .faddr 0 (.t 62)⟩, ⟨(some 64), none, .load false 1 (.t 63)⟩, ⟨(some 65), none, .bin .xor (.t 64) (.c (.int .i64 90))⟩, ⟨(some 66), none, .iaddr 3 none (.t 58) (.t 59)⟩, ⟨(some 67), none, .faddr 0 (.t 66)⟩, ⟨none, none, .store 1 (.t 67) (.t 65)⟩])))
 (.ops [⟨(some 9), none, .mov (.t 2)⟩, ⟨(some 10), none, .bin .add (.t 9) (.c (.int .i64 1))⟩, ⟨(some 2), none, .mov (.t 10)⟩])))
/-- furlong/furlonglaw0.SpoilFeatures -/
def v49 : VFun := ⟨1, [], (.seq (.ops [⟨(some 2), none, .mov (.c (.int .i64 0))⟩])
 (.block 0 (.loop b49_2)))⟩
def b50_0 : VCode := (.seq (.seq (.ops [⟨(some 35), none, .mov (.t 3)⟩, ⟨(some 36), none, .faddr 2 (.t 1)⟩, ⟨(some 37), none, .load false 1 (.t 36)⟩, ⟨(some 38), none, .bi (.len 1) [(.t 37)]⟩, ⟨(some 39), none, .bin .lss (.t 35) (.t 38)⟩])
 (.cond (.t 39) .skip (.exit 0)))
 (.seq (.block 1 (.seq (.drawn [⟨(some 42), none, .faddr 1 (.t 1)⟩, ⟨(some 43), none, .load false 1 (.t 42)⟩, ⟨(some 44), none, .faddr 2 (.t 1)⟩, ⟨(some 45), none, .load false 1 (.t 44)⟩, ⟨(some 46), none, .mov (.t 3)⟩, ⟨(some 47), none, .iaddr 1 none (.t 45) (.t 46)⟩, ⟨(some 48), none, .load false 1 (.t 47)⟩, ⟨(some 49), none, .call 77 [(.t 43), (.t 48)]⟩, ⟨(some 50), none, .un .not (.t 49)⟩] [])
 (.cond (.t 50) (.seq (.ops [⟨(some 2), none, .mov (.c (.bool false))⟩])
 .ret) .skip)))
 (.ops [⟨(some 40), none, .mov (.t 3)⟩, ⟨(some 41), none, .bin .add (.t 40) (.c (.int .i64 1))⟩, ⟨(some 3), none, .mov (.t 41)⟩])))
/-- furlong/furlongref1.ShapeMay -/
def v50 : VFun := ⟨1, [(.tmp 2)], (.seq (.ops [⟨(some 1), none, .box 50 (.t 0)⟩, ⟨(some 2), none, .mov (.c (.bool false))⟩])
 (.seq (.seq (.ops [⟨(some 4), none, .faddr 0 (.t 1)⟩, ⟨(some 5), none, .load false 1 (.t 4)⟩, ⟨(some 6), none, .bin .lss (.t 5) (.c (.int .i64 1))⟩, ⟨(some 7), none, .mov (.t 6)⟩, ⟨(some 8), (some (7, false)), .faddr 0 (.t 1)⟩, ⟨(some 9), (some (7, false)), .load false 1 (.t 8)⟩, ⟨(some 10), (some (7, false)), .bin .gtr (.t 9) (.c (.int .i64 65535))⟩, ⟨(some 11), none, .pick (.t 7) (.c (.bool true)) (.t 10)⟩, ⟨(some 12), none, .mov (.t 11)⟩, ⟨(some 13), (some (12, false)), .faddr 2 (.t 1)⟩, ⟨(some 14), (some (12, false)), .load false 1 (.t 13)⟩, ⟨(some 15), (some (12, false)), .bi (.len 1) [(.t 14)]⟩, ⟨(some 16), (some (12, false)), .bin .lss (.t 15) (.c (.int .i64 1))⟩, ⟨(some 17), none, .pick (.t 12) (.c (.bool true)) (.t 16)⟩, ⟨(some 18), none, .mov (.t 17)⟩, ⟨(some 19), (some (18, false)), .faddr 2 (.t 1)⟩, ⟨(some 20), (some (18, false)), .load false 1 (.t 19)⟩, ⟨(some 21), (some (18, false)), .bi (.len 1) [(.t 20)]⟩, ⟨(some 22), (some (18, false)), .bin .gtr (.t 21) (.c (.int .i64 4))⟩, ⟨(some 23), none, .pick (.t 18) (.c (.bool true)) (.t 22)⟩, ⟨(some 24), none, .mov (.t 23)⟩, ⟨(some 25), (some (24, false)), .faddr 1 (.t 1)⟩, ⟨(some 26), (some (24, false)), .load false 1 (.t 25)⟩, ⟨(some 27), (some (24, false)), .bin .neq (.t 26) (.c (.int .i64 2))⟩, ⟨(some 28), (some (24, false)), .mov (.t 27)⟩, ⟨(some 29), (some (28, true)), .faddr 2 (.t 1)⟩, ⟨(some 30), (some (28, true)), .load false 1 (.t 29)⟩, ⟨(some 31), (some (28, true)), .bi (.len 1) [(.t 30)]⟩, ⟨(some 32), (some (28, true)), .bin .neq (.t 31) (.c (.int .i64 1))⟩, ⟨(some 33), (some (24, false)), .pick (.t 28) (.t 32) (.c (.bool false))⟩, ⟨(some 34), none, .pick (.t 24) (.c (.bool true)) (.t 33)⟩])
 (.cond (.t 34) (.seq (.ops [⟨(some 2), none, .mov (.c (.bool false))⟩])
 .ret) .skip))
 (.seq (.seq (.ops [⟨(some 3), none, .mov (.c (.int .i64 0))⟩])
 (.block 0 (.loop b50_0)))
 (.seq (.ops [⟨(some 2), none, .mov (.c (.bool true))⟩])
 .ret))))⟩
def b56_0 : VCode := (.seq (.seq (.ops [⟨(some 6), none, .mov (.t 5)⟩, ⟨(some 7), none, .bin .add (.t 6) (.c (.int .i64 1))⟩, ⟨(some 8), none, .faddr 1 (.t 2)⟩, ⟨(some 9), none, .load false 1 (.t 8)⟩, ⟨(some 10), none, .bi (.len 1) [(.t 9)]⟩, ⟨(some 11), none, .bin .lss (.t 7) (.t 10)⟩, ⟨(some 12), none, .mov (.t 11)⟩, ⟨(some 13), (some (12, true)), .faddr 1 (.t 2)⟩, ⟨(some 14), (some (12, true)), .load false 1 (.t 13)⟩, ⟨(some 15), (some (12, true)), .mov (.t 5)⟩, ⟨(some 16), (some (12, true)), .bin .add (.t 15) (.c (.int .i64 1))⟩, ⟨(some 17), (some (12, true)), .iaddr 1 none (.t 14) (.t 16)⟩, ⟨(some 18), (some (12, true)), .load false 1 (.t 17)⟩, ⟨(some 19), (some (12, true)), .mov (.t 1)⟩, ⟨(some 20), (some (12, true)), .bin .leq (.t 18) (.t 19)⟩, ⟨(some 21), none, .pick (.t 12) (.t 20) (.c (.bool false))⟩])
 (.cond (.t 21) .skip (.exit 0)))
 (.block 1 (.ops [⟨(some 22), none, .mov (.t 5)⟩, ⟨(some 23), none, .bin .add (.t 22) (.c (.int .i64 1))⟩, ⟨(some 5), none, .mov (.t 23)⟩])))
/-- furlong/furlongref1.at -/
def v56 : VFun := ⟨2, [(.tmp 4)], (.seq (.ops [⟨(some 2), none, .box 24 (.t 0)⟩, ⟨(some 4), none, .mov (.c (.int .i64 0))⟩])
 (.seq (.ops [⟨(some 5), none, .mov (.c (.int .i64 0))⟩])
 (.seq (.block 0 (.loop b56_0))
 (.seq (.ops [⟨(some 24), none, .mov (.t 5)⟩, ⟨(some 4), none, .mov (.t 24)⟩])
 .ret))))⟩
/-- furlong/furlongref1.cut -/
def v57 : VFun := ⟨4, [(.tmp 8)], (.seq (.ops [⟨(some 8), none, .mov (.c .nils)⟩])
 (.seq (.ops [⟨(some 10), none, .bslice [(.int .i64 0)] 3 0 []⟩, ⟨(some 11), none, .mov (.t 0)⟩, ⟨(some 12), none, .mov (.t 1)⟩, ⟨(some 13), none, .slice 1 (.t 11) none (some (.t 12)) none⟩, ⟨(some 14), none, .bi (.append 1 8 3) [(.t 10), (.t 13)]⟩, ⟨(some 9), none, .mov (.t 14)⟩])
 (.seq (.seq (.ops [⟨(some 15), none, .mov (.t 3)⟩])
 (.cond (.t 15) (.seq (.ops [⟨(some 16), none, .mov (.t 9)⟩, ⟨(some 17), none, .mov (.t 0)⟩, ⟨(some 18), none, .mov (.t 1)⟩, ⟨(some 19), none, .bin .add (.t 18) (.c (.int .i64 1))⟩, ⟨(some 20), none, .slice 1 (.t 17) (some (.t 19)) none none⟩, ⟨(some 21), none, .bi (.append 1 8 3) [(.t 16), (.t 20)]⟩, ⟨(some 8), none, .mov (.t 21)⟩])
 .ret) .skip))
 (.seq (.ops [⟨(some 22), none, .mov (.t 9)⟩, ⟨(some 23), none, .mov (.t 2)⟩, ⟨(some 24), none, .bslice [(.int .i64 0)] 3 1 [(0, 1, (.t 23))]⟩, ⟨(some 25), none, .bi (.append 1 8 3) [(.t 22), (.t 24)]⟩, ⟨(some 9), none, .mov (.t 25)⟩])
 (.seq (.ops [⟨(some 26), none, .mov (.t 9)⟩, ⟨(some 27), none, .mov (.t 0)⟩, ⟨(some 28), none, .mov (.t 1)⟩, ⟨(some 29), none, .slice 1 (.t 27) (some (.t 28)) none none⟩, ⟨(some 30), none, .bi (.append 1 8 3) [(.t 26), (.t 29)]⟩, ⟨(some 8), none, .mov (.t 30)⟩])
 .ret)))))⟩
/-- furlong/smap.at -/
def v58 : VFun := ⟨2, [(.tmp 4)], (.seq (.ops [⟨(some 4), none, .mov (.c (.int .i64 0))⟩])
 (.seq (.ops [⟨(some 8), none, .mov (.t 0)⟩, ⟨(some 9), none, .nilck (.t 8)⟩, ⟨(some 10), none, .faddr 1 (.t 9)⟩, ⟨(some 11), none, .load false 1 (.t 10)⟩, ⟨(some 12), none, .mov (.t 1)⟩, ⟨(some 13), none, .call 82 [(.t 11), (.t 12)]⟩, ⟨(some 7), none, .mov (.t 13)⟩, ⟨(some 14), none, .extract (.t 7) 0⟩, ⟨(some 15), none, .extract (.t 7) 1⟩, ⟨(some 5), none, .mov (.t 14)⟩, ⟨(some 6), none, .mov (.t 15)⟩])
 (.seq (.seq (.ops [⟨(some 16), none, .mov (.t 6)⟩, ⟨(some 17), none, .un .not (.t 16)⟩])
 (.cond (.t 17) (.ops [⟨(some 18), none, .mov (.t 5)⟩, ⟨(some 19), none, .bin .sub (.t 18) (.c (.int .i64 1))⟩, ⟨(some 5), none, .mov (.t 19)⟩]) .skip))
 (.seq (.ops [⟨(some 20), none, .mov (.t 5)⟩, ⟨(some 4), none, .mov (.t 20)⟩])
 .ret))))⟩
/-- furlong/smap.Copy -/
def v59 : VFun := ⟨1, [(.cell 2 true 3)], (.seq (.ops [⟨(some 1), none, .box 24 (.t 0)⟩, ⟨(some 2), none, .alloc [(.int .i64 0), .nils, .nils] 24⟩])
 (.seq (.drawn [⟨(some 3), none, .faddr 1 (.t 1)⟩, ⟨(some 4), none, .load false 1 (.t 3)⟩, ⟨(some 5), none, .call 83 [(.t 4)]⟩, ⟨(some 6), none, .faddr 2 (.t 1)⟩, ⟨(some 7), none, .load false 1 (.t 6)⟩, ⟨(some 8), none, .call 83 [(.t 7)]⟩, ⟨(some 9), none, .faddr 1 (.t 1)⟩, ⟨none, none, .store 1 (.t 9) (.t 5)⟩, ⟨(some 10), none, .faddr 2 (.t 1)⟩, ⟨none, none, .store 1 (.t 10) (.t 8)⟩] [(4, [0])])
 (.seq (.ops [⟨(some 11), none, .load true 3 (.t 1)⟩, ⟨none, none, .store 3 (.t 2) (.t 11)⟩])
 .ret)))⟩
/-- slices.Delete[[]int,int] -/
def v61 : VFun := ⟨3, [(.tmp 6)], (.seq (.ops [⟨(some 6), none, .mov (.c .nils)⟩])
 (.seq (.ops [⟨(some 8), none, .mov (.t 0)⟩, ⟨(some 9), none, .mov (.t 1)⟩, ⟨(some 10), none, .mov (.t 2)⟩, ⟨(some 11), none, .mov (.t 0)⟩, ⟨(some 12), none, .bi (.len 1) [(.t 11)]⟩, ⟨(some 13), none, .slice 1 (.t 8) (some (.t 9)) (some (.t 10)) (some (.t 12))⟩])
 (.seq (.seq (.ops [⟨(some 14), none, .mov (.t 1)⟩, ⟨(some 15), none, .mov (.t 2)⟩, ⟨(some 16), none, .bin .eql (.t 14) (.t 15)⟩])
 (.cond (.t 16) (.seq (.ops [⟨(some 17), none, .mov (.t 0)⟩, ⟨(some 6), none, .mov (.t 17)⟩])
 .ret) .skip))
 (.seq (.ops [⟨(some 18), none, .mov (.t 0)⟩, ⟨(some 19), none, .bi (.len 1) [(.t 18)]⟩, ⟨(some 7), none, .mov (.t 19)⟩])
 (.seq (.drawn [⟨(some 20), none, .mov (.t 0)⟩, ⟨(some 21), none, .mov (.t 1)⟩, ⟨(some 22), none, .slice 1 (.t 20) none (some (.t 21)) none⟩, ⟨(some 23), none, .mov (.t 0)⟩, ⟨(some 24), none, .mov (.t 2)⟩, ⟨(some 25), none, .slice 1 (.t 23) (some (.t 24)) none none⟩, ⟨(some 26), none, .bi (.append 1 8 3) [(.t 22), (.t 25)]⟩, ⟨(some 0), none, .mov (.t 26)⟩] [])
 (.seq (.ops [⟨(some 27), none, .mov (.t 0)⟩, ⟨(some 28), none, .mov (.t 0)⟩, ⟨(some 29), none, .bi (.len 1) [(.t 28)]⟩, ⟨(some 30), none, .mov (.t 7)⟩, ⟨(some 31), none, .slice 1 (.t 27) (some (.t 29)) (some (.t 30)) none⟩, ⟨none, none, .bi (.clearS [(.int .i64 0)]) [(.t 31)]⟩])
 (.seq (.ops [⟨(some 32), none, .mov (.t 0)⟩, ⟨(some 6), none, .mov (.t 32)⟩])
 .ret)))))))⟩
def b67_0 : VCode := (.seq (.seq (.ops [⟨(some 3), none, .mov (.t 2)⟩, ⟨(some 4), none, .mov (.t 0)⟩, ⟨(some 5), none, .bi (.len 1) [(.t 4)]⟩, ⟨(some 6), none, .bin .lss (.t 3) (.t 5)⟩])
 (.cond (.t 6) .skip (.exit 0)))
 (.seq (.block 1 (.ops [⟨(some 9), none, .mov (.t 0)⟩, ⟨(some 10), none, .mov (.t 2)⟩, ⟨(some 11), none, .mov (.t 0)⟩, ⟨(some 12), none, .mov (.t 2)⟩, ⟨(some 13), none, .iaddr 1 none (.t 11) (.t 12)⟩, ⟨(some 14), none, .load false 1 (.t 13)⟩, ⟨(some 15), none, .bin .sub (.c (.int .i64 (-9))) (.t 14)⟩, ⟨(some 16), none, .iaddr 1 none (.t 9) (.t 10)⟩, ⟨none, none, .store 1 (.t 16) (.t 15)⟩]))
 (.ops [⟨(some 7), none, .mov (.t 2)⟩, ⟨(some 8), none, .bin .add (.t 7) (.c (.int .i64 1))⟩, ⟨(some 2), none, .mov (.t 8)⟩])))
/-- furlong/furlonglaw0.SpoilInts -/
def v67 : VFun := ⟨1, [], (.seq (.ops [⟨(some 2), none, .mov (.c (.int .i64 0))⟩])
 (.block 0 (.loop b67_0)))⟩
/-- slices.Clone[[]furlong/api.Point,furlong/api.Point] -/
def v72 : VFun := ⟨1, [(.tmp 2)], (.seq (.ops [⟨(some 2), none, .mov (.c .nils)⟩])
 (.seq (.seq (.ops [⟨(some 3), none, .mov (.t 0)⟩, ⟨(some 4), none, .eqs .sl false (.t 3) (.c .nils)⟩])
 (.cond (.t 4) (.seq (.ops [⟨(some 2), none, .mov (.c .nils)⟩])
 .ret) .skip))
 (.seq (.ops [⟨(some 5), none, .bslice [(.int .i64 0), (.int .i64 0)] 61 0 []⟩, ⟨(some 6), none, .mov (.t 0)⟩, ⟨(some 7), none, .bi (.append 2 16 61) [(.t 5), (.t 6)]⟩, ⟨(some 2), none, .mov (.t 7)⟩])
 .ret)))⟩
/-- furlong/rec.opMay -/
def v73 : VFun := ⟨2, [(.tmp 4)], (.seq (.ops [⟨(some 4), none, .mov (.c (.bool false))⟩])
 (.seq (.seq (.ops [⟨(some 5), none, .mov (.t 0)⟩, ⟨(some 6), none, .nilck (.t 5)⟩, ⟨(some 7), none, .faddr 0 (.t 6)⟩, ⟨(some 8), none, .load false 1 (.t 7)⟩])
 (.block 0 (.seq (.ops [⟨(some 10), none, .bin .eql (.t 8) (.c (.int .i64 0))⟩, ⟨(some 9), none, .mov (.t 10)⟩])
 (.cond (.t 9) (.seq (.ops [⟨(some 11), none, .mov (.t 0)⟩, ⟨(some 12), none, .nilck (.t 11)⟩, ⟨(some 13), none, .faddr 1 (.t 12)⟩, ⟨(some 14), none, .load true 3 (.t 13)⟩, ⟨(some 15), none, .call 88 [(.t 14)]⟩, ⟨(some 16), none, .mov (.t 15)⟩, ⟨(some 17), (some (16, true)), .mov (.t 0)⟩, ⟨(some 18), (some (16, true)), .nilck (.t 17)⟩, ⟨(some 19), (some (16, true)), .faddr 4 (.t 18)⟩, ⟨(some 20), (some (16, true)), .load false 1 (.t 19)⟩, ⟨(some 21), (some (16, true)), .bin .eql (.t 20) (.c (.int .i64 0))⟩, ⟨(some 22), none, .pick (.t 16) (.t 21) (.c (.bool false))⟩, ⟨(some 23), none, .mov (.t 22)⟩, ⟨(some 24), (some (23, true)), .mov (.t 0)⟩, ⟨(some 25), (some (23, true)), .nilck (.t 24)⟩, ⟨(some 26), (some (23, true)), .faddr 5 (.t 25)⟩, ⟨(some 27), (some (23, true)), .call 96 [(.t 26)]⟩, ⟨(some 28), none, .pick (.t 23) (.t 27) (.c (.bool false))⟩, ⟨(some 4), none, .mov (.t 28)⟩])
 .ret) (.seq (.ops [⟨(some 30), none, .bin .eql (.t 8) (.c (.int .i64 1))⟩, ⟨(some 29), none, .mov (.t 30)⟩])
 (.cond (.t 29) (.seq (.ops [⟨(some 31), none, .mov (.t 0)⟩, ⟨(some 32), none, .nilck (.t 31)⟩, ⟨(some 33), none, .faddr 4 (.t 32)⟩, ⟨(some 34), none, .load false 1 (.t 33)⟩, ⟨(some 35), none, .bin .geq (.t 34) (.c (.int .i64 1))⟩, ⟨(some 36), none, .mov (.t 35)⟩, ⟨(some 37), (some (36, true)), .mov (.t 0)⟩, ⟨(some 38), (some (36, true)), .nilck (.t 37)⟩, ⟨(some 39), (some (36, true)), .faddr 4 (.t 38)⟩, ⟨(some 40), (some (36, true)), .load false 1 (.t 39)⟩, ⟨(some 41), (some (36, true)), .bin .leq (.t 40) (.c (.int .i64 65535))⟩, ⟨(some 42), none, .pick (.t 36) (.t 41) (.c (.bool false))⟩, ⟨(some 43), none, .mov (.t 42)⟩, ⟨(some 44), (some (43, true)), .mov (.t 0)⟩, ⟨(some 45), (some (43, true)), .nilck (.t 44)⟩, ⟨(some 46), (some (43, true)), .faddr 1 (.t 45)⟩, ⟨(some 47), (some (43, true)), .call 97 [(.t 46)]⟩, ⟨(some 48), none, .pick (.t 43) (.t 47) (.c (.bool false))⟩, ⟨(some 49), none, .mov (.t 48)⟩, ⟨(some 50), (some (49, true)), .mov (.t 0)⟩, ⟨(some 51), (some (49, true)), .nilck (.t 50)⟩, ⟨(some 52), (some (49, true)), .faddr 5 (.t 51)⟩, ⟨(some 53), (some (49, true)), .call 96 [(.t 52)]⟩, ⟨(some 54), none, .pick (.t 49) (.t 53) (.c (.bool false))⟩, ⟨(some 4), none, .mov (.t 54)⟩])
 .ret) (.seq (.ops [⟨(some 56), none, .bin .eql (.t 8) (.c (.int .i64 2))⟩, ⟨(some 55), none, .mov (.t 56)⟩])
 (.cond (.t 55) (.seq (.ops [⟨(some 57), none, .mov (.t 0)⟩, ⟨(some 58), none, .nilck (.t 57)⟩, ⟨(some 59), none, .faddr 5 (.t 58)⟩, ⟨(some 60), none, .load true 3 (.t 59)⟩, ⟨(some 61), none, .mov (.t 1)⟩, ⟨(some 62), none, .call 35 [(.t 60), (.t 61)]⟩, ⟨(some 63), none, .mov (.t 62)⟩, ⟨(some 64), (some (63, true)), .mov (.t 0)⟩, ⟨(some 65), (some (63, true)), .nilck (.t 64)⟩, ⟨(some 66), (some (63, true)), .faddr 4 (.t 65)⟩, ⟨(some 67), (some (63, true)), .load false 1 (.t 66)⟩, ⟨(some 68), (some (63, true)), .bin .eql (.t 67) (.c (.int .i64 0))⟩, ⟨(some 69), none, .pick (.t 63) (.t 68) (.c (.bool false))⟩, ⟨(some 70), none, .mov (.t 69)⟩, ⟨(some 71), (some (70, true)), .mov (.t 0)⟩, ⟨(some 72), (some (70, true)), .nilck (.t 71)⟩, ⟨(some 73), (some (70, true)), .faddr 1 (.t 72)⟩, ⟨(some 74), (some (70, true)), .call 97 [(.t 73)]⟩, ⟨(some 75), none, .pick (.t 70) (.t 74) (.c (.bool false))⟩, ⟨(some 4), none, .mov (.t 75)⟩])
 .ret) .skip))))))))
 (.seq (.ops [⟨(some 4), none, .mov (.c (.bool false))⟩])
 .ret)))⟩
/-- furlong/rec.Id -/
def v74 : VFun := ⟨1, [(.tmp 2)], (.seq (.ops [⟨(some 2), none, .mov (.c (.int .i64 0))⟩])
 (.seq (.seq (.ops [⟨(some 3), none, .mov (.t 0)⟩, ⟨(some 4), none, .nilck (.t 3)⟩, ⟨(some 5), none, .faddr 0 (.t 4)⟩, ⟨(some 6), none, .load false 1 (.t 5)⟩, ⟨(some 7), none, .bin .eql (.t 6) (.c (.int .i64 0))⟩])
 (.cond (.t 7) (.seq (.ops [⟨(some 8), none, .mov (.t 0)⟩, ⟨(some 9), none, .nilck (.t 8)⟩, ⟨(some 10), none, .faddr 1 (.t 9)⟩, ⟨(some 11), none, .faddr 0 (.t 10)⟩, ⟨(some 12), none, .load false 1 (.t 11)⟩, ⟨(some 2), none, .mov (.t 12)⟩])
 .ret) .skip))
 (.seq (.ops [⟨(some 13), none, .mov (.t 0)⟩, ⟨(some 14), none, .nilck (.t 13)⟩, ⟨(some 15), none, .faddr 4 (.t 14)⟩, ⟨(some 16), none, .load false 1 (.t 15)⟩, ⟨(some 2), none, .mov (.t 16)⟩])
 .ret)))⟩
/-- furlong/furlongref8.opMay -/
def v75 : VFun := ⟨1, [(.tmp 2)], (.seq (.ops [⟨(some 1), none, .box 52 (.t 0)⟩, ⟨(some 2), none, .mov (.c (.bool false))⟩])
 (.seq (.seq (.ops [⟨(some 3), none, .faddr 0 (.t 1)⟩, ⟨(some 4), none, .load false 1 (.t 3)⟩])
 (.block 0 (.seq (.ops [⟨(some 6), none, .bin .eql (.t 4) (.c (.int .i64 0))⟩, ⟨(some 5), none, .mov (.t 6)⟩])
 (.cond (.t 5) (.seq (.ops [⟨(some 7), none, .faddr 1 (.t 1)⟩, ⟨(some 8), none, .load true 3 (.t 7)⟩, ⟨(some 9), none, .call 50 [(.t 8)]⟩, ⟨(some 10), none, .mov (.t 9)⟩, ⟨(some 11), (some (10, true)), .faddr 4 (.t 1)⟩, ⟨(some 12), (some (10, true)), .load false 1 (.t 11)⟩, ⟨(some 13), (some (10, true)), .bin .eql (.t 12) (.c (.int .i64 0))⟩, ⟨(some 14), none, .pick (.t 10) (.t 13) (.c (.bool false))⟩, ⟨(some 15), none, .mov (.t 14)⟩, ⟨(some 16), (some (15, true)), .faddr 5 (.t 1)⟩, ⟨(some 17), (some (15, true)), .load true 3 (.t 16)⟩, ⟨(some 18), (some (15, true)), .call 98 [(.t 17)]⟩, ⟨(some 19), none, .pick (.t 15) (.t 18) (.c (.bool false))⟩, ⟨(some 2), none, .mov (.t 19)⟩])
 .ret) (.seq (.ops [⟨(some 21), none, .bin .eql (.t 4) (.c (.int .i64 1))⟩, ⟨(some 20), none, .mov (.t 21)⟩])
 (.cond (.t 20) (.seq (.ops [⟨(some 22), none, .faddr 4 (.t 1)⟩, ⟨(some 23), none, .load false 1 (.t 22)⟩, ⟨(some 24), none, .bin .geq (.t 23) (.c (.int .i64 1))⟩, ⟨(some 25), none, .mov (.t 24)⟩, ⟨(some 26), (some (25, true)), .faddr 4 (.t 1)⟩, ⟨(some 27), (some (25, true)), .load false 1 (.t 26)⟩, ⟨(some 28), (some (25, true)), .bin .leq (.t 27) (.c (.int .i64 65535))⟩, ⟨(some 29), none, .pick (.t 25) (.t 28) (.c (.bool false))⟩, ⟨(some 30), none, .mov (.t 29)⟩, ⟨(some 31), (some (30, true)), .faddr 1 (.t 1)⟩, ⟨(some 32), (some (30, true)), .load true 3 (.t 31)⟩, ⟨(some 33), (some (30, true)), .call 99 [(.t 32)]⟩, ⟨(some 34), none, .pick (.t 30) (.t 33) (.c (.bool false))⟩, ⟨(some 35), none, .mov (.t 34)⟩, ⟨(some 36), (some (35, true)), .faddr 5 (.t 1)⟩, ⟨(some 37), (some (35, true)), .load true 3 (.t 36)⟩, ⟨(some 38), (some (35, true)), .call 98 [(.t 37)]⟩, ⟨(some 39), none, .pick (.t 35) (.t 38) (.c (.bool false))⟩, ⟨(some 2), none, .mov (.t 39)⟩])
 .ret) (.seq (.ops [⟨(some 41), none, .bin .eql (.t 4) (.c (.int .i64 2))⟩, ⟨(some 40), none, .mov (.t 41)⟩])
 (.cond (.t 40) (.seq (.ops [⟨(some 42), none, .faddr 5 (.t 1)⟩, ⟨(some 43), none, .load true 3 (.t 42)⟩, ⟨(some 44), none, .call 42 [(.t 43), (.c (.int .i64 8))]⟩, ⟨(some 45), none, .mov (.t 44)⟩, ⟨(some 46), (some (45, true)), .faddr 1 (.t 1)⟩, ⟨(some 47), (some (45, true)), .load true 3 (.t 46)⟩, ⟨(some 48), (some (45, true)), .call 99 [(.t 47)]⟩, ⟨(some 49), none, .pick (.t 45) (.t 48) (.c (.bool false))⟩, ⟨(some 50), none, .mov (.t 49)⟩, ⟨(some 51), (some (50, true)), .faddr 4 (.t 1)⟩, ⟨(some 52), (some (50, true)), .load false 1 (.t 51)⟩, ⟨(some 53), (some (50, true)), .bin .eql (.t 52) (.c (.int .i64 0))⟩, ⟨(some 54), none, .pick (.t 50) (.t 53) (.c (.bool false))⟩, ⟨(some 2), none, .mov (.t 54)⟩])
 .ret) .skip))))))))
 (.seq (.ops [⟨(some 2), none, .mov (.c (.bool false))⟩])
 .ret)))⟩
/-- furlong/furlongref8.IdOf -/
def v76 : VFun := ⟨1, [(.tmp 2)], (.seq (.ops [⟨(some 1), none, .box 52 (.t 0)⟩, ⟨(some 2), none, .mov (.c (.int .i64 0))⟩])
 (.seq (.seq (.ops [⟨(some 3), none, .faddr 0 (.t 1)⟩, ⟨(some 4), none, .load false 1 (.t 3)⟩])
 (.block 0 (.seq (.ops [⟨(some 6), none, .bin .eql (.t 4) (.c (.int .i64 0))⟩, ⟨(some 5), none, .mov (.t 6)⟩])
 (.cond (.t 5) (.seq (.ops [⟨(some 7), none, .faddr 1 (.t 1)⟩, ⟨(some 8), none, .faddr 0 (.t 7)⟩, ⟨(some 9), none, .load false 1 (.t 8)⟩, ⟨(some 2), none, .mov (.t 9)⟩])
 .ret) (.seq (.ops [⟨(some 11), none, .bin .eql (.t 4) (.c (.int .i64 1))⟩, ⟨(some 10), none, .mov (.t 11)⟩])
 (.cond (.t 10) (.seq (.ops [⟨(some 12), none, .faddr 4 (.t 1)⟩, ⟨(some 13), none, .load false 1 (.t 12)⟩, ⟨(some 2), none, .mov (.t 13)⟩])
 .ret) .skip))))))
 (.seq (.ops [⟨(some 2), none, .mov (.c (.int .i64 0))⟩])
 .ret)))⟩
def b77_0 : VCode := (.seq (.seq (.ops [⟨(some 9), none, .mov (.t 5)⟩, ⟨(some 10), none, .mov (.t 1)⟩, ⟨(some 11), none, .bi (.len 1) [(.t 10)]⟩, ⟨(some 12), none, .bin .lss (.t 9) (.t 11)⟩])
 (.cond (.t 12) .skip (.exit 0)))
 (.seq (.block 1 (.seq (.drawn [⟨(some 15), none, .mov (.t 1)⟩, ⟨(some 16), none, .mov (.t 5)⟩, ⟨(some 17), none, .iaddr 2 none (.t 15) (.t 16)⟩, ⟨(some 18), none, .load true 2 (.t 17)⟩, ⟨(some 19), none, .call 100 [(.t 18)]⟩, ⟨(some 20), none, .un .not (.t 19)⟩, ⟨(some 21), none, .mov (.t 20)⟩, ⟨(some 22), (some (21, false)), .mov (.t 5)⟩, ⟨(some 23), (some (21, false)), .bin .gtr (.t 22) (.c (.int .i64 0))⟩, ⟨(some 24), (some (21, false)), .mov (.t 23)⟩, ⟨(some 25), (some (24, true)), .mov (.t 1)⟩, ⟨(some 26), (some (24, true)), .mov (.t 5)⟩, ⟨(some 27), (some (24, true)), .iaddr 2 none (.t 25) (.t 26)⟩, ⟨(some 28), (some (24, true)), .load true 2 (.t 27)⟩, ⟨(some 29), (some (24, true)), .mov (.t 1)⟩, ⟨(some 30), (some (24, true)), .mov (.t 5)⟩, ⟨(some 31), (some (24, true)), .bin .sub (.t 30) (.c (.int .i64 1))⟩, ⟨(some 32), (some (24, true)), .iaddr 2 none (.t 29) (.t 31)⟩, ⟨(some 33), (some (24, true)), .load true 2 (.t 32)⟩, ⟨(some 34), (some (24, true)), .eqs (.flat [.int, .int]) false (.t 28) (.t 33)⟩, ⟨(some 35), (some (21, false)), .pick (.t 24) (.t 34) (.c (.bool false))⟩, ⟨(some 36), none, .pick (.t 21) (.c (.bool true)) (.t 35)⟩] [])
 (.cond (.t 36) (.seq (.ops [⟨(some 4), none, .mov (.c (.bool false))⟩])
 .ret) .skip)))
 (.ops [⟨(some 13), none, .mov (.t 5)⟩, ⟨(some 14), none, .bin .add (.t 13) (.c (.int .i64 1))⟩, ⟨(some 5), none, .mov (.t 14)⟩])))
/-- furlong/furlongref1.ringMay -/
def v77 : VFun := ⟨2, [(.tmp 4)], (.seq (.ops [⟨(some 4), none, .mov (.c (.bool false))⟩])
 (.seq (.seq (.ops [⟨(some 6), none, .mov (.t 1)⟩, ⟨(some 7), none, .bi (.len 1) [(.t 6)]⟩, ⟨(some 8), none, .bin .gtr (.t 7) (.c (.int .i64 16))⟩])
 (.cond (.t 8) (.seq (.ops [⟨(some 4), none, .mov (.c (.bool false))⟩])
 .ret) .skip))
 (.seq (.seq (.ops [⟨(some 5), none, .mov (.c (.int .i64 0))⟩])
 (.block 0 (.loop b77_0)))
 (.seq (.seq (.ops [⟨(some 37), none, .mov (.t 0)⟩])
 (.block 2 (.seq (.ops [⟨(some 39), none, .bin .eql (.t 37) (.c (.int .i64 0))⟩, ⟨(some 38), none, .mov (.t 39)⟩])
 (.cond (.t 38) (.seq (.ops [⟨(some 40), none, .mov (.t 1)⟩, ⟨(some 41), none, .bi (.len 1) [(.t 40)]⟩, ⟨(some 42), none, .bin .eql (.t 41) (.c (.int .i64 1))⟩, ⟨(some 4), none, .mov (.t 42)⟩])
 .ret) (.seq (.ops [⟨(some 44), none, .bin .eql (.t 37) (.c (.int .i64 1))⟩, ⟨(some 43), none, .mov (.t 44)⟩])
 (.cond (.t 43) (.seq (.ops [⟨(some 45), none, .mov (.t 1)⟩, ⟨(some 46), none, .bi (.len 1) [(.t 45)]⟩, ⟨(some 47), none, .bin .geq (.t 46) (.c (.int .i64 2))⟩, ⟨(some 4), none, .mov (.t 47)⟩])
 .ret) (.seq (.ops [⟨(some 49), none, .bin .eql (.t 37) (.c (.int .i64 2))⟩, ⟨(some 48), none, .mov (.t 49)⟩])
 (.cond (.t 48) (.seq (.drawn [⟨(some 50), none, .mov (.t 1)⟩, ⟨(some 51), none, .bi (.len 1) [(.t 50)]⟩, ⟨(some 52), none, .bin .geq (.t 51) (.c (.int .i64 3))⟩, ⟨(some 53), none, .mov (.t 52)⟩, ⟨(some 54), (some (53, true)), .mov (.t 1)⟩, ⟨(some 55), (some (53, true)), .iaddr 2 none (.t 54) (.c (.int .i64 0))⟩, ⟨(some 56), (some (53, true)), .load true 2 (.t 55)⟩, ⟨(some 57), (some (53, true)), .mov (.t 1)⟩, ⟨(some 58), (some (53, true)), .mov (.t 1)⟩, ⟨(some 59), (some (53, true)), .bi (.len 1) [(.t 58)]⟩, ⟨(some 60), (some (53, true)), .bin .sub (.t 59) (.c (.int .i64 1))⟩, ⟨(some 61), (some (53, true)), .iaddr 2 none (.t 57) (.t 60)⟩, ⟨(some 62), (some (53, true)), .load true 2 (.t 61)⟩, ⟨(some 63), (some (53, true)), .eqs (.flat [.int, .int]) true (.t 56) (.t 62)⟩, ⟨(some 64), none, .pick (.t 53) (.t 63) (.c (.bool false))⟩, ⟨(some 4), none, .mov (.t 64)⟩] [])
 .ret) .skip))))))))
 (.seq (.ops [⟨(some 4), none, .mov (.c (.bool false))⟩])
 .ret)))))⟩
def b82_0 : VCode := (.seq (.seq (.ops [⟨(some 13), none, .mov (.t 7)⟩, ⟨(some 14), none, .mov (.t 8)⟩, ⟨(some 15), none, .bin .lss (.t 13) (.t 14)⟩])
 (.cond (.t 15) .skip (.exit 0)))
 (.block 1 (.seq (.ops [⟨(some 16), none, .mov (.t 7)⟩, ⟨(some 17), none, .mov (.t 8)⟩, ⟨(some 18), none, .bin .add (.t 16) (.t 17)⟩, ⟨(some 19), none, .conv (.int .u64) (.t 18)⟩, ⟨(some 20), none, .bin .shr (.t 19) (.c (.int .u64 1))⟩, ⟨(some 21), none, .conv (.int .i64) (.t 20)⟩, ⟨(some 9), none, .mov (.t 21)⟩])
 (.seq (.ops [⟨(some 22), none, .mov (.t 0)⟩, ⟨(some 23), none, .mov (.t 9)⟩, ⟨(some 24), none, .iaddr 1 none (.t 22) (.t 23)⟩, ⟨(some 25), none, .load false 1 (.t 24)⟩, ⟨(some 26), none, .mov (.t 1)⟩, ⟨(some 27), none, .call 101 [(.t 25), (.t 26)]⟩])
 (.cond (.t 27) (.ops [⟨(some 28), none, .mov (.t 9)⟩, ⟨(some 29), none, .bin .add (.t 28) (.c (.int .i64 1))⟩, ⟨(some 7), none, .mov (.t 29)⟩]) (.ops [⟨(some 30), none, .mov (.t 9)⟩, ⟨(some 8), none, .mov (.t 30)⟩]))))))
/-- slices.BinarySearch[[]int,int] -/
def v82 : VFun := ⟨2, [(.tmp 4), (.tmp 5)], (.seq (.ops [⟨(some 4), none, .mov (.c (.int .i64 0))⟩, ⟨(some 5), none, .mov (.c (.bool false))⟩])
 (.seq (.ops [⟨(some 10), none, .mov (.t 0)⟩, ⟨(some 11), none, .bi (.len 1) [(.t 10)]⟩, ⟨(some 6), none, .mov (.t 11)⟩])
 (.seq (.ops [⟨(some 12), none, .mov (.t 6)⟩, ⟨(some 7), none, .mov (.c (.int .i64 0))⟩, ⟨(some 8), none, .mov (.t 12)⟩])
 (.seq (.block 0 (.loop b82_0))
 (.seq (.ops [⟨(some 31), none, .mov (.t 7)⟩, ⟨(some 32), none, .mov (.t 7)⟩, ⟨(some 33), none, .mov (.t 6)⟩, ⟨(some 34), none, .bin .lss (.t 32) (.t 33)⟩, ⟨(some 35), none, .mov (.t 34)⟩, ⟨(some 36), (some (35, true)), .mov (.t 0)⟩, ⟨(some 37), (some (35, true)), .mov (.t 7)⟩, ⟨(some 38), (some (35, true)), .iaddr 1 none (.t 36) (.t 37)⟩, ⟨(some 39), (some (35, true)), .load false 1 (.t 38)⟩, ⟨(some 40), (some (35, true)), .mov (.t 1)⟩, ⟨(some 41), (some (35, true)), .bin .eql (.t 39) (.t 40)⟩, ⟨(some 42), (some (35, true)), .mov (.t 41)⟩, ⟨(some 43), (some (42, false)), .mov (.t 0)⟩, ⟨(some 44), (some (42, false)), .mov (.t 7)⟩, ⟨(some 45), (some (42, false)), .iaddr 1 none (.t 43) (.t 44)⟩, ⟨(some 46), (some (42, false)), .load false 1 (.t 45)⟩, ⟨(some 47), (some (42, false)), .call 102 [(.t 46)]⟩, ⟨(some 48), (some (42, false)), .mov (.t 47)⟩, ⟨(some 49), (some (48, true)), .mov (.t 1)⟩, ⟨(some 50), (some (48, true)), .call 102 [(.t 49)]⟩, ⟨(some 51), (some (42, false)), .pick (.t 48) (.t 50) (.c (.bool false))⟩, ⟨(some 52), (some (35, true)), .pick (.t 42) (.c (.bool true)) (.t 51)⟩, ⟨(some 53), none, .pick (.t 35) (.t 52) (.c (.bool false))⟩, ⟨(some 4), none, .mov (.t 31)⟩, ⟨(some 5), none, .mov (.t 53)⟩])
 .ret)))))⟩
/-- slices.Clone[[]int,int] -/
def v83 : VFun := ⟨1, [(.tmp 2)], (.seq (.ops [⟨(some 2), none, .mov (.c .nils)⟩])
 (.seq (.seq (.ops [⟨(some 3), none, .mov (.t 0)⟩, ⟨(some 4), none, .eqs .sl false (.t 3) (.c .nils)⟩])
 (.cond (.t 4) (.seq (.ops [⟨(some 2), none, .mov (.c .nils)⟩])
 .ret) .skip))
 (.seq (.ops [⟨(some 5), none, .bslice [(.int .i64 0)] 3 0 []⟩, ⟨(some 6), none, .mov (.t 0)⟩, ⟨(some 7), none, .bi (.append 1 8 3) [(.t 5), (.t 6)]⟩, ⟨(some 2), none, .mov (.t 7)⟩])
 .ret)))⟩
/-- furlong/shape.May -/
def v88 : VFun := ⟨1, [(.tmp 2)], (.seq (.ops [⟨(some 1), none, .box 50 (.t 0)⟩, ⟨(some 2), none, .mov (.c (.bool false))⟩])
 (.seq (.seq (.ops [⟨(some 3), none, .faddr 0 (.t 1)⟩, ⟨(some 4), none, .load false 1 (.t 3)⟩, ⟨(some 5), none, .bin .lss (.t 4) (.c (.int .i64 1))⟩, ⟨(some 6), none, .mov (.t 5)⟩, ⟨(some 7), (some (6, false)), .faddr 0 (.t 1)⟩, ⟨(some 8), (some (6, false)), .load false 1 (.t 7)⟩, ⟨(some 9), (some (6, false)), .bin .gtr (.t 8) (.c (.int .i64 65535))⟩, ⟨(some 10), none, .pick (.t 6) (.c (.bool true)) (.t 9)⟩, ⟨(some 11), none, .mov (.t 10)⟩, ⟨(some 12), (some (11, false)), .faddr 2 (.t 1)⟩, ⟨(some 13), (some (11, false)), .load false 1 (.t 12)⟩, ⟨(some 14), (some (11, false)), .bi (.len 1) [(.t 13)]⟩, ⟨(some 15), (some (11, false)), .bin .lss (.t 14) (.c (.int .i64 1))⟩, ⟨(some 16), none, .pick (.t 11) (.c (.bool true)) (.t 15)⟩, ⟨(some 17), none, .mov (.t 16)⟩, ⟨(some 18), (some (17, false)), .faddr 2 (.t 1)⟩, ⟨(some 19), (some (17, false)), .load false 1 (.t 18)⟩, ⟨(some 20), (some (17, false)), .bi (.len 1) [(.t 19)]⟩, ⟨(some 21), (some (17, false)), .bin .gtr (.t 20) (.c (.int .i64 4))⟩, ⟨(some 22), none, .pick (.t 17) (.c (.bool true)) (.t 21)⟩])
 (.cond (.t 22) (.seq (.ops [⟨(some 2), none, .mov (.c (.bool false))⟩])
 .ret) .skip))
 (.seq (.seq (.ops [⟨(some 23), none, .faddr 1 (.t 1)⟩, ⟨(some 24), none, .load false 1 (.t 23)⟩])
 (.block 0 (.seq (.ops [⟨(some 26), none, .bin .eql (.t 24) (.c (.int .i64 0))⟩, ⟨(some 25), none, .mov (.t 26)⟩])
 (.cond (.t 25) (.seq (.ops [⟨(some 27), none, .faddr 2 (.t 1)⟩, ⟨(some 28), none, .load false 1 (.t 27)⟩, ⟨(some 29), none, .bi (.len 1) [(.t 28)]⟩, ⟨(some 30), none, .bin .eql (.t 29) (.c (.int .i64 1))⟩, ⟨(some 31), none, .mov (.t 30)⟩, ⟨(some 32), (some (31, true)), .faddr 2 (.t 1)⟩, ⟨(some 33), (some (31, true)), .load false 1 (.t 32)⟩, ⟨(some 34), (some (31, true)), .iaddr 1 none (.t 33) (.c (.int .i64 0))⟩, ⟨(some 35), (some (31, true)), .load false 1 (.t 34)⟩, ⟨(some 36), (some (31, true)), .bi (.len 1) [(.t 35)]⟩, ⟨(some 37), (some (31, true)), .bin .eql (.t 36) (.c (.int .i64 1))⟩, ⟨(some 38), none, .pick (.t 31) (.t 37) (.c (.bool false))⟩, ⟨(some 39), none, .mov (.t 38)⟩, ⟨(some 40), (some (39, true)), .faddr 2 (.t 1)⟩, ⟨(some 41), (some (39, true)), .load false 1 (.t 40)⟩, ⟨(some 42), (some (39, true)), .iaddr 1 none (.t 41) (.c (.int .i64 0))⟩, ⟨(some 43), (some (39, true)), .load false 1 (.t 42)⟩, ⟨(some 44), (some (39, true)), .iaddr 2 none (.t 43) (.c (.int .i64 0))⟩, ⟨(some 45), (some (39, true)), .load true 2 (.t 44)⟩, ⟨(some 46), (some (39, true)), .call 114 [(.t 45)]⟩, ⟨(some 47), none, .pick (.t 39) (.t 46) (.c (.bool false))⟩, ⟨(some 2), none, .mov (.t 47)⟩])
 .ret) (.seq (.ops [⟨(some 49), none, .bin .eql (.t 24) (.c (.int .i64 1))⟩, ⟨(some 48), none, .mov (.t 49)⟩])
 (.cond (.t 48) (.seq (.ops [⟨(some 50), none, .faddr 2 (.t 1)⟩, ⟨(some 51), none, .load false 1 (.t 50)⟩, ⟨(some 52), none, .bi (.len 1) [(.t 51)]⟩, ⟨(some 53), none, .bin .eql (.t 52) (.c (.int .i64 1))⟩, ⟨(some 54), none, .mov (.t 53)⟩, ⟨(some 55), (some (54, true)), .faddr 2 (.t 1)⟩, ⟨(some 56), (some (54, true)), .load false 1 (.t 55)⟩, ⟨(some 57), (some (54, true)), .iaddr 1 none (.t 56) (.c (.int .i64 0))⟩, ⟨(some 58), (some (54, true)), .load false 1 (.t 57)⟩, ⟨(some 59), (some (54, true)), .call 115 [(.t 58), (.c (.int .i64 2)), (.c (.bool false))]⟩, ⟨(some 60), none, .pick (.t 54) (.t 59) (.c (.bool false))⟩, ⟨(some 2), none, .mov (.t 60)⟩])
 .ret) (.seq (.ops [⟨(some 62), none, .bin .eql (.t 24) (.c (.int .i64 2))⟩, ⟨(some 61), none, .mov (.t 62)⟩])
 (.cond (.t 61) (.seq (.ops [⟨(some 63), none, .faddr 2 (.t 1)⟩, ⟨(some 64), none, .load false 1 (.t 63)⟩, ⟨(some 65), none, .call 116 [(.t 64), (.c (.fn 117 []))]⟩, ⟨(some 66), none, .un .not (.t 65)⟩, ⟨(some 2), none, .mov (.t 66)⟩])
 .ret) .skip))))))))
 (.seq (.ops [⟨(some 2), none, .mov (.c (.bool false))⟩])
 .ret))))⟩
/-- furlong/rec.noMap -/
def v96 : VFun := ⟨1, [(.tmp 2)], (.seq (.ops [⟨(some 2), none, .mov (.c (.bool false))⟩])
 (.seq (.ops [⟨(some 3), none, .mov (.t 0)⟩, ⟨(some 4), none, .nilck (.t 3)⟩, ⟨(some 5), none, .faddr 0 (.t 4)⟩, ⟨(some 6), none, .load false 1 (.t 5)⟩, ⟨(some 7), none, .bin .eql (.t 6) (.c (.int .i64 0))⟩, ⟨(some 8), none, .mov (.t 7)⟩, ⟨(some 9), (some (8, true)), .mov (.t 0)⟩, ⟨(some 10), (some (8, true)), .nilck (.t 9)⟩, ⟨(some 11), (some (8, true)), .faddr 1 (.t 10)⟩, ⟨(some 12), (some (8, true)), .load false 1 (.t 11)⟩, ⟨(some 13), (some (8, true)), .bi (.len 1) [(.t 12)]⟩, ⟨(some 14), (some (8, true)), .bin .eql (.t 13) (.c (.int .i64 0))⟩, ⟨(some 15), none, .pick (.t 8) (.t 14) (.c (.bool false))⟩, ⟨(some 16), none, .mov (.t 15)⟩, ⟨(some 17), (some (16, true)), .mov (.t 0)⟩, ⟨(some 18), (some (16, true)), .nilck (.t 17)⟩, ⟨(some 19), (some (16, true)), .faddr 2 (.t 18)⟩, ⟨(some 20), (some (16, true)), .load false 1 (.t 19)⟩, ⟨(some 21), (some (16, true)), .bi (.len 1) [(.t 20)]⟩, ⟨(some 22), (some (16, true)), .bin .eql (.t 21) (.c (.int .i64 0))⟩, ⟨(some 23), none, .pick (.t 16) (.t 22) (.c (.bool false))⟩, ⟨(some 2), none, .mov (.t 23)⟩])
 .ret))⟩
/-- furlong/rec.noFeature -/
def v97 : VFun := ⟨1, [(.tmp 2)], (.seq (.ops [⟨(some 2), none, .mov (.c (.bool false))⟩])
 (.seq (.ops [⟨(some 3), none, .mov (.t 0)⟩, ⟨(some 4), none, .nilck (.t 3)⟩, ⟨(some 5), none, .faddr 0 (.t 4)⟩, ⟨(some 6), none, .load false 1 (.t 5)⟩, ⟨(some 7), none, .bin .eql (.t 6) (.c (.int .i64 0))⟩, ⟨(some 8), none, .mov (.t 7)⟩, ⟨(some 9), (some (8, true)), .mov (.t 0)⟩, ⟨(some 10), (some (8, true)), .nilck (.t 9)⟩, ⟨(some 11), (some (8, true)), .faddr 1 (.t 10)⟩, ⟨(some 12), (some (8, true)), .load false 1 (.t 11)⟩, ⟨(some 13), (some (8, true)), .bin .eql (.t 12) (.c (.int .i64 0))⟩, ⟨(some 14), none, .pick (.t 8) (.t 13) (.c (.bool false))⟩, ⟨(some 15), none, .mov (.t 14)⟩, ⟨(some 16), (some (15, true)), .mov (.t 0)⟩, ⟨(some 17), (some (15, true)), .nilck (.t 16)⟩, ⟨(some 18), (some (15, true)), .faddr 2 (.t 17)⟩, ⟨(some 19), (some (15, true)), .load false 1 (.t 18)⟩, ⟨(some 20), (some (15, true)), .bi (.len 1) [(.t 19)]⟩, ⟨(some 21), (some (15, true)), .bin .eql (.t 20) (.c (.int .i64 0))⟩, ⟨(some 22), none, .pick (.t 15) (.t 21) (.c (.bool false))⟩, ⟨(some 2), none, .mov (.t 22)⟩])
 .ret))⟩
/-- furlong/furlongref8.zeroMap -/
def v98 : VFun := ⟨1, [(.tmp 2)], (.seq (.ops [⟨(some 1), none, .box 24 (.t 0)⟩, ⟨(some 2), none, .mov (.c (.bool false))⟩])
 (.seq (.ops [⟨(some 3), none, .faddr 0 (.t 1)⟩, ⟨(some 4), none, .load false 1 (.t 3)⟩, ⟨(some 5), none, .bin .eql (.t 4) (.c (.int .i64 0))⟩, ⟨(some 6), none, .mov (.t 5)⟩, ⟨(some 7), (some (6, true)), .faddr 1 (.t 1)⟩, ⟨(some 8), (some (6, true)), .load false 1 (.t 7)⟩, ⟨(some 9), (some (6, true)), .bi (.len 1) [(.t 8)]⟩, ⟨(some 10), (some (6, true)), .bin .eql (.t 9) (.c (.int .i64 0))⟩, ⟨(some 11), none, .pick (.t 6) (.t 10) (.c (.bool false))⟩, ⟨(some 12), none, .mov (.t 11)⟩, ⟨(some 13), (some (12, true)), .faddr 2 (.t 1)⟩, ⟨(some 14), (some (12, true)), .load false 1 (.t 13)⟩, ⟨(some 15), (some (12, true)), .bi (.len 1) [(.t 14)]⟩, ⟨(some 16), (some (12, true)), .bin .eql (.t 15) (.c (.int .i64 0))⟩, ⟨(some 17), none, .pick (.t 12) (.t 16) (.c (.bool false))⟩, ⟨(some 2), none, .mov (.t 17)⟩])
 .ret))⟩
/-- furlong/furlongref8.zeroFeature -/
def v99 : VFun := ⟨1, [(.tmp 2)], (.seq (.ops [⟨(some 1), none, .box 50 (.t 0)⟩, ⟨(some 2), none, .mov (.c (.bool false))⟩])
 (.seq (.ops [⟨(some 3), none, .faddr 0 (.t 1)⟩, ⟨(some 4), none, .load false 1 (.t 3)⟩, ⟨(some 5), none, .bin .eql (.t 4) (.c (.int .i64 0))⟩, ⟨(some 6), none, .mov (.t 5)⟩, ⟨(some 7), (some (6, true)), .faddr 1 (.t 1)⟩, ⟨(some 8), (some (6, true)), .load false 1 (.t 7)⟩, ⟨(some 9), (some (6, true)), .bin .eql (.t 8) (.c (.int .i64 0))⟩, ⟨(some 10), none, .pick (.t 6) (.t 9) (.c (.bool false))⟩, ⟨(some 11), none, .mov (.t 10)⟩, ⟨(some 12), (some (11, true)), .faddr 2 (.t 1)⟩, ⟨(some 13), (some (11, true)), .load false 1 (.t 12)⟩, ⟨(some 14), (some (11, true)), .bi (.len 1) [(.t 13)]⟩, ⟨(some 15), (some (11, true)), .bin .eql (.t 14) (.c (.int .i64 0))⟩, ⟨(some 16), none, .pick (.t 11) (.t 15) (.c (.bool false))⟩, ⟨(some 2), none, .mov (.t 16)⟩])
 .ret))⟩
/-- furlong/furlongref1.PointMay -/
def v100 : VFun := ⟨1, [(.tmp 2)], (.seq (.ops [⟨(some 1), none, .box 61 (.t 0)⟩, ⟨(some 2), none, .mov (.c (.bool false))⟩])
 (.seq (.ops [⟨(some 3), none, .faddr 0 (.t 1)⟩, ⟨(some 4), none, .load false 1 (.t 3)⟩, ⟨(some 5), none, .bin .geq (.t 4) (.c (.int .i64 0))⟩, ⟨(some 6), none, .mov (.t 5)⟩, ⟨(some 7), (some (6, true)), .faddr 0 (.t 1)⟩, ⟨(some 8), (some (6, true)), .load false 1 (.t 7)⟩, ⟨(some 9), (some (6, true)), .bin .leq (.t 8) (.c (.int .i64 4294967295))⟩, ⟨(some 10), none, .pick (.t 6) (.t 9) (.c (.bool false))⟩, ⟨(some 11), none, .mov (.t 10)⟩, ⟨(some 12), (some (11, true)), .faddr 1 (.t 1)⟩, ⟨(some 13), (some (11, true)), .load false 1 (.t 12)⟩, ⟨(some 14), (some (11, true)), .bin .geq (.t 13) (.c (.int .i64 0))⟩, ⟨(some 15), none, .pick (.t 11) (.t 14) (.c (.bool false))⟩, ⟨(some 16), none, .mov (.t 15)⟩, ⟨(some 17), (some (16, true)), .faddr 1 (.t 1)⟩, ⟨(some 18), (some (16, true)), .load false 1 (.t 17)⟩, ⟨(some 19), (some (16, true)), .bin .leq (.t 18) (.c (.int .i64 4294967295))⟩, ⟨(some 20), none, .pick (.t 16) (.t 19) (.c (.bool false))⟩, ⟨(some 2), none, .mov (.t 20)⟩])
 .ret))⟩
/-- cmp.Less[int] -/
def v101 : VFun := ⟨2, [(.tmp 4)], (.seq (.ops [⟨(some 4), none, .mov (.c (.bool false))⟩])
 (.seq (.ops [⟨(some 5), none, .mov (.t 0)⟩, ⟨(some 6), none, .call 121 [(.t 5)]⟩, ⟨(some 7), none, .mov (.t 6)⟩, ⟨(some 8), (some (7, true)), .mov (.t 1)⟩, ⟨(some 9), (some (7, true)), .call 121 [(.t 8)]⟩, ⟨(some 10), (some (7, true)), .un .not (.t 9)⟩, ⟨(some 11), none, .pick (.t 7) (.t 10) (.c (.bool false))⟩, ⟨(some 12), none, .mov (.t 11)⟩, ⟨(some 13), (some (12, false)), .mov (.t 0)⟩, ⟨(some 14), (some (12, false)), .mov (.t 1)⟩, ⟨(some 15), (some (12, false)), .bin .lss (.t 13) (.t 14)⟩, ⟨(some 16), none, .pick (.t 12) (.c (.bool true)) (.t 15)⟩, ⟨(some 4), none, .mov (.t 16)⟩])
 .ret))⟩
/-- slices.isNaN[int] -/
def v102 : VFun := ⟨1, [(.tmp 2)], (.seq (.ops [⟨(some 2), none, .mov (.c (.bool false))⟩])
 (.seq (.ops [⟨(some 3), none, .mov (.t 0)⟩, ⟨(some 4), none, .mov (.t 0)⟩, ⟨(some 5), none, .bin .neq (.t 3) (.t 4)⟩, ⟨(some 2), none, .mov (.t 5)⟩])
 .ret))⟩
/-- furlong/geom.PointMay -/
def v114 : VFun := ⟨1, [(.tmp 2)], (.seq (.ops [⟨(some 1), none, .box 61 (.t 0)⟩, ⟨(some 2), none, .mov (.c (.bool false))⟩])
 (.seq (.ops [⟨(some 3), none, .faddr 0 (.t 1)⟩, ⟨(some 4), none, .load false 1 (.t 3)⟩, ⟨(some 5), none, .call 119 [(.t 4)]⟩, ⟨(some 6), none, .mov (.t 5)⟩, ⟨(some 7), (some (6, true)), .faddr 1 (.t 1)⟩, ⟨(some 8), (some (6, true)), .load false 1 (.t 7)⟩, ⟨(some 9), (some (6, true)), .call 119 [(.t 8)]⟩, ⟨(some 10), none, .pick (.t 6) (.t 9) (.c (.bool false))⟩, ⟨(some 2), none, .mov (.t 10)⟩])
 .ret))⟩
def b115_0 : VCode := (.seq (.ops [⟨(some 22), none, .bin .lss (.t 21) (.t 20)⟩])
 (.seq (.cond (.t 22) .skip (.exit 0))
 (.seq (.block 1 (.seq (.ops [⟨(some 23), none, .mov (.t 21)⟩, ⟨(some 24), none, .iaddr 2 none (.t 19) (.t 21)⟩, ⟨(some 25), none, .load true 2 (.t 24)⟩, ⟨(some 8), none, .alloc [(.int .i64 0), (.int .i64 0)] 61⟩, ⟨(some 7), none, .mov (.t 23)⟩, ⟨none, none, .store 2 (.t 8) (.t 25)⟩])
 (.seq (.ops [⟨(some 26), none, .mov (.t 7)⟩, ⟨(some 27), none, .bin .add (.t 26) (.c (.int .i64 1))⟩, ⟨(some 9), none, .mov (.t 27)⟩])
 (.seq (.seq (.ops [⟨(some 28), none, .mov (.t 9)⟩, ⟨(some 29), none, .mov (.t 0)⟩, ⟨(some 30), none, .bi (.len 1) [(.t 29)]⟩, ⟨(some 31), none, .bin .eql (.t 28) (.t 30)⟩])
 (.cond (.t 31) (.ops [⟨(some 9), none, .mov (.c (.int .i64 0))⟩]) .skip))
 (.seq (.drawn [⟨(some 32), none, .load true 2 (.t 8)⟩, ⟨(some 33), none, .call 114 [(.t 32)]⟩, ⟨(some 34), none, .un .not (.t 33)⟩, ⟨(some 35), none, .mov (.t 34)⟩, ⟨(some 36), (some (35, false)), .mov (.t 9)⟩, ⟨(some 37), (some (35, false)), .bin .gtr (.t 36) (.c (.int .i64 0))⟩, ⟨(some 38), (some (35, false)), .mov (.t 37)⟩, ⟨(some 39), (some (38, false)), .mov (.t 2)⟩, ⟨(some 40), (some (35, false)), .pick (.t 38) (.c (.bool true)) (.t 39)⟩, ⟨(some 41), (some (35, false)), .mov (.t 40)⟩, ⟨(some 42), (some (41, true)), .load true 2 (.t 8)⟩, ⟨(some 43), (some (41, true)), .mov (.t 0)⟩, ⟨(some 44), (some (41, true)), .mov (.t 9)⟩, ⟨(some 45), (some (41, true)), .iaddr 2 none (.t 43) (.t 44)⟩, ⟨(some 46), (some (41, true)), .load true 2 (.t 45)⟩, ⟨(some 47), (some (41, true)), .eqs (.flat [.int, .int]) false (.t 42) (.t 46)⟩, ⟨(some 48), (some (35, false)), .pick (.t 41) (.t 47) (.c (.bool false))⟩, ⟨(some 49), none, .pick (.t 35) (.c (.bool true)) (.t 48)⟩] [])
 (.cond (.t 49) (.seq (.ops [⟨(some 6), none, .mov (.c (.bool false))⟩])
 .ret) .skip))))))
 (.ops [⟨(some 50), none, .bin .add (.t 21) (.c (.int .i64 1))⟩, ⟨(some 21), none, .mov (.t 50)⟩]))))
/-- furlong/shape.ring -/
def v115 : VFun := ⟨3, [(.tmp 6)], (.seq (.ops [⟨(some 6), none, .mov (.c (.bool false))⟩])
 (.seq (.seq (.ops [⟨(some 10), none, .mov (.t 0)⟩, ⟨(some 11), none, .bi (.len 1) [(.t 10)]⟩, ⟨(some 12), none, .mov (.t 1)⟩, ⟨(some 13), none, .bin .lss (.t 11) (.t 12)⟩, ⟨(some 14), none, .mov (.t 13)⟩, ⟨(some 15), (some (14, false)), .mov (.t 0)⟩, ⟨(some 16), (some (14, false)), .bi (.len 1) [(.t 15)]⟩, ⟨(some 17), (some (14, false)), .bin .gtr (.t 16) (.c (.int .i64 16))⟩, ⟨(some 18), none, .pick (.t 14) (.c (.bool true)) (.t 17)⟩])
 (.cond (.t 18) (.seq (.ops [⟨(some 6), none, .mov (.c (.bool false))⟩])
 .ret) .skip))
 (.seq (.seq (.ops [⟨(some 19), none, .mov (.t 0)⟩, ⟨(some 20), none, .bi (.len 1) [(.t 19)]⟩, ⟨(some 21), none, .mov (.c (.int .i64 0))⟩])
 (.block 0 (.loop b115_0)))
 (.seq (.ops [⟨(some 6), none, .mov (.c (.bool true))⟩])
 .ret))))⟩
/-- slices.ContainsFunc[[][]furlong/api.Point,[]furlong/api.Point] -/
def v116 : VFun := ⟨2, [(.tmp 4)], (.seq (.ops [⟨(some 4), none, .mov (.c (.bool false))⟩])
 (.seq (.ops [⟨(some 5), none, .mov (.t 0)⟩, ⟨(some 6), none, .mov (.t 1)⟩, ⟨(some 7), none, .call 128 [(.t 5), (.t 6)]⟩, ⟨(some 8), none, .bin .geq (.t 7) (.c (.int .i64 0))⟩, ⟨(some 4), none, .mov (.t 8)⟩])
 .ret))⟩
/-- furlong/shape.May$1 -/
def v117 : VFun := ⟨1, [(.tmp 2)], (.seq (.ops [⟨(some 2), none, .mov (.c (.bool false))⟩])
 (.seq (.ops [⟨(some 3), none, .mov (.t 0)⟩, ⟨(some 4), none, .call 115 [(.t 3), (.c (.int .i64 3)), (.c (.bool true))]⟩, ⟨(some 5), none, .un .not (.t 4)⟩, ⟨(some 2), none, .mov (.t 5)⟩])
 .ret))⟩
/-- furlong/geom.coord -/
def v119 : VFun := ⟨1, [(.tmp 2)], (.seq (.ops [⟨(some 2), none, .mov (.c (.bool false))⟩])
 (.seq (.ops [⟨(some 3), none, .mov (.t 0)⟩, ⟨(some 4), none, .bin .geq (.t 3) (.c (.int .i64 0))⟩, ⟨(some 5), none, .mov (.t 4)⟩, ⟨(some 6), (some (5, true)), .mov (.t 0)⟩, ⟨(some 7), (some (5, true)), .bin .leq (.t 6) (.c (.int .i64 4294967295))⟩, ⟨(some 8), none, .pick (.t 5) (.t 7) (.c (.bool false))⟩, ⟨(some 2), none, .mov (.t 8)⟩])
 .ret))⟩
/-- cmp.isNaN[int] -/
def v121 : VFun := ⟨1, [(.tmp 2)], (.seq (.ops [⟨(some 2), none, .mov (.c (.bool false))⟩])
 (.seq (.ops [⟨(some 3), none, .mov (.t 0)⟩, ⟨(some 4), none, .mov (.t 0)⟩, ⟨(some 5), none, .bin .neq (.t 3) (.t 4)⟩, ⟨(some 2), none, .mov (.t 5)⟩])
 .ret))⟩
def b128_0 : VCode := (.seq (.ops [⟨(some 9), none, .bin .lss (.t 8) (.t 7)⟩])
 (.seq (.cond (.t 9) .skip (.exit 0))
 (.seq (.block 1 (.seq (.ops [⟨(some 10), none, .mov (.t 8)⟩, ⟨(some 5), none, .mov (.t 10)⟩])
 (.seq (.ops [⟨(some 11), none, .mov (.t 1)⟩, ⟨(some 12), none, .mov (.t 0)⟩, ⟨(some 13), none, .mov (.t 5)⟩, ⟨(some 14), none, .iaddr 1 none (.t 12) (.t 13)⟩, ⟨(some 15), none, .load false 1 (.t 14)⟩, ⟨(some 16), none, .callv (.t 11) [(.t 15)]⟩])
 (.cond (.t 16) (.seq (.ops [⟨(some 17), none, .mov (.t 5)⟩, ⟨(some 4), none, .mov (.t 17)⟩])
 .ret) .skip))))
 (.ops [⟨(some 18), none, .bin .add (.t 8) (.c (.int .i64 1))⟩, ⟨(some 8), none, .mov (.t 18)⟩]))))
/-- slices.IndexFunc[[][]furlong/api.Point,[]furlong/api.Point] -/
def v128 : VFun := ⟨2, [(.tmp 4)], (.seq (.ops [⟨(some 4), none, .mov (.c (.int .i64 0))⟩])
 (.seq (.seq (.ops [⟨(some 6), none, .mov (.t 0)⟩, ⟨(some 7), none, .bi (.len 1) [(.t 6)]⟩, ⟨(some 8), none, .mov (.c (.int .i64 0))⟩])
 (.block 0 (.loop b128_0)))
 (.seq (.ops [⟨(some 4), none, .mov (.c (.int .i64 (-1)))⟩])
 .ret)))⟩
def tab : Nat → Option VFun := tableOf [(3, v3), (12, v12), (13, v13), (14, v14), (15, v15), (16, v16), (17, v17), (18, v18), (19, v19), (20, v20), (21, v21), (26, v26), (28, v28), (29, v29), (30, v30), (32, v32), (35, v35), (41, v41), (42, v42), (45, v45), (46, v46), (47, v47), (48, v48), (49, v49), (50, v50), (56, v56), (57, v57), (58, v58), (59, v59), (61, v61), (67, v67), (72, v72), (73, v73), (74, v74), (75, v75), (76, v76), (77, v77), (82, v82), (83, v83), (88, v88), (96, v96), (97, v97), (98, v98), (99, v99), (100, v100), (101, v101), (102, v102), (114, v114), (115, v115), (116, v116), (117, v117), (119, v119), (121, v121), (128, v128)]
end Go.Proofs.Ythmkenkjfmbkiaa.VM
