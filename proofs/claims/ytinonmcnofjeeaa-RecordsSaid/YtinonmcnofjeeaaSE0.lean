/- What the small machine's code and calls come to, put together freely. -/
import Derived.Test.YtinonmcnofjeeaaVM19
namespace Go.Proofs.Ytinonmcnofjeeaa.VM
set_option linter.unusedSimpArgs false
set_option linter.unusedVariables false
set_option linter.defProp false
set_option maxHeartbeats 1000000
open Go.RowKit

/-- A call comes to this, in every world in which arguments and memory stand for the program's. -/
def OK (P : Program) (f : Nat) (args : List AV) (h : Heap) (v : AV) (h' : Heap) : Prop := Enters P f ∧
    ∀ (φ : Env) (w : World) (us : Array Value), HR φ w h → VRs φ w args us.toList →
      Calls P f us w (fun e w' => ∃ φ' u, e = .returned u ∧ VR φ' w' v u ∧ HR φ' w' h' ∧ UpdH φ w h φ' w' h')
theorem callOk_of {P : Program} {X : Told} (h : ∀ f args H v H', X f args H = some (v, H') → OK P f args H v H') : CallOk P X := h
theorem OK.of_call {P : Program} {X : Told} (hX : CallOk P X) {f : Nat} {args : List AV} {h h' : Heap} {v : AV} (e : X f args h = some (v, h')) : OK P f args h v h' := hX f args h v h' e

def Cl (P : Program) (f : Nat) (args : List AV) (h : Heap) (Q : AV → Heap → Prop) : Prop := ∃ v h', OK P f args h v h' ∧ Q v h'
theorem Cl.mono {P : Program} {f : Nat} {args : List AV} {h : Heap} {Q R : AV → Heap → Prop} (c : Cl P f args h Q) (k : ∀ v h', Q v h' → R v h') : Cl P f args h R :=
  let ⟨v, h', a, b⟩ := c
  ⟨v, h', a, k v h' b⟩
theorem OK.cl {P : Program} {f : Nat} {args : List AV} {h h' : Heap} {v : AV} (o : OK P f args h v h') {Q : AV → Heap → Prop} (q : Q v h') : Cl P f args h Q := ⟨v, h', o, q⟩

def sg (s : T AV) (t : Nat) : AV := (s.get t).getD .undef
def ev (s : T AV) : Opd → AV
  | .t n => sg s n
  | .c v => v
def setd (s : T AV) (d : Option Nat) (v : AV) : T AV := match d with
  | some d => s.set d v
  | none => s
theorem eval_eq (s : T AV) (h : Heap) (x : Opd) : x.eval ⟨s, h⟩ = ev s x := by cases x <;> rfl
theorem stget_eq (s : T AV) (h : Heap) (t : Nat) : St.get ⟨s, h⟩ t = sg s t := rfl
theorem put_eq (s : T AV) (h : Heap) (d : Option Nat) (v : AV) : St.put ⟨s, h⟩ d v = ⟨setd s d v, h⟩ := by cases d <;> rfl
theorem sg_set (s : T AV) (i : Nat) (v : AV) (j : Nat) : sg (s.set i v) j = if j = i then v else sg s j := by
  unfold sg
  rw [T.get_set]
  split <;> rfl
theorem sg_e (j : Nat) : sg .e j = .undef := rfl

section
variable (P : Program)
mutual
/-- operations, one behind the other -/
def EvO : List VO → T AV → Heap → (T AV → Heap → Prop) → Prop
  | [], s, h, Q => Q s h
  | o :: l, s, h, Q => bif wanted ⟨s, h⟩ o.guard then
      (match vop ⟨s, h⟩ h.next o.op with
      | .val v h' => EvO l (setd s o.dst v) h' Q
      | .fail => False
      | .enter f args => Cl P f args h fun v h' => EvO l (setd s o.dst v) h' Q)
    else EvO l (setd s o.dst .undef) h Q
end
/-- what is left behind an operation -/
def Nx (d : Option Nat) (l : List VO) (s : T AV) (h : Heap) (Q : T AV → Heap → Prop) : Out → Prop
  | .val v h' => EvO P l (setd s d v) h' Q
  | .fail => False
  | .enter f args => Cl P f args h fun v h' => EvO P l (setd s d v) h' Q
def Af (d : Option Nat) (l : List VO) (s : T AV) (Q : T AV → Heap → Prop) : AV → Heap → Prop := fun v h' => EvO P l (setd s d v) h' Q

def DetO (l : List VO) (st st' : St) : Prop := ∀ (nt : Nat) (ops : Array Oper) (is : List Nat), Rel P nt ops is l → ∀ (φ : Env) (w : World) (a : Act) (R : Exit → Act → World → Prop), SR φ w nt st a → HR φ w st.h →
  (∀ φ' a' w', SR φ' w' nt st' a' → HR φ' w' st'.h → UpdH φ w st.h φ' w' st'.h → a'.defers = a.defers → R .normal a' w') → wpOps P ops R is a w
def Det (c : VCode) (st : St) (ex : Ex) (st' : St) : Prop := ∀ (nt : Nat) (code : Code), cCode P nt code = some c → ∀ (φ : Env) (w : World) (a : Act) (R : Exit → Act → World → Prop), SR φ w nt st a → HR φ w st.h →
  (∀ φ' a' w', SR φ' w' nt st' a' → HR φ' w' st'.h → UpdH φ w st.h φ' w' st'.h → a'.defers = a.defers → R ex.out a' w') → code.wp P R a w
def DetL (c : VCode) (st : St) (ex : Ex) (st' : St) : Prop := ∀ (nt : Nat) (code : Code), cCode P nt code = some c → ∀ (φ : Env) (w : World) (a : Act) (R : Exit → Act → World → Prop), SR φ w nt st a → HR φ w st.h →
  (∀ φ' a' w', SR φ' w' nt st' a' → HR φ' w' st'.h → UpdH φ w st.h φ' w' st'.h → a'.defers = a.defers → R ex.out a' w') → LoopWp P code R a w

/-- a loop, from a round's start on -/
def Lp (b : VCode) (s : T AV) (h : Heap) (Q : Ex → T AV → Heap → Prop) : Prop := ∃ ex s' h', DetL P b ⟨s, h⟩ ex ⟨s', h'⟩ ∧ Q ex s' h'
/-- a region whose order is drawn -/
def EvD (l : List VO) (loose : List (Nat × List Nat)) (s : T AV) (h : Heap) (Q : T AV → Heap → Prop) : Prop :=
  ∃ X : Told, CallOk P X ∧ ∃ tr s' h', vtrace X l ⟨s, h⟩ = some tr ∧ looseOk X l tr loose = true ∧ tr.getLast? = some ⟨s', h'⟩ ∧ Q s' h'

/-- the functions that operations call, if each is named and called once -/
def callsOf : List VO → Option (List Nat)
  | [] => some []
  | o :: l => match o.op with
    | .callv .. => none
    | .call f _ => match callsOf l with
      | some k => if k.contains f then none else some (f :: k)
      | none => none
    | _ => callsOf l
/-- a region whose order is drawn: are its calls told apart by their functions, and no look loose? -/
def quietR (l : List VO) (loose : List (Nat × List Nat)) : Bool := loose.isEmpty && (callsOf l).isSome
def EvR (l : List VO) (loose : List (Nat × List Nat)) (s : T AV) (h : Heap) (Q : T AV → Heap → Prop) : Prop := if quietR l loose = true then EvO P l s h Q else EvD P l loose s h Q

/-- the name of a block that an operation makes, in a region with new blocks out of their row -/
def nmA (base i : Nat) (op : VOp) (h : Heap) : Nat := bif op.fresh then base + i else h.next
/-- operations of such a region, one behind the other -/
def EvM (base : Nat) : List VO → Nat → T AV → Heap → (T AV → Heap → Prop) → Prop
  | [], _, s, h, Q => Q s h
  | o :: l, i, s, h, Q => bif wanted ⟨s, h⟩ o.guard then
      (match vop ⟨s, h⟩ (nmA base i o.op h) o.op with
      | .val v h' => EvM base l (i + 1) (setd s o.dst v) h' Q
      | .fail => False
      | .enter f args => Cl P f args h fun v h' => EvM base l (i + 1) (setd s o.dst v) h' Q)
    else EvM base l (i + 1) (setd s o.dst .undef) h Q
def EvMD (l : List VO) (loose : List (Nat × List Nat)) (s : T AV) (h : Heap) (Q : T AV → Heap → Prop) : Prop :=
  ∃ X : Told, CallOk P X ∧ ∃ tr s' h', mtrace X h.next l 0 ⟨s, reserve h.next l 0 h⟩ = some tr ∧ looseOk X l tr loose = true ∧ tr.getLast? = some ⟨s', h'⟩ ∧ Q s' h'
def EvMR (l : List VO) (loose : List (Nat × List Nat)) (s : T AV) (h : Heap) (Q : T AV → Heap → Prop) : Prop := if quietR l loose = true then EvM P h.next l 0 s (reserve h.next l 0 h) Q else EvMD P l loose s h Q

def Ev : VCode → T AV → Heap → (Ex → T AV → Heap → Prop) → Prop
  | .bad, _, _, _ => False
  | .skip, s, h, Q => Q .normal s h
  | .ops l, s, h, Q => EvO P l s h (Q .normal)
  | .drawn l loose, s, h, Q => EvR P l loose s h (Q .normal)
  | .mixed l loose, s, h, Q => EvMR P l loose s h (Q .normal)
  | .seq a b, s, h, Q => Ev a s h fun ex s' h' => match ex with
    | .normal => Ev b s' h' Q
    | ex => Q ex s' h'
  | .cond c a b, s, h, Q => match ev s c with
    | .bool true => Ev a s h Q
    | .bool false => Ev b s h Q
    | _ => False
  | .block id b, s, h, Q => Ev b s h fun ex s' h' => match ex with
    | .exit i => if i = id then Q .normal s' h' else Q (.exit i) s' h'
    | ex => Q ex s' h'
  | .loop b, s, h, Q => Lp P b s h Q
  | .exit id, s, h, Q => Q (.exit id) s h
  | .ret, s, h, Q => Q .ret s h

/-- what is left to do -/
inductive Fr where
  | seq (b : VCode)
  | blk (id : Nat)
  | lp (b : VCode)
def Un : List Fr → (Ex → T AV → Heap → Prop) → Ex → T AV → Heap → Prop
  | [], Q, ex, s, h => Q ex s h
  | .seq b :: k, Q, ex, s, h => match ex with
    | .normal => Ev P b s h (Un k Q)
    | ex => Un k Q ex s h
  | .blk id :: k, Q, ex, s, h => match ex with
    | .exit i => if i = id then Un k Q .normal s h else Un k Q (.exit i) s h
    | ex => Un k Q ex s h
  | .lp b :: k, Q, ex, s, h => match ex with
    | .normal => Lp P b s h (Un k Q)
    | ex => Un k Q ex s h
end

section
variable {P : Program}
theorem vdo_told {X : Told} (hX : CallOk P X) {nt : Nat} {ops : Array Oper} {φ : Env} {w : World} {st st' : St} {a : Act} {o : Oper} {vo : VO} (ho : cOper P nt ops o = some vo) (hs : SR φ w nt st a) (hr : HR φ w st.h)
    (h : vdo X st st.h.next vo = some st') {K : Act → World → Prop} {Q : Exit → Act → World → Prop}
    (hK : ∀ φ' a' w', SR φ' w' nt st' a' → HR φ' w' st'.h → UpdH φ w st.h φ' w' st'.h → a'.defers = a.defers → K a' w') :
    if Region.wanted o (yielded ops a.tmps) then o.wp P a w K Q ∨ (o.asks P a w ∧ LetsOut Q) else K (a.put o.dst undef) w :=
  vdo_ok hX ho hs hr (hr.next _ (Nat.le_refl _)) h hK

theorem DetO.cons {X : Told} (hX : CallOk P X) {o : VO} {l : List VO} {st st1 st' : St} (h : vdo X st st.h.next o = some st1) (t : DetO P l st1 st') : DetO P (o :: l) st st' := by
  intro nt ops is hrel φ w a R hs hr hQ
  cases hrel with
  | cons h1 h2 hrel =>
    simp only [wpOps, h1]
    refine vdo_told hX h2 hs hr h fun φ1 a1 w1 hs1 hr1 hu1 hd1 => ?_
    exact t nt ops _ hrel φ1 w1 a1 R hs1 hr1 fun φ2 a2 w2 hs2 hr2 hu2 hd2 => hQ φ2 a2 w2 hs2 hr2 (hu1.trans hu2) (hd2.trans hd1)
theorem DetO.nil {st : St} : DetO P [] st st := by
  intro nt ops is hrel φ w a R hs hr hQ
  cases hrel
  exact hQ φ a w hs hr (UpdH.refl _ _ _) rfl

open Classical in
/-- one call told -/
noncomputable def told1 (f : Nat) (args : List AV) (h : Heap) (r : AV × Heap) : Told := fun f' args' h' => if f' = f ∧ args' = args ∧ h' = h then some r else none
theorem told1_ok {f : Nat} {args : List AV} {h : Heap} {v : AV} {h' : Heap} (o : OK P f args h v h') : CallOk P (told1 f args h (v, h')) := by
  intro f1 args1 h1 v1 h2 e
  unfold told1 at e
  split at e
  · rename_i c
    obtain ⟨rfl, rfl, rfl⟩ := c
    cases e
    exact o
  · cases e
theorem told1_eq {f : Nat} {args : List AV} {h : Heap} {r : AV × Heap} : told1 f args h r f args h = some r := if_pos ⟨rfl, rfl, rfl⟩

theorem EvO.det : ∀ {l : List VO} {s : T AV} {h : Heap} {Q : T AV → Heap → Prop}, EvO P l s h Q → ∃ s' h', DetO P l ⟨s, h⟩ ⟨s', h'⟩ ∧ Q s' h'
  | [], s, h, Q, e => ⟨s, h, .nil, e⟩
  | o :: l, s, h, Q, e => by
    rw [EvO] at e
    cases hw : wanted ⟨s, h⟩ o.guard with
    | false =>
      rw [hw, cond_false] at e
      obtain ⟨s', h', d, q⟩ := EvO.det e
      exact ⟨s', h', .cons (X := fun _ _ _ => none) nothing_told (st1 := ⟨setd s o.dst .undef, h⟩) (by rw [vdo, hw, cond_false, put_eq]) d, q⟩
    | true =>
      rw [hw, cond_true] at e
      cases hv : vop ⟨s, h⟩ h.next o.op with
      | val v h1 =>
        rw [hv] at e
        obtain ⟨s', h', d, q⟩ := EvO.det e
        exact ⟨s', h', .cons (X := fun _ _ _ => none) nothing_told (st1 := ⟨setd s o.dst v, h1⟩) (by simp only [vdo, hw, cond_true, hv, put_eq]) d, q⟩
      | fail => rw [hv] at e; exact e.elim
      | enter f args =>
        rw [hv] at e
        obtain ⟨v, h1, hok, e⟩ := e
        obtain ⟨s', h', d, q⟩ := EvO.det e
        exact ⟨s', h', .cons (told1_ok hok) (st1 := ⟨setd s o.dst v, h1⟩) (by simp only [vdo, hw, cond_true, hv, told1_eq, put_eq]) d, q⟩

open Classical in
/-- told otherwise -/
noncomputable def toldOr (f : Nat) (args : List AV) (h : Heap) (r : AV × Heap) (X : Told) : Told := fun f' args' h' => if f' = f ∧ args' = args ∧ h' = h then some r else X f' args' h'
theorem toldOr_ok {f : Nat} {args : List AV} {h : Heap} {v : AV} {h' : Heap} (o : OK P f args h v h') {X : Told} (hX : CallOk P X) : CallOk P (toldOr f args h (v, h') X) := by
  intro f1 args1 h1 v1 h2 e
  unfold toldOr at e
  split at e
  · rename_i c
    obtain ⟨rfl, rfl, rfl⟩ := c
    cases e
    exact o
  · exact hX f1 args1 h1 v1 h2 e
theorem vdo_other {X Y : Told} {st : St} {nm : Nat} {o : VO} (h : ∀ f args, vop st nm o.op = .enter f args → X f args st.h = Y f args st.h) : vdo X st nm o = vdo Y st nm o := by
  unfold vdo
  cases wanted st o.guard with
  | false => rfl
  | true =>
    simp only [cond_true]
    cases hv : vop st nm o.op with
    | enter f args => simp only [h f args hv]
    | _ => rfl
theorem vop_enter_call {st : St} {nm : Nat} {op : VOp} {f : Nat} {args : List AV} (h : vop st nm op = .enter f args) : (∃ l, op = .call f l) ∨ ∃ x l, op = .callv x l := by
  cases op with
  | call g l => simp only [vop] at h; cases h; exact .inl ⟨_, rfl⟩
  | callv x l => exact .inr ⟨_, _, rfl⟩
  | _ =>
    exfalso
    simp only [vop] at h
    repeat' first
      | (cases h; done)
      | split at h
      | (simp only [valO, valH] at h)
      | (unfold cond at h)
/-- operations whose calls are told apart by their functions: one that tells them all -/
theorem EvO.told : ∀ {l : List VO} {ks : List Nat} {s : T AV} {h : Heap} {Q : T AV → Heap → Prop}, callsOf l = some ks → EvO P l s h Q →
    ∃ X : Told, CallOk P X ∧ (∀ f args h r, X f args h = some r → f ∈ ks) ∧ ∃ tr s' h', vtrace X l ⟨s, h⟩ = some tr ∧ tr.getLast? = some ⟨s', h'⟩ ∧ Q s' h'
  | [], ks, s, h, Q, hk, e => ⟨fun _ _ _ => none, nothing_told, fun _ _ _ _ e => (by cases e), [⟨s, h⟩], s, h, rfl, rfl, e⟩
  | o :: l, ks, s, h, Q, hk, e => by
    have last : ∀ {tr : List St} {x y : St}, tr.getLast? = some y → (x :: tr).getLast? = some y := by
      intro tr x y hy
      cases tr with
      | nil => cases hy
      | cons a b => simpa [List.getLast?_cons_cons] using hy
    rw [EvO] at e
    cases hw : wanted ⟨s, h⟩ o.guard with
    | false =>
      rw [hw, cond_false] at e
      have hk' : ∃ ks', callsOf l = some ks' ∧ ∀ f ∈ ks', f ∈ ks := by
        rw [callsOf] at hk
        split at hk
        · cases hk
        · split at hk
          · rename_i k hc
            split at hk
            · cases hk
            · cases hk; exact ⟨k, hc, fun f hf => .tail _ hf⟩
          · cases hk
        · exact ⟨ks, hk, fun _ h => h⟩
      obtain ⟨ks', hk', hs⟩ := hk'
      obtain ⟨X, hX, hd, tr, s', h', e1, e2, q⟩ := EvO.told hk' e
      refine ⟨X, hX, fun f a _ r e => hs _ (hd f a _ r e), ⟨s, h⟩ :: tr, s', h', ?_, last e2, q⟩
      simp only [vtrace, vdo, hw, cond_false, put_eq, e1, Option.map_some]
    | true =>
      rw [hw, cond_true] at e
      cases hv : vop ⟨s, h⟩ h.next o.op with
      | fail => rw [hv] at e; exact e.elim
      | val v h1 =>
        rw [hv] at e
        have hk' : ∃ ks', callsOf l = some ks' ∧ ∀ f ∈ ks', f ∈ ks := by
          rw [callsOf] at hk
          split at hk
          · cases hk
          · split at hk
            · rename_i k hc
              split at hk
              · cases hk
              · cases hk; exact ⟨k, hc, fun f hf => .tail _ hf⟩
            · cases hk
          · exact ⟨ks, hk, fun _ h => h⟩
        obtain ⟨ks', hk', hs⟩ := hk'
        obtain ⟨X, hX, hd, tr, s', h', e1, e2, q⟩ := EvO.told hk' e
        refine ⟨X, hX, fun f a _ r e => hs _ (hd f a _ r e), ⟨s, h⟩ :: tr, s', h', ?_, last e2, q⟩
        simp only [vtrace, vdo, hw, cond_true, hv, put_eq, e1, Option.map_some]
      | enter f args =>
        rw [hv] at e
        obtain ⟨v, h1, hok, e⟩ := e
        rcases vop_enter_call hv with ⟨al, ho⟩ | ⟨x, al, ho⟩
        · rw [callsOf, ho] at hk
          simp only at hk
          split at hk
          · rename_i k hc
            split at hk
            · cases hk
            · rename_i hn
              cases hk
              obtain ⟨X, hX, hd, tr, s', h', e1, e2, q⟩ := EvO.told hc e
              refine ⟨toldOr f args h (v, h1) X, toldOr_ok hok hX, ?_, ⟨s, h⟩ :: tr, s', h', ?_, last e2, q⟩
              · intro f' a' hh r e
                unfold toldOr at e
                split at e
                · rename_i c; rw [c.1]; exact .head _
                · exact .tail _ (hd _ _ _ _ e)
              · have hsame : ∀ (l' : List VO), (∀ ks', callsOf l' = some ks' → f ∉ ks') → (callsOf l').isSome = true → ∀ st, vtrace (toldOr f args h (v, h1) X) l' st = vtrace X l' st := by
                  intro l'
                  induction l' with
                  | nil => intros; rfl
                  | cons o' l' ih =>
                    intro hn' hsome st
                    have h2 : (callsOf l').isSome = true ∧ (∀ ks', callsOf l' = some ks' → f ∉ ks') ∧ ∀ g al, o'.op = .call g al → g ≠ f := by
                      rw [callsOf] at hn' hsome
                      split at hsome
                      · cases hsome
                      · rename_i g al hg
                        rw [hg] at hn'
                        split at hsome
                        · rename_i k' hk'
                          split at hsome
                          · cases hsome
                          · rename_i hc'
                            simp only [hk'] at hn'
                            rw [if_neg hc'] at hn'
                            have := hn' _ rfl
                            refine ⟨by rw [hk']; rfl, fun ks' e => ?_, fun g' al' e => ?_⟩
                            · rw [hk'] at e; cases e
                              exact fun hm => this (.tail _ hm)
                            · rw [hg] at e
                              cases e
                              intro e'
                              subst e'
                              exact this (.head _)
                        · cases hsome
                      · rename_i h3 h4
                        refine ⟨hsome, fun ks' e => ?_, fun g al e => absurd e (h4 _ _)⟩
                        refine hn' ks' ?_
                        split
                        · rename_i e'; exact absurd e' (h3 _ _)
                        · rename_i e'; exact absurd e' (h4 _ _)
                        · exact e
                    have hnv : ∀ x al, o'.op ≠ .callv x al := by
                      intro x al e
                      rw [callsOf, e] at hsome
                      cases hsome
                    simp only [vtrace]
                    have hst : vdo (toldOr f args h (v, h1) X) st st.h.next o' = vdo X st st.h.next o' := by
                      refine vdo_other fun g a hg => ?_
                      rcases vop_enter_call hg with ⟨al, e⟩ | ⟨x, al, e⟩
                      · have := h2.2.2 g al e
                        unfold toldOr
                        rw [if_neg (fun c => this c.1)]
                      · exact absurd e (hnv _ _)
                    rw [hst]
                    cases vdo X st st.h.next o' with
                    | none => rfl
                    | some st' => simp only [ih h2.2.1 h2.1]
                have h3 := hsame l (fun ks' e => by rw [hc] at e; cases e; simpa using hn) (by rw [hc]; rfl) ⟨setd s o.dst v, h1⟩
                have h4 : vdo (toldOr f args h (v, h1) X) ⟨s, h⟩ h.next o = some ⟨setd s o.dst v, h1⟩ := by
                  have h5 : toldOr f args h (v, h1) X f args h = some (v, h1) := if_pos ⟨rfl, rfl, rfl⟩
                  simp only [vdo, hw, cond_true, hv, h5, put_eq]
                simp only [vtrace, h4, h3, e1, Option.map_some]
          · cases hk
        · rw [callsOf, ho] at hk
          cases hk
theorem EvR.drawn {l : List VO} {loose : List (Nat × List Nat)} {s : T AV} {h : Heap} {Q : T AV → Heap → Prop} (e : EvR P l loose s h Q) : EvD P l loose s h Q := by
  unfold EvR at e
  split at e
  · rename_i hq
    unfold quietR at hq
    rw [Bool.and_eq_true] at hq
    obtain ⟨ks, hk⟩ := Option.isSome_iff_exists.1 hq.2
    obtain ⟨X, hX, _, tr, s', h', e1, e2, q⟩ := EvO.told hk e
    have hl : loose = [] := by simpa using hq.1
    subst hl
    exact ⟨X, hX, tr, s', h', e1, rfl, e2, q⟩
  · exact e

theorem nameAt_eq {base i : Nat} {o : VO} {h : Heap} : nameAt base i o h = nmA base i o.op h := rfl
/-- operations whose calls are told apart by their functions: one that tells them all -/
theorem EvM.told {base : Nat} : ∀ {l : List VO} {i : Nat} {ks : List Nat} {s : T AV} {h : Heap} {Q : T AV → Heap → Prop}, callsOf l = some ks → EvM P base l i s h Q →
    ∃ X : Told, CallOk P X ∧ (∀ f args h r, X f args h = some r → f ∈ ks) ∧ ∃ tr s' h', mtrace X base l i ⟨s, h⟩ = some tr ∧ tr.getLast? = some ⟨s', h'⟩ ∧ Q s' h'
  | [], i, ks, s, h, Q, hk, e => ⟨fun _ _ _ => none, nothing_told, fun _ _ _ _ e => (by cases e), [⟨s, h⟩], s, h, rfl, rfl, e⟩
  | o :: l, i, ks, s, h, Q, hk, e => by
    have last : ∀ {tr : List St} {x y : St}, tr.getLast? = some y → (x :: tr).getLast? = some y := by
      intro tr x y hy
      cases tr with
      | nil => cases hy
      | cons a b => simpa [List.getLast?_cons_cons] using hy
    rw [EvM] at e
    cases hw : wanted ⟨s, h⟩ o.guard with
    | false =>
      rw [hw, cond_false] at e
      have hk' : ∃ ks', callsOf l = some ks' ∧ ∀ f ∈ ks', f ∈ ks := by
        rw [callsOf] at hk
        split at hk
        · cases hk
        · split at hk
          · rename_i k hc
            split at hk
            · cases hk
            · cases hk; exact ⟨k, hc, fun f hf => .tail _ hf⟩
          · cases hk
        · exact ⟨ks, hk, fun _ h => h⟩
      obtain ⟨ks', hk', hs⟩ := hk'
      obtain ⟨X, hX, hd, tr, s', h', e1, e2, q⟩ := EvM.told hk' e
      refine ⟨X, hX, fun f a _ r e => hs _ (hd f a _ r e), ⟨s, h⟩ :: tr, s', h', ?_, last e2, q⟩
      simp only [mtrace, nameAt_eq, vdo, hw, cond_false, put_eq, e1, Option.map_some]
    | true =>
      rw [hw, cond_true] at e
      cases hv : vop ⟨s, h⟩ (nmA base i o.op h) o.op with
      | fail => rw [hv] at e; exact e.elim
      | val v h1 =>
        rw [hv] at e
        have hk' : ∃ ks', callsOf l = some ks' ∧ ∀ f ∈ ks', f ∈ ks := by
          rw [callsOf] at hk
          split at hk
          · cases hk
          · split at hk
            · rename_i k hc
              split at hk
              · cases hk
              · cases hk; exact ⟨k, hc, fun f hf => .tail _ hf⟩
            · cases hk
          · exact ⟨ks, hk, fun _ h => h⟩
        obtain ⟨ks', hk', hs⟩ := hk'
        obtain ⟨X, hX, hd, tr, s', h', e1, e2, q⟩ := EvM.told hk' e
        refine ⟨X, hX, fun f a _ r e => hs _ (hd f a _ r e), ⟨s, h⟩ :: tr, s', h', ?_, last e2, q⟩
        simp only [mtrace, nameAt_eq, vdo, hw, cond_true, hv, put_eq, e1, Option.map_some]
      | enter f args =>
        rw [hv] at e
        obtain ⟨v, h1, hok, e⟩ := e
        rcases vop_enter_call hv with ⟨al, ho⟩ | ⟨x, al, ho⟩
        · rw [callsOf, ho] at hk
          simp only at hk
          split at hk
          · rename_i k hc
            split at hk
            · cases hk
            · rename_i hn
              cases hk
              obtain ⟨X, hX, hd, tr, s', h', e1, e2, q⟩ := EvM.told hc e
              refine ⟨toldOr f args h (v, h1) X, toldOr_ok hok hX, ?_, ⟨s, h⟩ :: tr, s', h', ?_, last e2, q⟩
              · intro f' a' hh r e
                unfold toldOr at e
                split at e
                · rename_i c; rw [c.1]; exact .head _
                · exact .tail _ (hd _ _ _ _ e)
              · have hsame : ∀ (l' : List VO), (∀ ks', callsOf l' = some ks' → f ∉ ks') → (callsOf l').isSome = true → ∀ i st, mtrace (toldOr f args h (v, h1) X) base l' i st = mtrace X base l' i st := by
                  intro l'
                  induction l' with
                  | nil => intros; rfl
                  | cons o' l' ih =>
                    intro hn' hsome i st
                    have h2 : (callsOf l').isSome = true ∧ (∀ ks', callsOf l' = some ks' → f ∉ ks') ∧ ∀ g al, o'.op = .call g al → g ≠ f := by
                      rw [callsOf] at hn' hsome
                      split at hsome
                      · cases hsome
                      · rename_i g al hg
                        rw [hg] at hn'
                        split at hsome
                        · rename_i k' hk'
                          split at hsome
                          · cases hsome
                          · rename_i hc'
                            simp only [hk'] at hn'
                            rw [if_neg hc'] at hn'
                            have := hn' _ rfl
                            refine ⟨by rw [hk']; rfl, fun ks' e => ?_, fun g' al' e => ?_⟩
                            · rw [hk'] at e; cases e
                              exact fun hm => this (.tail _ hm)
                            · rw [hg] at e
                              cases e
                              intro e'
                              subst e'
                              exact this (.head _)
                        · cases hsome
                      · rename_i h3 h4
                        refine ⟨hsome, fun ks' e => ?_, fun g al e => absurd e (h4 _ _)⟩
                        refine hn' ks' ?_
                        split
                        · rename_i e'; exact absurd e' (h3 _ _)
                        · rename_i e'; exact absurd e' (h4 _ _)
                        · exact e
                    have hnv : ∀ x al, o'.op ≠ .callv x al := by
                      intro x al e
                      rw [callsOf, e] at hsome
                      cases hsome
                    simp only [mtrace]
                    have hst : vdo (toldOr f args h (v, h1) X) st (nameAt base i o' st.h) o' = vdo X st (nameAt base i o' st.h) o' := by
                      refine vdo_other fun g a hg => ?_
                      rcases vop_enter_call hg with ⟨al, e⟩ | ⟨x, al, e⟩
                      · have := h2.2.2 g al e
                        unfold toldOr
                        rw [if_neg (fun c => this c.1)]
                      · exact absurd e (hnv _ _)
                    rw [hst]
                    cases vdo X st (nameAt base i o' st.h) o' with
                    | none => rfl
                    | some st' => simp only [ih h2.2.1 h2.1]
                have h3 := hsame l (fun ks' e => by rw [hc] at e; cases e; simpa using hn) (by rw [hc]; rfl) (i + 1) ⟨setd s o.dst v, h1⟩
                have h4 : vdo (toldOr f args h (v, h1) X) ⟨s, h⟩ (nmA base i o.op h) o = some ⟨setd s o.dst v, h1⟩ := by
                  have h5 : toldOr f args h (v, h1) X f args h = some (v, h1) := if_pos ⟨rfl, rfl, rfl⟩
                  simp only [vdo, hw, cond_true, hv, h5, put_eq]
                simp only [mtrace, nameAt_eq, h4, h3, e1, Option.map_some]
          · cases hk
        · rw [callsOf, ho] at hk
          cases hk
theorem EvMR.mixed {l : List VO} {loose : List (Nat × List Nat)} {s : T AV} {h : Heap} {Q : T AV → Heap → Prop} (e : EvMR P l loose s h Q) : EvMD P l loose s h Q := by
  unfold EvMR at e
  split at e
  · rename_i hq
    unfold quietR at hq
    rw [Bool.and_eq_true] at hq
    obtain ⟨ks, hk⟩ := Option.isSome_iff_exists.1 hq.2
    obtain ⟨X, hX, _, tr, s', h', e1, e2, q⟩ := EvM.told hk e
    have hl : loose = [] := by simpa using hq.1
    subst hl
    exact ⟨X, hX, tr, s', h', e1, rfl, e2, q⟩
  · exact e
theorem Lp.round {b : VCode} {s : T AV} {h : Heap} {Q : Ex → T AV → Heap → Prop} {ex : Ex} {s1 : T AV} {h1 : Heap} (d : Det P b ⟨s, h⟩ ex ⟨s1, h1⟩) (q : match ex with | .normal => Lp P b s1 h1 Q | ex => Q ex s1 h1) : Lp P b s h Q := by
  have stop : ∀ ex, ex ≠ .normal → Det P b ⟨s, h⟩ ex ⟨s1, h1⟩ → DetL P b ⟨s, h⟩ ex ⟨s1, h1⟩ := by
    intro ex hne d nt code hc φ w a R hs hr hQ
    apply LoopWp.round
    refine d nt code hc φ w a _ hs hr fun φ1 a1 w1 hs1 hr1 hu1 hd1 => ?_
    cases ex with
    | normal => exact absurd rfl hne
    | exit id => exact hQ φ1 a1 w1 hs1 hr1 hu1 hd1
    | ret => exact hQ φ1 a1 w1 hs1 hr1 hu1 hd1
  cases ex with
  | normal =>
    obtain ⟨ex, s', h', d', q⟩ := q
    refine ⟨ex, s', h', ?_, q⟩
    intro nt code hc φ w a R hs hr hQ
    apply LoopWp.round
    refine d nt code hc φ w a _ hs hr fun φ1 a1 w1 hs1 hr1 hu1 hd1 => ?_
    exact d' nt code hc φ1 w1 a1 R hs1 hr1 fun φ2 a2 w2 hs2 hr2 hu2 hd2 => hQ φ2 a2 w2 hs2 hr2 (hu1.trans hu2) (hd2.trans hd1)
  | exit id => exact ⟨_, s1, h1, stop _ (by simp) d, q⟩
  | ret => exact ⟨_, s1, h1, stop _ (by simp) d, q⟩

/-- of which code it comes -/
def Inv0 (P : Program) (nt : Nat) (code : Code) : VCode → Prop
  | .bad => True
  | .skip => code = .skip
  | .ops l => ∃ id ops, code = .region id ops false ∧ cOpers P nt ops = some l
  | .drawn _ _ | .mixed _ _ => ∃ id ops, code = .region id ops true
  | .seq a b => ∃ a' b', code = .seq a' b' ∧ cCode P nt a' = some a ∧ cCode P nt b' = some b
  | .cond c a b => ∃ c' a' b', code = .cond c' a' b' ∧ cOpd c' = some c ∧ cCode P nt a' = some a ∧ cCode P nt b' = some b
  | .block id b => ∃ b', code = .block id b' ∧ cCode P nt b' = some b
  | .loop b => ∃ b', code = .loop b' ∧ cCode P nt b' = some b
  | .exit id => code = .exit id
  | .ret => code = .ret
theorem code_inv {nt : Nat} {code : Code} {c : VCode} (hc : cCode P nt code = some c) : Inv0 P nt code c := by
  cases code with
  | skip => cases hc; rfl
  | region id ops dr =>
    cases dr with
    | false =>
      simp only [cCode] at hc
      obtain ⟨l, hl, rfl⟩ := Option.map_eq_some_iff.1 hc
      exact ⟨id, ops, rfl, hl⟩
    | true =>
      simp only [cCode] at hc
      obtain ⟨l, hl, e⟩ := Option.map_eq_some_iff.1 hc
      cases hd : drawnChk ops.toList l (before ops) with
      | true => rw [hd, cond_true] at e; subst e; exact ⟨id, ops, rfl⟩
      | false =>
        rw [hd, cond_false] at e
        cases hm : mixedChk ops.toList l (before ops) with
        | true => rw [hm, cond_true] at e; subst e; exact ⟨id, ops, rfl⟩
        | false => rw [hm, cond_false] at e; subst e; trivial
  | seq a b =>
    simp only [cCode] at hc
    split at hc
    · rename_i a' b' ha hb
      cases hc
      exact ⟨_, _, rfl, ha, hb⟩
    · cases hc
  | cond x a b =>
    simp only [cCode] at hc
    split at hc
    · rename_i x' a' b' hx ha hb
      cases hc
      exact ⟨_, _, _, rfl, hx, ha, hb⟩
    · cases hc
  | block id b =>
    simp only [cCode] at hc
    obtain ⟨b', hb, rfl⟩ := Option.map_eq_some_iff.1 hc
    exact ⟨_, rfl, hb⟩
  | loop b =>
    simp only [cCode] at hc
    obtain ⟨b', hb, rfl⟩ := Option.map_eq_some_iff.1 hc
    exact ⟨_, rfl, hb⟩
  | exit id => cases hc; rfl
  | ret => cases hc; rfl
  | _ => cases hc; trivial

def leave (id : Nat) : Ex → Ex
  | .exit i => if i = id then .normal else .exit i
  | ex => ex
theorem Ev.det (hm : P.follows .mixedOrders = true) : ∀ {c : VCode} {s : T AV} {h : Heap} {Q : Ex → T AV → Heap → Prop}, Ev P c s h Q → ∃ ex s' h', Det P c ⟨s, h⟩ ex ⟨s', h'⟩ ∧ Q ex s' h'
  | .bad, _, _, _, e => e.elim
  | .skip, s, h, Q, e => ⟨.normal, s, h, fun nt code hc φ w a R hs hr hQ => by
      obtain rfl := code_inv hc
      exact wp_skip (hQ φ a w hs hr (UpdH.refl _ _ _) rfl), e⟩
  | .ops l, s, h, Q, e => by
    obtain ⟨s', h', d, q⟩ := EvO.det e
    refine ⟨.normal, s', h', fun nt code hc φ w a R hs hr hQ => ?_, q⟩
    obtain ⟨id, ops, rfl, hl⟩ := code_inv hc
    exact wp_region (d nt ops _ (rel_all hl) φ w a _ hs hr hQ)
  | .drawn l loose, s, h, Q, e => by
    rw [Ev] at e
    obtain ⟨X, hX, tr, s', h', e1, e2, e3, q⟩ := e.drawn
    refine ⟨.normal, s', h', fun nt code hc φ w a R hs hr hQ => ?_, q⟩
    have hv : vstep X (fun _ _ => none) (.drawn l loose) ⟨s, h⟩ = some (.normal, ⟨s', h'⟩) := by
      simp only [vstep, e1, e2, cond_true, e3, Option.map_some]
    obtain ⟨id, ops, rfl⟩ := code_inv hc
    exact drawn_ok hm nt id ops _ hc X _ hX φ w _ _ a _ R hs hr hv hQ
  | .mixed l loose, s, h, Q, e => by
    rw [Ev] at e
    obtain ⟨X, hX, tr, s', h', e1, e2, e3, q⟩ := e.mixed
    refine ⟨.normal, s', h', fun nt code hc φ w a R hs hr hQ => ?_, q⟩
    have hv : vstep X (fun _ _ => none) (.mixed l loose) ⟨s, h⟩ = some (.normal, ⟨s', h'⟩) := by
      simp only [vstep, e1, e2, cond_true, e3, Option.map_some]
    obtain ⟨id, ops, rfl⟩ := code_inv hc
    exact drawn_ok hm nt id ops _ hc X _ hX φ w _ _ a _ R hs hr hv hQ
  | .seq a b, s, h, Q, e => by
    rw [Ev] at e
    obtain ⟨ex, s1, h1, d, q⟩ := Ev.det hm e
    have pass : ∀ ex, ex ≠ .normal → Det P a ⟨s, h⟩ ex ⟨s1, h1⟩ → Det P (.seq a b) ⟨s, h⟩ ex ⟨s1, h1⟩ := by
      intro ex hne d nt code hc φ w a R hs hr hQ
      obtain ⟨a', b', rfl, hx, hy⟩ := code_inv hc
      apply wp_seq
      refine d nt _ hx φ w a _ hs hr fun φ1 a1 w1 hs1 hr1 hu1 hd1 => ?_
      cases ex with
      | normal => exact absurd rfl hne
      | exit id => exact hQ φ1 a1 w1 hs1 hr1 hu1 hd1
      | ret => exact hQ φ1 a1 w1 hs1 hr1 hu1 hd1
    cases ex with
    | normal =>
      obtain ⟨ex, s', h', d', q⟩ := Ev.det hm q
      refine ⟨ex, s', h', fun nt code hc φ w a R hs hr hQ => ?_, q⟩
      obtain ⟨a', b', rfl, hx, hy⟩ := code_inv hc
      apply wp_seq
      refine d nt _ hx φ w a _ hs hr fun φ1 a1 w1 hs1 hr1 hu1 hd1 => ?_
      exact d' nt _ hy φ1 w1 a1 R hs1 hr1 fun φ2 a2 w2 hs2 hr2 hu2 hd2 => hQ φ2 a2 w2 hs2 hr2 (hu1.trans hu2) (hd2.trans hd1)
    | exit id => exact ⟨_, s1, h1, pass _ (by simp) d, q⟩
    | ret => exact ⟨_, s1, h1, pass _ (by simp) d, q⟩
  | .cond c x y, s, h, Q, e => by
    have go : ∀ b, ev s c = .bool b → (∃ ex s' h', Det P (bif b then x else y) ⟨s, h⟩ ex ⟨s', h'⟩ ∧ Q ex s' h') → ∃ ex s' h', Det P (.cond c x y) ⟨s, h⟩ ex ⟨s', h'⟩ ∧ Q ex s' h' := by
      rintro b hb ⟨ex, s', h', d, q⟩
      refine ⟨ex, s', h', fun nt code hc φ w a R hs hr hQ => ?_, q⟩
      obtain ⟨c', a', b', rfl, hx, hy, hz⟩ := code_inv hc
      have hv := opd_ok hs hx
      rw [eval_eq, hb] at hv
      generalize hu : a.eval _ = u at hv
      cases hv
      cases b with
      | true => exact wp_cond_true hu (d nt _ hy φ w a R hs hr hQ)
      | false => exact wp_cond_false hu (d nt _ hz φ w a R hs hr hQ)
    rw [Ev] at e
    split at e
    · rename_i hb; exact go true hb (Ev.det hm e)
    · rename_i hb; exact go false hb (Ev.det hm e)
    · exact e.elim
  | .block id b, s, h, Q, e => by
    rw [Ev] at e
    obtain ⟨ex, s1, h1, d, q⟩ := Ev.det hm e
    have go : ∀ ex', leave id ex = ex' → Det P (.block id b) ⟨s, h⟩ ex' ⟨s1, h1⟩ := by
      rintro ex' rfl nt code hc φ w a R hs hr hQ
      obtain ⟨b', rfl, hb⟩ := code_inv hc
      apply wp_block
      refine d nt _ hb φ w a _ hs hr fun φ1 a1 w1 hs1 hr1 hu1 hd1 => ?_
      have := hQ φ1 a1 w1 hs1 hr1 hu1 hd1
      cases ex with
      | normal => exact this
      | exit i =>
        show if i = id then R .normal a1 w1 else R (.exit i) a1 w1
        by_cases e : i = id
        · rw [if_pos e]; simp only [leave, if_pos e] at this; exact this
        · rw [if_neg e]; simp only [leave, if_neg e] at this; exact this
      | ret => exact this
    refine ⟨_, s1, h1, go _ rfl, ?_⟩
    cases ex with
    | normal => exact q
    | exit i =>
      simp only [leave] at q ⊢
      by_cases e : i = id
      · rw [if_pos e] at q ⊢; exact q
      · rw [if_neg e] at q ⊢; exact q
    | ret => exact q
  | .loop b, s, h, Q, e => by
    obtain ⟨ex, s', h', d, q⟩ := e
    refine ⟨ex, s', h', fun nt code hc φ w a R hs hr hQ => ?_, q⟩
    obtain ⟨b', rfl, hb⟩ := code_inv hc
    exact (d nt _ hb φ w a R hs hr hQ).wp
  | .exit id, s, h, Q, e => ⟨.exit id, s, h, fun nt code hc φ w a R hs hr hQ => by
      obtain rfl := code_inv hc
      exact wp_exit (hQ φ a w hs hr (UpdH.refl _ _ _) rfl), e⟩
  | .ret, s, h, Q, e => ⟨.ret, s, h, fun nt code hc φ w a R hs hr hQ => by
      obtain rfl := code_inv hc
      exact wp_ret (hQ φ a w hs hr (UpdH.refl _ _ _) rfl), e⟩

/-- a loop's round -/
theorem Lp.go (hm : P.follows .mixedOrders = true) {b : VCode} {s : T AV} {h : Heap} {k : List Fr} {Q : Ex → T AV → Heap → Prop} (e : Ev P b s h (Un P (.lp b :: k) Q)) : Lp P b s h (Un P k Q) := by
  obtain ⟨ex, s1, h1, d, q⟩ := Ev.det hm e
  refine Lp.round d ?_
  cases ex with
  | normal => exact q
  | exit i => exact q
  | ret => exact q

theorem ev_seq {a b : VCode} {s : T AV} {h : Heap} {k : List Fr} {Q : Ex → T AV → Heap → Prop} : Ev P (.seq a b) s h (Un P k Q) = Ev P a s h (Un P (.seq b :: k) Q) := by
  rw [Ev]
  congr 1
theorem ev_block {id : Nat} {b : VCode} {s : T AV} {h : Heap} {k : List Fr} {Q : Ex → T AV → Heap → Prop} : Ev P (.block id b) s h (Un P k Q) = Ev P b s h (Un P (.blk id :: k) Q) := by
  rw [Ev]
  congr 1

/-- what a function's end comes to -/
def Fin (res : List VRes) (Q : AV → Heap → Prop) : Ex → T AV → Heap → Prop := fun ex s h => match ex with
  | .exit _ => False
  | _ => match VM.results ⟨s, h⟩ res with
    | some v => Q v h
    | none => False

theorem Cl.enter (hm : P.follows .mixedOrders = true) {f : Nat} {fn : Func} {vf : VFun} (hf : P.funcs[f]? = some fn) (hc : cFun P fn = some vf) (hn : fn.name ≠ "runtime.NumGoroutine") {args : List AV} (hl : args.length = vf.nargs) {h : Heap} {Q : AV → Heap → Prop}
    (e : Ev P vf.body (argsT args 0 .e) h (Un P [] (Fin vf.res Q))) : Cl P f args h Q := by
  obtain ⟨ex, s', h', d, q⟩ := Ev.det hm e
  have hx : (ex = .normal ∨ ex = .ret) ∧ ∃ v, VM.results ⟨s', h'⟩ vf.res = some v ∧ Q v h' := by
    simp only [Un, Fin] at q
    cases ex with
    | exit i => exact q.elim
    | normal =>
      simp only at q
      split at q
      · rename_i v hv; exact ⟨.inl rfl, v, hv, q⟩
      · exact q.elim
    | ret =>
      simp only at q
      split at q
      · rename_i v hv; exact ⟨.inr rfl, v, hv, q⟩
      · exact q.elim
  obtain ⟨hex, v, hv, q⟩ := hx
  refine ⟨v, h', ?_, q⟩
  have hE : ExecOk P (fun c st => open Classical in if c = vf.body ∧ st = ⟨argsT args 0 .e, h⟩ then some (ex, ⟨s', h'⟩) else none) := by
    intro nt c vc hc' φ w st st' a ex' R hs hr he hR
    simp only at he
    split at he
    · rename_i hh
      obtain ⟨rfl, rfl⟩ := hh
      cases he
      exact d nt c hc' φ w a R hs hr hR
    · cases he
  have hF : TableOk P (fun g => if g = f then some vf else none) := by
    intro g vf' hg
    simp only at hg
    split at hg
    · rename_i e; subst e; cases hg; exact ⟨fn, hf, hc, hn⟩
    · cases hg
  have := vcall_step hF (X := fun _ _ _ => none) nothing_told hE
  refine this f args h v h' ?_
  simp only [if_true, T.beq_dec, hl, decide_true, cond_true, and_self]
  rcases hex with rfl | rfl <;> simp only [hv, Option.map_some]
end
end Go.Proofs.Ytinonmcnofjeeaa.VM
