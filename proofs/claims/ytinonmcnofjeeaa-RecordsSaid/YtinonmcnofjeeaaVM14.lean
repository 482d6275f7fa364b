/- The small machine's code stands for the program's. -/
import Derived.Test.YtinonmcnofjeeaaVM13
import Derived.Orders
namespace Go.Proofs.Ytinonmcnofjeeaa.VM
set_option linter.unusedSimpArgs false
set_option linter.unusedVariables false
set_option linter.defProp false
set_option maxHeartbeats 1000000
open Go.RowKit

/-- A told function stands for the program's. -/
def CallOk (P : Program) (call : Nat → List AV → Heap → Option (AV × Heap)) : Prop :=
  ∀ (f : Nat) (args : List AV) (h : Heap) (v : AV) (h' : Heap), call f args h = some (v, h') → Enters P f ∧
    ∀ (φ : Env) (w : World) (us : Array Value), HR φ w h → VRs φ w args us.toList →
      Calls P f us w (fun e w' => ∃ φ' u, e = .returned u ∧ VR φ' w' v u ∧ HR φ' w' h' ∧ UpdH φ w h φ' w' h')

section
variable {P : Program} {φ : Env} {w : World} {nt : Nat} {st st' : St} {a : Act} {ops : Array Oper}

theorem coper_spec {o : Oper} {vo : VO} (h : cOper P nt ops o = some vo) : vo.op = (cOp P o).getD .bad ∧ vo.dst = o.dst ∧ o.dst.all (· < nt) = true ∧
    ((o.guard = none ∧ vo.guard = none) ∨ ∃ j want t, o.guard = some (j, want) ∧ (ops[j]?).bind (·.dst) = some t ∧ vo.guard = some (t, want)) := by
  unfold cOper at h
  simp only at h
  split at h
  · rename_i hd
    split at h
    · rename_i hg
      cases h
      exact ⟨rfl, rfl, hd, .inl ⟨hg, rfl⟩⟩
    · rename_i j want hg
      split at h
      · rename_i t ht
        cases h
        exact ⟨rfl, rfl, hd, .inr ⟨j, want, t, hg, ht, rfl⟩⟩
      · cases h
  · cases h

theorem wanted_ok (hs : SR φ w nt st a) {o : Oper} {vo : VO} (h : cOper P nt ops o = some vo) : Region.wanted o (yielded ops a.tmps) = wanted st vo.guard := by
  obtain ⟨_, _, _, ⟨h1, h2⟩ | ⟨j, want, t, h1, h2, h3⟩⟩ := coper_spec h
  · rw [h2]
    simp [Region.wanted, h1, wanted]
  · rw [h3]
    have hv := hs.get t
    simp only [Region.wanted, h1, wanted, yielded, h2, Option.bind_some]
    cases ht : a.tmps[t]? with
    | none =>
      rw [Array.getD_eq_getD_getElem?, ht] at hv
      revert hv
      generalize st.get t = x
      intro hv
      cases x <;> first | rfl | cases hv
    | some v =>
      rw [Array.getD_eq_getD_getElem?, ht] at hv
      revert hv
      generalize st.get t = x
      intro hv
      simp only [Option.getD_some] at hv
      cases hv <;> first
        | rfl
        | (rename_i b; cases b <;> cases want <;> rfl)

theorem St.put_h (st : St) (d : Option Nat) (v : AV) : (st.put d v).h = st.h := by cases d <;> rfl

theorem vdo_ok {call : Nat → List AV → Heap → Option (AV × Heap)} (hcall : CallOk P call) {o : Oper} {vo : VO} (ho : cOper P nt ops o = some vo) (hs : SR φ w nt st a) (hr : HR φ w st.h) {nm : Nat} (hn : st.h.get nm = none)
    (h : vdo call st nm vo = some st') {K : Act → World → Prop} {Q : Exit → Act → World → Prop}
    (hK : ∀ φ' a' w', SR φ' w' nt st' a' → HR φ' w' st'.h → UpdH φ w st.h φ' w' st'.h → a'.defers = a.defers → K a' w') :
    if Region.wanted o (yielded ops a.tmps) then o.wp P a w K Q ∨ (o.asks P a w ∧ LetsOut Q) else K (a.put o.dst undef) w := by
  have hput : ∀ (d : Option Tmp) (u : Value), (a.put d u).defers = a.defers := by
    intro d u; cases d <;> rfl
  rw [wanted_ok hs ho]
  obtain ⟨hop, hdst, hlt, _⟩ := coper_spec ho
  unfold vdo at h
  cases hw : wanted st vo.guard with
  | false =>
    rw [hw] at h
    cases h
    simp only [Bool.false_eq_true, if_false]
    refine hK φ _ w ?_ (by rw [St.put_h]; exact hr) (by rw [St.put_h]; exact UpdH.refl _ _ _) (hput _ _)
    rw [hdst]
    exact hs.put hlt .undef st.h
  | true =>
    rw [hw, cond_true] at h
    simp only [if_true]
    left
    cases hc : cOp P o with
    | none =>
      rw [hop, hc] at h
      cases h
    | some op =>
      rw [hop, hc, Option.getD_some] at h
      have hok := cop_ok hs hr hc (nm := nm) hn
      unfold Oper.wp
      cases hv : vop st nm op with
      | fail => rw [hv] at h; cases h
      | val v h1 =>
        rw [hv] at h hok
        cases h
        obtain ⟨φ', n, w', e1, e2, e3, e4⟩ := hok
        rw [e1]
        rcases e2 with ⟨u, rfl, hvu⟩ | ⟨rfl, rfl⟩
        · rw [Oper.upon_value]
          refine hK φ' _ w' ?_ (by rw [St.put_h]; exact e3) (by rw [St.put_h]; exact e4) (hput _ _)
          rw [hdst]
          exact (hs.upd e4.toUpd).put hlt hvu h1
        · rw [Oper.upon_skip]
          refine hK φ' _ w' ?_ (by rw [St.put_h]; exact e3) (by rw [St.put_h]; exact e4) (hput _ _)
          rw [hdst]
          exact (hs.upd e4.toUpd).put hlt .undef h1
      | enter f args =>
        rw [hv] at h hok
        simp only at h
        split at h
        · rename_i v h1 hcl
          cases h
          obtain ⟨he, hcs⟩ := hcall f args st.h v h1 hcl
          obtain ⟨us, e1, e2⟩ := hok he
          rw [e1, Oper.upon_enter]
          refine Calls.mono (hcs φ w us hr e2) ?_
          rintro e w' ⟨φ', u, rfl, hvu, hr', hu⟩
          refine hK φ' _ w' ?_ (by rw [St.put_h]; exact hr') (by rw [St.put_h]; exact hu) (hput _ _)
          rw [hdst]
          exact (hs.upd hu.toUpd).put hlt hvu h1
        · cases h

/-- operations by their places -/
inductive Rel (P : Program) (nt : Nat) (ops : Array Oper) : List Nat → List VO → Prop
  | nil : Rel P nt ops [] []
  | cons {i : Nat} {o : Oper} {vo : VO} {is : List Nat} {l : List VO} (h1 : ops[i]? = some o) (h2 : cOper P nt ops o = some vo) (t : Rel P nt ops is l) : Rel P nt ops (i :: is) (vo :: l)

theorem vops_ok {call : Nat → List AV → Heap → Option (AV × Heap)} (hcall : CallOk P call) {Q : Exit → Act → World → Prop} : ∀ {is : List Nat} {l : List VO}, Rel P nt ops is l → ∀ {φ : Env} {w : World} {st st' : St} {a : Act}, SR φ w nt st a → HR φ w st.h →
    vops call l st = some st' → (∀ φ' a' w', SR φ' w' nt st' a' → HR φ' w' st'.h → UpdH φ w st.h φ' w' st'.h → a'.defers = a.defers → Q .normal a' w') → wpOps P ops Q is a w
  | _, _, .nil, φ, w, st, st', a, hs, hr, h, hQ => by
    cases h
    exact hQ φ a w hs hr (UpdH.refl _ _ _) rfl
  | i :: is, vo :: l, .cons (o := o) h1 h2 t, φ, w, st, st', a, hs, hr, h, hQ => by
    simp only [vops] at h
    split at h
    · rename_i st1 hd
      simp only [wpOps, h1]
      refine vdo_ok hcall h2 hs hr (hr.next _ (Nat.le_refl _)) hd fun φ1 a1 w1 hs1 hr1 hu1 hd1 => ?_
      exact vops_ok hcall t hs1 hr1 h fun φ2 a2 w2 hs2 hr2 hu2 hd2 => hQ φ2 a2 w2 hs2 hr2 (hu1.trans hu2) (hd2.trans hd1)
    · cases h

theorem rel_of : ∀ (os : List Oper) (l : List VO) (k : Nat), os.mapM (cOper P nt ops) = some l → (∀ j, j < os.length → ops[k + j]? = os[j]?) → Rel P nt ops (List.range' k os.length) l
  | [], l, k, h, _ => by
    simp at h; subst h; exact .nil
  | o :: os, l, k, h, hj => by
    simp only [List.mapM_cons, Option.bind_eq_bind, Option.bind_eq_some_iff, Option.pure_def, Option.some.injEq] at h
    obtain ⟨vo, h1, l', h2, rfl⟩ := h
    rw [List.length_cons, List.range'_succ]
    refine .cons (by simpa using hj 0 (by simp)) h1 (rel_of os l' (k + 1) h2 fun j hlt => ?_)
    have := hj (j + 1) (by simpa using hlt)
    rw [show k + 1 + j = k + (j + 1) by omega]
    simpa using this
theorem rel_all {l : List VO} (h : cOpers P nt ops = some l) : Rel P nt ops (List.range ops.size) l := by
  have := rel_of (P := P) (nt := nt) (ops := ops) ops.toList l 0 h (fun j _ => by simp)
  rw [List.range_eq_range']
  simpa using this

/-! ### loops -/
def LoopWp (P : Program) (c : Code) (Q : Exit → Act → World → Prop) (a : Act) (w : World) : Prop :=
  ∀ (b : Frame) (k : List Item) (cs : List Frame), ∃ e a' w', Q e a' w' ∧ Arrives P (lone (b.at a (.code c :: .inLoop c :: k)) cs w) b k cs e a' w'
theorem LoopWp.wp {c : Code} {Q : Exit → Act → World → Prop} (h : LoopWp P c Q a w) : (Code.loop c).wp P Q a w := by
  intro b k cs
  obtain ⟨e, a', w', hq, harr⟩ := h b k cs
  exact ⟨e, a', w', hq, .of_steps (.one step_loop) harr⟩
theorem LoopWp.round {c : Code} {Q : Exit → Act → World → Prop} (h : c.wp P (Exit.then (LoopWp P c Q) Q) a w) : LoopWp P c Q a w := by
  intro b k cs
  obtain ⟨e, a₁, w₁, hq, harr⟩ := h b (.inLoop c :: k) cs
  cases e with
  | normal =>
    obtain ⟨e₂, a₂, w₂, hq₂, harr₂⟩ := hq b k cs
    exact ⟨e₂, a₂, w₂, hq₂, .of_steps (Steps.trans harr (.one step_inLoop)) harr₂⟩
  | exit id => exact ⟨_, a₁, w₁, hq, .pass (x := .inLoop c) rfl (fun _ _ => .inl (by simp)) harr⟩
  | goto l => exact ⟨_, a₁, w₁, hq, .pass (x := .inLoop c) rfl (fun _ _ => .inl (by simp)) harr⟩
  | ret => exact ⟨_, a₁, w₁, hq, .pass (x := .inLoop c) rfl (fun _ _ => .inl (by simp)) harr⟩
  | panic ch => exact ⟨_, a₁, w₁, hq, .pass (x := .inLoop c) rfl (fun _ _ => .inl (by simp)) harr⟩
  | outgrown => exact ⟨_, a₁, w₁, hq, .pass (x := .inLoop c) rfl (fun _ _ => .inl (by simp)) harr⟩

def Ex.out : Ex → Exit
  | .normal => .normal
  | .exit id => .exit id
  | .ret => .ret

/-- a drawn region, in whatever order -/
def DrawnOk (P : Program) : Prop := ∀ (nt : Nat) (id : Nat) (ops : Array Oper) (vc : VCode), cCode P nt (.region id ops true) = some vc → ∀ (call : Nat → List AV → Heap → Option (AV × Heap)) (rec : VCode → St → Option (Ex × St)), CallOk P call →
  ∀ (φ : Env) (w : World) (st st' : St) (a : Act) (ex : Ex) (Q : Exit → Act → World → Prop), SR φ w nt st a → HR φ w st.h → vstep call rec vc st = some (ex, st') →
    (∀ φ' a' w', SR φ' w' nt st' a' → HR φ' w' st'.h → UpdH φ w st.h φ' w' st'.h → a'.defers = a.defers → Q ex.out a' w') → (Code.region id ops true).wp P Q a w

def ExecOk (P : Program) (exec : VCode → St → Option (Ex × St)) : Prop := ∀ (nt : Nat) (c : Code) (vc : VCode), cCode P nt c = some vc → ∀ (φ : Env) (w : World) (st st' : St) (a : Act) (ex : Ex) (Q : Exit → Act → World → Prop),
  SR φ w nt st a → HR φ w st.h → exec vc st = some (ex, st') → (∀ φ' a' w', SR φ' w' nt st' a' → HR φ' w' st'.h → UpdH φ w st.h φ' w' st'.h → a'.defers = a.defers → Q ex.out a' w') → c.wp P Q a w
def LoopOk (P : Program) (exec : VCode → St → Option (Ex × St)) : Prop := ∀ (nt : Nat) (c : Code) (vc : VCode), cCode P nt c = some vc → ∀ (φ : Env) (w : World) (st st' : St) (a : Act) (ex : Ex) (Q : Exit → Act → World → Prop),
  SR φ w nt st a → HR φ w st.h → exec (.loop vc) st = some (ex, st') → (∀ φ' a' w', SR φ' w' nt st' a' → HR φ' w' st'.h → UpdH φ w st.h φ' w' st'.h → a'.defers = a.defers → Q ex.out a' w') → LoopWp P c Q a w

theorem loop_ok {call : Nat → List AV → Heap → Option (AV × Heap)} {rec : VCode → St → Option (Ex × St)} (hrec : ExecOk P rec) (hloop : LoopOk P rec) : LoopOk P (vstep call rec) := by
  intro nt c vc hc φ w st st' a ex Q hs hr h hQ
  simp only [vstep] at h
  apply LoopWp.round
  split at h
  · rename_i st1 h1
    refine hrec nt c vc hc φ w st st1 a .normal _ hs hr h1 fun φ1 a1 w1 hs1 hr1 hu1 hd1 => ?_
    exact hloop nt c vc hc φ1 w1 st1 st' a1 ex Q hs1 hr1 h fun φ2 a2 w2 hs2 hr2 hu2 hd2 => hQ φ2 a2 w2 hs2 hr2 (hu1.trans hu2) (hd2.trans hd1)
  · rename_i hne
    refine hrec nt c vc hc φ w st st' a ex _ hs hr h fun φ1 a1 w1 hs1 hr1 hu1 hd1 => ?_
    cases ex with
    | normal => exact absurd h (hne _)
    | exit id => exact hQ φ1 a1 w1 hs1 hr1 hu1 hd1
    | ret => exact hQ φ1 a1 w1 hs1 hr1 hu1 hd1

theorem exec_ok (hD : DrawnOk P) {call : Nat → List AV → Heap → Option (AV × Heap)} (hcall : CallOk P call) {rec : VCode → St → Option (Ex × St)} (hrec : ExecOk P rec) (hloop : LoopOk P rec) : ExecOk P (vstep call rec) := by
  intro nt c vc hc φ w st st' a ex Q hs hr h hQ
  cases c <;> try (simp only [cCode] at hc; cases hc; cases h; done)
  case skip =>
    cases hc
    cases h
    exact wp_skip (hQ φ a w hs hr (UpdH.refl _ _ _) rfl)
  case region id ops dr =>
    cases dr with
    | false =>
      simp only [cCode] at hc
      obtain ⟨l, hl, rfl⟩ := Option.map_eq_some_iff.1 hc
      simp only [vstep] at h
      split at h
      · rename_i st1 h1
        cases h
        exact wp_region (vops_ok hcall (rel_all hl) hs hr h1 hQ)
      · cases h
    | true => exact hD nt id ops vc hc call rec hcall φ w st st' a ex Q hs hr h hQ
  case seq x y =>
    simp only [cCode] at hc
    split at hc
    · rename_i x' y' hx hy
      cases hc
      simp only [vstep] at h
      apply wp_seq
      split at h
      · rename_i st1 h1
        refine hrec nt x x' hx φ w st st1 a .normal _ hs hr h1 fun φ1 a1 w1 hs1 hr1 hu1 hd1 => ?_
        exact hrec nt y y' hy φ1 w1 st1 st' a1 ex Q hs1 hr1 h fun φ2 a2 w2 hs2 hr2 hu2 hd2 => hQ φ2 a2 w2 hs2 hr2 (hu1.trans hu2) (hd2.trans hd1)
      · rename_i hne
        refine hrec nt x x' hx φ w st st' a ex _ hs hr h fun φ1 a1 w1 hs1 hr1 hu1 hd1 => ?_
        cases ex with
        | normal => exact absurd h (hne _)
        | exit id => exact hQ φ1 a1 w1 hs1 hr1 hu1 hd1
        | ret => exact hQ φ1 a1 w1 hs1 hr1 hu1 hd1
    · cases hc
  case cond x y z =>
    simp only [cCode] at hc
    split at hc
    · rename_i x' y' z' hx hy hz
      cases hc
      simp only [vstep] at h
      have hv := opd_ok hs hx
      split at h
      · rename_i hb
        rw [hb] at hv
        generalize hu : a.eval x = u at hv
        cases hv
        exact wp_cond_true hu (hrec nt y y' hy φ w st st' a ex Q hs hr h hQ)
      · rename_i hb
        rw [hb] at hv
        generalize hu : a.eval x = u at hv
        cases hv
        exact wp_cond_false hu (hrec nt z z' hz φ w st st' a ex Q hs hr h hQ)
      · cases h
    · cases hc
  case block id b =>
    simp only [cCode] at hc
    obtain ⟨b', hb, rfl⟩ := Option.map_eq_some_iff.1 hc
    simp only [vstep] at h
    apply wp_block
    split at h
    · rename_i i st1 h1
      rw [T.beq_dec] at h
      refine hrec nt b b' hb φ w st st1 a (.exit i) _ hs hr h1 fun φ1 a1 w1 hs1 hr1 hu1 hd1 => ?_
      show if i = id then Q .normal a1 w1 else Q (.exit i) a1 w1
      by_cases e : i = id
      · rw [decide_eq_true e, cond_true] at h
        cases h
        rw [if_pos e]
        exact hQ φ1 a1 w1 hs1 hr1 hu1 hd1
      · rw [decide_eq_false e, cond_false] at h
        cases h
        rw [if_neg e]
        exact hQ φ1 a1 w1 hs1 hr1 hu1 hd1
    · rename_i hne
      refine hrec nt b b' hb φ w st st' a ex _ hs hr h fun φ1 a1 w1 hs1 hr1 hu1 hd1 => ?_
      cases ex with
      | normal => exact hQ φ1 a1 w1 hs1 hr1 hu1 hd1
      | exit id => exact absurd h (hne _ _)
      | ret => exact hQ φ1 a1 w1 hs1 hr1 hu1 hd1
  case loop b =>
    simp only [cCode] at hc
    obtain ⟨b', hb, rfl⟩ := Option.map_eq_some_iff.1 hc
    exact (loop_ok hrec hloop nt b b' hb φ w st st' a ex Q hs hr h hQ).wp
  case exit id =>
    cases hc
    cases h
    exact wp_exit (hQ φ a w hs hr (UpdH.refl _ _ _) rfl)
  case ret =>
    cases hc
    cases h
    exact wp_ret (hQ φ a w hs hr (UpdH.refl _ _ _) rfl)

end
open Go.RowKit

/-- The table holds functions of the program. -/
def TableOk (P : Program) (F : Nat → Option VFun) : Prop := ∀ f vf, F f = some vf → ∃ fn, P.funcs[f]? = some fn ∧ cFun P fn = some vf ∧ fn.name ≠ "runtime.NumGoroutine"

section
variable {P : Program} {φ : Env} {w : World} {nt : Nat} {st st' : St} {a : Act}

theorem argsT_get : ∀ (l : List AV) (i : Nat) (t : T AV) (j : Nat), (argsT l i t).get j = if i ≤ j ∧ j < i + l.length then l[j - i]? else t.get j
  | [], i, t, j => by
    rw [argsT, if_neg (fun h => by simp at h; omega)]
  | v :: l, i, t, j => by
    rw [argsT, argsT_get l (i + 1) _ j, T.get_set, List.length_cons]
    by_cases e : j = i
    · subst e
      rw [if_neg (by omega), if_pos rfl, if_pos (by omega)]
      simp
    · rw [if_neg e]
      by_cases h : i + 1 ≤ j ∧ j < i + 1 + l.length
      · rw [if_pos h, if_pos (by omega)]
        rw [show j - i = (j - (i + 1)) + 1 by omega, List.getElem?_cons_succ]
      · rw [if_neg h, if_neg (by omega)]

theorem start_ok {args : List AV} {us : Array Value} (h : VRs φ w args us.toList) {nt : Nat} (hle : args.length ≤ nt) (H : Heap) :
    SR φ w nt ⟨argsT args 0 .e, H⟩ { tmps := us ++ Array.replicate (nt - us.size) undef, defers := [] } := by
  have hl : args.length = us.size := by simpa using h.length
  refine ⟨by simp; omega, fun t => ?_⟩
  show VR φ w ((argsT args 0 .e).get t |>.getD .undef) _
  rw [argsT_get, T.get_e, Nat.zero_add, Nat.sub_zero]
  by_cases ht : t < args.length
  · rw [if_pos ⟨Nat.zero_le _, ht⟩]
    obtain ⟨u, h1, h2⟩ := h.get (List.getElem?_eq_getElem ht)
    rw [List.getElem?_eq_getElem ht, Option.getD_some]
    have : (us ++ Array.replicate (nt - us.size) undef).getD t undef = u := by
      rw [Array.getD_eq_getD_getElem?, Array.getElem?_append_left (by omega)]
      rw [Array.getElem?_toList] at h1
      rw [h1]; rfl
    rw [this]
    exact h2
  · rw [if_neg (by omega), Option.getD_none]
    have : (us ++ Array.replicate (nt - us.size) undef).getD t undef = undef := by
      rw [Array.getD_eq_getD_getElem?, Array.getElem?_append_right (by omega), Array.getElem?_replicate]
      split <;> rfl
    rw [this]
    exact .undef

theorem resOf_ok (hs : SR φ w nt st a) (hr : HR φ w st.h) {r : ResultVar} {vr : VRes} (hc : cRes P r = some vr) {v : AV} (h : resOf st vr = some v) :
    ∃ u, (match r with | .tmp t => pure (a.tmps.getD t undef) | .cell x t => do loadVar t (← asAddr (a.tmps.getD x undef)) : Sem Value).run P w = .ok u w ∧ VR φ w v u := by
  cases r with
  | tmp t =>
    cases hc
    cases h
    exact ⟨_, rfl, hs.get t⟩
  | cell x t =>
    simp only [cRes] at hc
    split at hc
    · rename_i ht
      cases hc
      simp only [resOf] at h
      have hv := hs.get x
      split at h
      · rename_i b off hb
        rw [hb] at hv
        split at h
        · rename_i l e ver hg
          obtain ⟨B', o', e', n, h1, h2, h3, h4, _⟩ := hr.cells hg
          generalize hu : a.tmps.getD x undef = u at hv
          cases hv with
          | ptr hb' =>
            rw [hb'] at h1
            cases h1
            obtain ⟨u, hu', hv'⟩ := load_ok ht h3 h
            exact ⟨u, by simp only [hu]; simpa [asAddr] using hu', hv'⟩
        · cases h
      · cases h
    · cases hc

theorem resAll_ok (hs : SR φ w nt st a) (hr : HR φ w st.h) : ∀ {rs : List ResultVar} {vrs : List VRes}, rs.mapM (cRes P) = some vrs → ∀ {vs : List AV}, vrs.mapM (resOf st) = some vs →
    ∃ us, (rs.mapM fun r => (match r with | .tmp t => pure (a.tmps.getD t undef) | .cell x t => do loadVar t (← asAddr (a.tmps.getD x undef)) : Sem Value)).run P w = .ok us w ∧ VRs φ w vs us
  | [], vrs, h, vs, h' => by
    simp at h; subst h
    simp at h'; subst h'
    exact ⟨[], rfl, .nil⟩
  | r :: rs, vrs, h, vs, h' => by
    simp only [List.mapM_cons, Option.bind_eq_bind, Option.bind_eq_some_iff, Option.pure_def, Option.some.injEq] at h
    obtain ⟨vr, h1, l', h2, rfl⟩ := h
    simp only [List.mapM_cons, Option.bind_eq_bind, Option.bind_eq_some_iff, Option.pure_def, Option.some.injEq] at h'
    obtain ⟨v, g1, vs', g2, rfl⟩ := h'
    obtain ⟨u, a1, a2⟩ := resOf_ok hs hr h1 g1
    obtain ⟨us, b1, b2⟩ := resAll_ok hs hr h2 g2
    refine ⟨u :: us, ?_, .cons a2 b2⟩
    rw [List.mapM_cons, Sem.run_bind, a1, Result.andThen_ok, Sem.run_bind, b1, Result.andThen_ok]
    rfl

theorem results_ok (hs : SR φ w nt st a) (hr : HR φ w st.h) {fn : Func} {vrs : List VRes} (hc : fn.results.toList.mapM (cRes P) = some vrs) {v : AV} (h : VM.results st vrs = some v) :
    ∃ u, (Go.results fn a.tmps).run P w = .ok u w ∧ VR φ w v u := by
  unfold VM.results at h
  have run : ∀ {vs : List AV}, vrs.mapM (resOf st) = some vs → ∃ us : List Value, (Go.results fn a.tmps).run P w = .ok (if h : us.toArray.size = 1 then us.toArray[0] else .tuple us.toArray) w ∧ VRs φ w vs us := by
    intro vs hvs
    obtain ⟨us, h1, h2⟩ := resAll_ok hs hr hc hvs
    refine ⟨us, ?_, h2⟩
    unfold Go.results
    rw [Sem.run_bind, Array.mapM_eq_mapM_toList, Sem.run_map]
    erw [h1]
    rfl
  split at h
  · rename_i v' hv
    cases h
    obtain ⟨us, h1, h2⟩ := run hv
    cases h2 with
    | cons hx t =>
      cases t
      exact ⟨_, h1, hx⟩
  · rename_i vs hne hv
    cases h
    obtain ⟨us, h1, h2⟩ := run hv
    refine ⟨_, h1, ?_⟩
    have : ¬ us.toArray.size = 1 := by
      intro e
      have hl := h2.length
      simp at e
      rw [e] at hl
      match vs, hl with
      | [x], _ => exact hne x rfl
    rw [dif_neg this]
    exact .tup (by simpa using h2)
  · cases h

theorem vcall_step {F : Nat → Option VFun} {X : Told} (hF : TableOk P F) (hX : CallOk P X) {exec : VCode → St → Option (Ex × St)} (hE : ExecOk P exec) :
    CallOk P (fun f args h => match X f args h with
    | some r => some r
    | none => match F f with
      | none => none
      | some fn => bif Nat.beq args.length fn.nargs then
          match exec fn.body ⟨argsT args 0 .e, h⟩ with
          | some (.normal, st) | some (.ret, st) => (VM.results st fn.res).map fun v => (v, st.h)
          | _ => none
        else none) := by
  intro f args h v h' hcall
  simp only at hcall
  split at hcall
  · rename_i r hx
    cases hcall
    exact hX f args h v h' hx
  · split at hcall
    · cases hcall
    · rename_i vf hf
      obtain ⟨fn, e1, e2, e3⟩ := hF f vf hf
      rw [T.beq_dec] at hcall
      by_cases hl : args.length = vf.nargs
      · rw [decide_eq_true hl, cond_true] at hcall
        unfold cFun at e2
        split at e2
        · cases e2
        · rename_i c hb
          split at e2
          · rename_i vc vr hc hvr
            split at e2
            · rename_i hle
              cases e2
              refine ⟨⟨fn, e1, by rw [hb]; rfl, e3⟩, fun φ w us hr hus => ?_⟩
              apply calls_of_wp e1 hb
              have hs0 := start_ok (φ := φ) (w := w) hus (nt := fn.ntmps) (by rw [hl]; exact hle) h
              have fin : ∀ (st : St) (ex : Ex), (ex = .normal ∨ ex = .ret) → exec vc ⟨argsT args 0 .e, h⟩ = some (ex, st) → (VM.results st vr).map (fun v => (v, st.h)) = some (v, h') →
                  c.wp P (bodyPost P fn (fun e w' => ∃ φ' u, e = .returned u ∧ VR φ' w' v u ∧ HR φ' w' h' ∧ UpdH φ w h φ' w' h')) { tmps := us ++ Array.replicate (fn.ntmps - us.size) undef, defers := [] } w := by
                intro st ex hex he hres
                obtain ⟨v1, hv1, hv2⟩ := Option.map_eq_some_iff.1 hres
                cases hv2
                refine hE fn.ntmps c vc hc φ w _ st _ ex _ hs0 hr he fun φ1 a1 w1 hs1 hr1 hu1 hd1 => ?_
                obtain ⟨u, g1, g2⟩ := results_ok hs1 hr1 hvr hv1
                rcases hex with rfl | rfl
                · exact ⟨hd1, u, g1, φ1, u, rfl, g2, hr1, hu1⟩
                · exact ⟨hd1, u, g1, φ1, u, rfl, g2, hr1, hu1⟩
              split at hcall
              · rename_i st he
                exact fin st .normal (.inl rfl) he hcall
              · rename_i st he
                exact fin st .ret (.inr rfl) he hcall
              · cases hcall
            · cases e2
          · cases e2
      · rw [decide_eq_false hl, cond_false] at hcall
        cases hcall

theorem vm_ok (hD : DrawnOk P) {F : Nat → Option VFun} {X : Told} (hF : TableOk P F) (hX : CallOk P X) : ∀ n, ExecOk P (vexec F X n) ∧ LoopOk P (vexec F X n) ∧ CallOk P (vcall F X n)
  | 0 => by
    refine ⟨?_, ?_, ?_⟩
    · intro nt c vc hc φ w st st' a ex Q hs hr h
      simp [vexec] at h
    · intro nt c vc hc φ w st st' a ex Q hs hr h
      simp [vexec] at h
    · intro f args h v h' hcall
      simp [vcall] at hcall
  | n + 1 => by
    obtain ⟨h1, h2, h3⟩ := vm_ok hD hF hX n
    have e1 : vexec F X (n + 1) = vstep (vcall F X n) (vexec F X n) := by
      funext c st; rw [vexec]
    refine ⟨?_, ?_, ?_⟩
    · rw [e1]; exact exec_ok hD h3 h1 h2
    · rw [e1]; exact loop_ok h1 h2
    · have := vcall_step hF hX h1
      intro f args h v h' hcall
      rw [vcall] at hcall
      exact this f args h v h' hcall

theorem nothing_told : CallOk P (fun _ _ _ => none) := fun _ _ _ _ _ h => by cases h

end
end Go.Proofs.Ytinonmcnofjeeaa.VM
