/- The small machine's code stands for the program's. -/
import Derived.Test.YtinonmcnofjeeaaVM13
import Derived.Orders
namespace Go.Proofs.Ytinonmcnofjeeaa.VM
set_option linter.unusedSimpArgs false
set_option linter.unusedVariables false
set_option linter.defProp false
set_option maxHeartbeats 1000000
open Go.RowKit

/-- A told function stands for the program's. -/
def CallOk (P : Program) (call : Nat → List AV → Heap → Option (AV × Heap)) : Prop :=
  ∀ (f : Nat) (args : List AV) (h : Heap) (v : AV) (h' : Heap), call f args h = some (v, h') → Enters P f ∧
    ∀ (φ : Env) (w : World) (us : Array Value), HR φ w h → VRs φ w args us.toList →
      Calls P f us w (fun e w' => ∃ φ' u, e = .returned u ∧ VR φ' w' v u ∧ HR φ' w' h' ∧ UpdH φ w h φ' w' h')

section
variable {P : Program} {φ : Env} {w : World} {nt : Nat} {st st' : St} {a : Act} {ops : Array Oper}

theorem coper_spec {o : Oper} {vo : VO} (h : cOper P nt ops o = some vo) : vo.op = (cOp P o).getD .bad ∧ vo.dst = o.dst ∧ o.dst.all (· < nt) = true ∧
    ((o.guard = none ∧ vo.guard = none) ∨ ∃ j want t, o.guard = some (j, want) ∧ (ops[j]?).bind (·.dst) = some t ∧ vo.guard = some (t, want)) := by
  unfold cOper at h
  simp only at h
  split at h
  · rename_i hd
    split at h
    · rename_i hg
      cases h
      exact ⟨rfl, rfl, hd, .inl ⟨hg, rfl⟩⟩
    · rename_i j want hg
      split at h
      · rename_i t ht
        cases h
        exact ⟨rfl, rfl, hd, .inr ⟨j, want, t, hg, ht, rfl⟩⟩
      · cases h
  · cases h

theorem wanted_ok (hs : SR φ w nt st a) {o : Oper} {vo : VO} (h : cOper P nt ops o = some vo) : Region.wanted o (yielded ops a.tmps) = wanted st vo.guard := by
  obtain ⟨_, _, _, ⟨h1, h2⟩ | ⟨j, want, t, h1, h2, h3⟩⟩ := coper_spec h
  · rw [h2]
    simp [Region.wanted, h1, wanted]
  · rw [h3]
    have hv := hs.get t
    simp only [Region.wanted, h1, wanted, yielded, h2, Option.bind_some]
    cases ht : a.tmps[t]? with
    | none =>
      rw [Array.getD_eq_getD_getElem?, ht] at hv
      revert hv
      generalize st.get t = x
      intro hv
      cases x <;> first | rfl | cases hv
    | some v =>
      rw [Array.getD_eq_getD_getElem?, ht] at hv
      revert hv
      generalize st.get t = x
      intro hv
      simp only [Option.getD_some] at hv
      cases hv <;> first
        | rfl
        | (rename_i b; cases b <;> cases want <;> rfl)

theorem St.put_h (st : St) (d : Option Nat) (v : AV) : (st.put d v).h = st.h := by cases d <;> rfl

theorem vdo_ok {call : Nat → List AV → Heap → Option (AV × Heap)} (hcall : CallOk P call) {o : Oper} {vo : VO} (ho : cOper P nt ops o = some vo) (hs : SR φ w nt st a) (hr : HR φ w st.h) {nm : Nat} (hn : st.h.get nm = none)
    (h : vdo call st nm vo = some st') {K : Act → World → Prop} {Q : Exit → Act → World → Prop}
    (hK : ∀ φ' a' w', SR φ' w' nt st' a' → HR φ' w' st'.h → UpdH φ w st.h φ' w' st'.h → a'.defers = a.defers → K a' w') :
    if Region.wanted o (yielded ops a.tmps) then o.wp P a w K Q ∨ (o.asks P a w ∧ LetsOut Q) else K (a.put o.dst undef) w := by
  have hput : ∀ (d : Option Tmp) (u : Value), (a.put d u).defers = a.defers := by
    intro d u; cases d <;> rfl
  rw [wanted_ok hs ho]
  obtain ⟨hop, hdst, hlt, _⟩ := coper_spec ho
  unfold vdo at h
  cases hw : wanted st vo.guard with
  | false =>
    rw [hw] at h
    cases h
    simp only [Bool.false_eq_true, if_false]
    refine hK φ _ w ?_ (by rw [St.put_h]; exact hr) (by rw [St.put_h]; exact UpdH.refl _ _ _) (hput _ _)
    rw [hdst]
    exact hs.put hlt .undef st.h
  | true =>
    rw [hw, cond_true] at h
    simp only [if_true]
    left
    cases hc : cOp P o with
    | none =>
      rw [hop, hc] at h
      cases h
    | some op =>
      rw [hop, hc, Option.getD_some] at h
      have hok := cop_ok hs hr hc (nm := nm) hn
      unfold Oper.wp
      cases hv : vop st nm op with
      | fail => rw [hv] at h; cases h
      | val v h1 =>
        rw [hv] at h hok
        cases h
        obtain ⟨φ', n, w', e1, e2, e3, e4⟩ := hok
        rw [e1]
        rcases e2 with ⟨u, rfl, hvu⟩ | ⟨rfl, rfl⟩
        · rw [Oper.upon_value]
          refine hK φ' _ w' ?_ (by rw [St.put_h]; exact e3) (by rw [St.put_h]; exact e4) (hput _ _)
          rw [hdst]
          exact (hs.upd e4.toUpd).put hlt hvu h1
        · rw [Oper.upon_skip]
          refine hK φ' _ w' ?_ (by rw [St.put_h]; exact e3) (by rw [St.put_h]; exact e4) (hput _ _)
          rw [hdst]
          exact (hs.upd e4.toUpd).put hlt .undef h1
      | enter f args =>
        rw [hv] at h hok
        simp only at h
        split at h
        · rename_i v h1 hcl
          cases h
          obtain ⟨he, hcs⟩ := hcall f args st.h v h1 hcl
          obtain ⟨us, e1, e2⟩ := hok he
          rw [e1, Oper.upon_enter]
          refine Calls.mono (hcs φ w us hr e2) ?_
          rintro e w' ⟨φ', u, rfl, hvu, hr', hu⟩
          refine hK φ' _ w' ?_ (by rw [St.put_h]; exact hr') (by rw [St.put_h]; exact hu) (hput _ _)
          rw [hdst]
          exact (hs.upd hu.toUpd).put hlt hvu h1
        · cases h

/-- operations by their places -/
inductive Rel (P : Program) (nt : Nat) (ops : Array Oper) : List Nat → List VO → Prop
  | nil : Rel P nt ops [] []
  | cons {i : Nat} {o : Oper} {vo : VO} {is : List Nat} {l : List VO} (h1 : ops[i]? = some o) (h2 : cOper P nt ops o = some vo) (t : Rel P nt ops is l) : Rel P nt ops (i :: is) (vo :: l)

theorem vops_ok {call : Nat → List AV → Heap → Option (AV × Heap)} (hcall : CallOk P call) {Q : Exit → Act → World → Prop} : ∀ {is : List Nat} {l : List VO}, Rel P nt ops is l → ∀ {φ : Env} {w : World} {st st' : St} {a : Act}, SR φ w nt st a → HR φ w st.h →
    vops call l st = some st' → (∀ φ' a' w', SR φ' w' nt st' a' → HR φ' w' st'.h → UpdH φ w st.h φ' w' st'.h → a'.defers = a.defers → Q .normal a' w') → wpOps P ops Q is a w
  | _, _, .nil, φ, w, st, st', a, hs, hr, h, hQ => by
    cases h
    exact hQ φ a w hs hr (UpdH.refl _ _ _) rfl
  | i :: is, vo :: l, .cons (o := o) h1 h2 t, φ, w, st, st', a, hs, hr, h, hQ => by
    simp only [vops] at h
    split at h
    · rename_i st1 hd
      simp only [wpOps, h1]
      refine vdo_ok hcall h2 hs hr (hr.next _ (Nat.le_refl _)) hd fun φ1 a1 w1 hs1 hr1 hu1 hd1 => ?_
      exact vops_ok hcall t hs1 hr1 h fun φ2 a2 w2 hs2 hr2 hu2 hd2 => hQ φ2 a2 w2 hs2 hr2 (hu1.trans hu2) (hd2.trans hd1)
    · cases h

theorem rel_of : ∀ (os : List Oper) (l : List VO) (k : Nat), os.mapM (cOper P nt ops) = some l → (∀ j, j < os.length → ops[k + j]? = os[j]?) → Rel P nt ops (List.range' k os.length) l
  | [], l, k, h, _ => by
    simp at h; subst h; exact .nil
  | o :: os, l, k, h, hj => by
    simp only [List.mapM_cons, Option.bind_eq_bind, Option.bind_eq_some_iff, Option.pure_def, Option.some.injEq] at h
    obtain ⟨vo, h1, l', h2, rfl⟩ := h
    rw [List.length_cons, List.range'_succ]
    refine .cons (by simpa using hj 0 (by simp)) h1 (rel_of os l' (k + 1) h2 fun j hlt => ?_)
    have := hj (j + 1) (by simpa using hlt)
    rw [show k + 1 + j = k + (j + 1) by omega]
    simpa using this
theorem rel_all {l : List VO} (h : cOpers P nt ops = some l) : Rel P nt ops (List.range ops.size) l := by
  have := rel_of (P := P) (nt := nt) (ops := ops) ops.toList l 0 h (fun j _ => by simp)
  rw [List.range_eq_range']
  simpa using this

/-! ### loops -/
def LoopWp (P : Program) (c : Code) (Q : Exit → Act → World → Prop) (a : Act) (w : World) : Prop :=
  ∀ (b : Frame) (k : List Item) (cs : List Frame), ∃ e a' w', Q e a' w' ∧ Arrives P (lone (b.at a (.code c :: .inLoop c :: k)) cs w) b k cs e a' w'
theorem LoopWp.wp {c : Code} {Q : Exit → Act → World → Prop} (h : LoopWp P c Q a w) : (Code.loop c).wp P Q a w := by
  intro b k cs
  obtain ⟨e, a', w', hq, harr⟩ := h b k cs
  exact ⟨e, a', w', hq, .of_steps (.one step_loop) harr⟩
theorem LoopWp.round {c : Code} {Q : Exit → Act → World → Prop} (h : c.wp P (Exit.then (LoopWp P c Q) Q) a w) : LoopWp P c Q a w := by
  intro b k cs
  obtain ⟨e, a₁, w₁, hq, harr⟩ := h b (.inLoop c :: k) cs
  cases e with
  | normal =>
    obtain ⟨e₂, a₂, w₂, hq₂, harr₂⟩ := hq b k cs
    exact ⟨e₂, a₂, w₂, hq₂, .of_steps (Steps.trans harr (.one step_inLoop)) harr₂⟩
  | exit id => exact ⟨_, a₁, w₁, hq, .pass (x := .inLoop c) rfl (fun _ _ => .inl (by simp)) harr⟩
  | goto l => exact ⟨_, a₁, w₁, hq, .pass (x := .inLoop c) rfl (fun _ _ => .inl (by simp)) harr⟩
  | ret => exact ⟨_, a₁, w₁, hq, .pass (x := .inLoop c) rfl (fun _ _ => .inl (by simp)) harr⟩
  | panic ch => exact ⟨_, a₁, w₁, hq, .pass (x := .inLoop c) rfl (fun _ _ => .inl (by simp)) harr⟩
  | outgrown => exact ⟨_, a₁, w₁, hq, .pass (x := .inLoop c) rfl (fun _ _ => .inl (by simp)) harr⟩

def Ex.out : Ex → Exit
  | .normal => .normal
  | .exit id => .exit id
  | .ret => .ret

/-- a drawn region, in whatever order -/
def DrawnOk (P : Program) : Prop := ∀ (nt : Nat) (id : Nat) (ops : Array Oper) (vc : VCode), cCode P nt (.region id ops true) = some vc → ∀ (call : Nat → List AV → Heap → Option (AV × Heap)) (rec : VCode → St → Option (Ex × St)), CallOk P call →
  ∀ (φ : Env) (w : World) (st st' : St) (a : Act) (ex : Ex) (Q : Exit → Act → World → Prop), SR φ w nt st a → HR φ w st.h → vstep call rec vc st = some (ex, st') →
    (∀ φ' a' w', SR φ' w' nt st' a' → HR φ' w' st'.h → UpdH φ w st.h φ' w' st'.h → a'.defers = a.defers → Q ex.out a' w') → (Code.region id ops true).wp P Q a w

def ExecOk (P : Program) (exec : VCode → St → Option (Ex × St)) : Prop := ∀ (nt : Nat) (c : Code) (vc : VCode), cCode P nt c = some vc → ∀ (φ : Env) (w : World) (st st' : St) (a : Act) (ex : Ex) (Q : Exit → Act → World → Prop),
  SR φ w nt st a → HR φ w st.h → exec vc st = some (ex, st') → (∀ φ' a' w', SR φ' w' nt st' a' → HR φ' w' st'.h → UpdH φ w st.h φ' w' st'.h → a'.defers = a.defers → Q ex.out a' w') → c.wp P Q a w
def LoopOk (P : Program) (exec : VCode → St → Option (Ex × St)) : Prop := ∀ (nt : Nat) (c : Code) (vc : VCode), cCode P nt c = some vc → ∀ (φ : Env) (w : World) (st st' : St) (a : Act) (ex : Ex) (Q : Exit → Act → World → Prop),
  SR φ w nt st a → HR φ w st.h → exec (.loop vc) st = some (ex, st') → (∀ φ' a' w', SR φ' w' nt st' a' → HR φ' w' st'.h → UpdH φ w st.h φ' w' st'.h → a'.defers = a.defers → Q ex.out a' w') → LoopWp P c Q a w

theorem loop_ok {call : Nat → List AV → Heap → Option (AV × Heap)} {rec : VCode → St → Option (Ex × St)} (hrec : ExecOk P rec) (hloop : LoopOk P rec) : LoopOk P (vstep call rec) := by
  intro nt c vc hc φ w st st' a ex Q hs hr h hQ
  simp only [vstep] at h
  apply LoopWp.round
  split at h
  · rename_i st1 h1
    refine hrec nt c vc hc φ w st st1 a .normal _ hs hr h1 fun φ1 a1 w1 hs1 hr1 hu1 hd1 => ?_
    exact hloop nt c vc hc φ1 w1 st1 st' a1 ex Q hs1 hr1 h fun φ2 a2 w2 hs2 hr2 hu2 hd2 => hQ φ2 a2 w2 hs2 hr2 (hu1.trans hu2) (hd2.trans hd1)
  · rename_i hne
    refine hrec nt c vc hc φ w st st' a ex _ hs hr h fun φ1 a1 w1 hs1 hr1 hu1 hd1 => ?_
    cases ex with
    | normal => exact absurd h (hne _)
    | exit id => exact hQ φ1 a1 w1 hs1 hr1 hu1 hd1
    | ret => exact hQ φ1 a1 w1 hs1 hr1 hu1 hd1

theorem exec_ok (hD : DrawnOk P) {call : Nat → List AV → Heap → Option (AV × Heap)} (hcall : CallOk P call) {rec : VCode → St → Option (Ex × St)} (hrec : ExecOk P rec) (hloop : LoopOk P rec) : ExecOk P (vstep call rec) := by
  intro nt c vc hc φ w st st' a ex Q hs hr h hQ
  cases c <;> try (simp only [cCode] at hc; cases hc; cases h; done)
  case skip =>
    cases hc
    cases h
    exact wp_skip (hQ φ a w hs hr (UpdH.refl _ _ _) rfl)
  case region id ops dr =>
    cases dr with
    | false =>
      simp only [cCode] at hc
      obtain ⟨l, hl, rfl⟩ := Option.map_eq_some_iff.1 hc
      simp only [vstep] at h
      split at h
      · rename_i st1 h1
        cases h
        exact wp_region (vops_ok hcall (rel_all hl) hs hr h1 hQ)
      · cases h
    | true => exact hD nt id ops vc hc call rec hcall φ w st st' a ex Q hs hr h hQ
  case seq x y =>
    simp only [cCode] at hc
    split at hc
    · rename_i x' y' hx hy
      cases hc
      simp only [vstep] at h
      apply wp_seq
      split at h
      · rename_i st1 h1
        refine hrec nt x x' hx φ w st st1 a .normal _ hs hr h1 fun φ1 a1 w1 hs1 hr1 hu1 hd1 => ?_
        exact hrec nt y y' hy φ1 w1 st1 st' a1 ex Q hs1 hr1 h fun φ2 a2 w2 hs2 hr2 hu2 hd2 => hQ φ2 a2 w2 hs2 hr2 (hu1.trans hu2) (hd2.trans hd1)
      · rename_i hne
        refine hrec nt x x' hx φ w st st' a ex _ hs hr h fun φ1 a1 w1 hs1 hr1 hu1 hd1 => ?_
        cases ex with
        | normal => exact absurd h (hne _)
        | exit id => exact hQ φ1 a1 w1 hs1 hr1 hu1 hd1
        | ret => exact hQ φ1 a1 w1 hs1 hr1 hu1 hd1
    · cases hc
  case cond x y z =>
    simp only [cCode] at hc
    split at hc
    · rename_i x' y' z' hx hy hz
      cases hc
      simp only [vstep] at h
      have hv := opd_ok hs hx
      split at h
      · rename_i hb
        rw [hb] at hv
        generalize hu : a.eval x = u at hv
        cases hv
        exact wp_cond_true hu (hrec nt y y' hy φ w st st' a ex Q hs hr h hQ)
      · rename_i hb
        rw [hb] at hv
        generalize hu : a.eval x = u at hv
        cases hv
        exact wp_cond_false hu (hrec nt z z' hz φ w st st' a ex Q hs hr h hQ)
      · cases h
    · cases hc
  case block id b =>
    simp only [cCode] at hc
    obtain ⟨b', hb, rfl⟩ := Option.map_eq_some_iff.1 hc
    simp only [vstep] at h
    apply wp_block
    split at h
    · rename_i i st1 h1
      rw [T.beq_dec] at h
      refine hrec nt b b' hb φ w st st1 a (.exit i) _ hs hr h1 fun φ1 a1 w1 hs1 hr1 hu1 hd1 => ?_
      show if i = id then Q .normal a1 w1 else Q (.exit i) a1 w1
      by_cases e : i = id
      · rw [decide_eq_true e, cond_true] at h
        cases h
        rw [if_pos e]
        exact hQ φ1 a1 w1 hs1 hr1 hu1 hd1
      · rw [decide_eq_false e, cond_false] at h
        cases h
        rw [if_neg e]
        exact hQ φ1 a1 w1 hs1 hr1 hu1 hd1
    · rename_i hne
      refine hrec nt b b' hb φ w st st' a ex _ hs hr h fun φ1 a1 w1 hs1 hr1 hu1 hd1 => ?_
      cases ex with
      | normal => exact hQ φ1 a1 w1 hs1 hr1 hu1 hd1
      | exit id => exact absurd h (hne _ _)
      | ret => exact hQ φ1 a1 w1 hs1 hr1 hu1 hd1
  case loop b =>
    simp only [cCode] at hc
    obtain ⟨b', hb, rfl⟩ := Option.map_eq_some_iff.1 hc
    exact (loop_ok hrec hloop nt b b' hb φ w st st' a ex Q hs hr h hQ).wp
  case exit id =>
    cases hc
    cases h
    exact wp_exit (hQ φ a w hs hr (UpdH.refl _ _ _) rfl)
  case ret =>
    cases hc
    cases h
    exact wp_ret (hQ φ a w hs hr (UpdH.refl _ _ _) rfl)

end
end Go.Proofs.Ytinonmcnofjeeaa.VM
