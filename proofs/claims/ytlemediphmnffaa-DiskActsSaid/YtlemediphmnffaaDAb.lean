/- Part of a proof: what stands for the program, and its walk. No condition. -/
import Derived.Below
import Derived.Deep.DeepAppendWide
import Derived.Laws.Cells
import Derived.Laws.IdiomCopy
import Derived.MapKept
import Derived.OrdersIn
import Derived.RangeFuncLeaves
import Derived.RangeFuncRecord
import Derived.WalkKit
import Derived.WalkLawsBesides
import GoSem.Claim
import Derived.Test.YtlemediphmnffaaDAa
set_option linter.unusedSimpArgs false
set_option linter.unusedVariables false
set_option linter.defProp false
set_option maxHeartbeats 1000000
namespace Go.Proofs.Ytlemediphmnffaa.VM
open Go.RowKit
/-- the body of a loop over a map -/
def rgBody (it out nx mr nxt pr : Nat) (as : List VO) (body : VCode) : VCode :=
  .seq (.ops [⟨some nx, none, .next (.t it)⟩, ⟨some mr, none, .extract (.t nx) 0⟩]) (.seq (.cond (.t mr) .skip (.exit out)) (.block nxt (.seq (.ops (⟨some pr, none, .entry (.t it)⟩ :: as)) body)))
theorem mkSeq_cases (a b : VCode) : mkSeq a b = .seq a b ∨ ∃ l it x out nx mr nxt pr as body, mkSeq a b = .rangeM l it x out nx mr nxt pr as body ∧ a = .ops (l ++ [⟨some it, none, .range x⟩]) ∧
    b = .block out (.loop (rgBody it out nx mr nxt pr as body)) ∧ nxt ≠ out := by
  unfold mkSeq rangeOf
  split
  · rename_i l out nx i1 mr nx2 mr2 out2 nxt pr i2 as body
    split
    · rename_i it x hl
      split
      · rename_i hc
        obtain ⟨rfl, rfl, rfl, rfl, rfl, hne⟩ := hc
        refine .inr ⟨_, _, _, _, _, _, _, _, _, _, rfl, ?_, rfl, hne⟩
        congr 1
        obtain ⟨hne2, e⟩ := List.getLast?_eq_some_iff.1 hl
        rw [e]
        simp
      · exact .inl rfl
    · exact .inl rfl
  · exact .inl rfl
/-- no fence; in a round's frame or not -/
abbrev fen (ρ : Option Nat) : Fence := { Fence.wide with round := ρ }
/-- A call comes to this, in every world in which arguments and memory stand for the program's. -/
def OK0 (P : Program) (f : Nat) (args : List AV) (h : Heap) (v : AV) (h' : Heap) : Prop := f < YB ∧ Enters P f ∧
    ∀ (φ : Env) (w : World) (us : Array Value), HR φ w h → VRs φ w args us.toList →
      Calls P f us w (fun e w' => ∃ φ' u, e = .returned u ∧ VR φ' w' v u ∧ HR φ' w' h' ∧ UpdH φ w h φ' w' h')
/-- the same of a call of yield -/
def OKY (P : Program) (f : Nat) (args : List AV) (h : Heap) (v : AV) (h' : Heap) : Prop := YB ≤ f ∧ (∃ r, h.get (f - YB) = some (.loop r)) ∧
    ∀ (φ : Env) (w : World) (us : Array Value), HR φ w h → VRs φ w args us.toList → ∀ (B o : Nat) (rec : Loop), φ (f - YB) = some (B, o) → w.heap[B]? = some (.loop rec) → us.size = rec.params.size ∧
      RoundIn (fen none) 0 P B rec.fn ((rec.params.zip us).foldl (fun tmps (t, a) => tmps.setIfInBounds t a) rec.tmps) rec.assign rec.body w (fun e w' => ∃ φ' u, e = .returned u ∧ VR φ' w' v u ∧ HR φ' w' h' ∧ UpdH φ w h φ' w' h')
def OK (P : Program) (f : Nat) (args : List AV) (h : Heap) (v : AV) (h' : Heap) : Prop := OK0 P f args h v h' ∨ OKY P f args h v h'
theorem OK.old {P : Program} {f : Nat} {args : List AV} {h h' : Heap} {v : AV} (o : OK P f args h v h') (hn : (∀ r, h.get (f - YB) ≠ some (.loop r)) ∨ f < YB) : OK0 P f args h v h' := by
  rcases o with o | ⟨h1, ⟨r, h2⟩, _⟩
  · exact o
  · rcases hn with hn | hn
    · exact absurd h2 (hn r)
    · exact absurd h1 (Nat.not_le.2 hn)
/-- A told function stands for the program's. -/
def CallOk (P : Program) (call : Nat → List AV → Heap → Option (AV × Heap)) : Prop :=
  ∀ (f : Nat) (args : List AV) (h : Heap) (v : AV) (h' : Heap), call f args h = some (v, h') → OK P f args h v h'
section
variable {P : Program} {φ : Env} {w : World} {nt : Nat} {st st' : St} {a : Act} {ops : Array Oper} {ρ : Option Nat}
theorem coper_spec {o : Oper} {vo : VO} (h : cOper P nt ops o = some vo) : vo.op = (cOp P o).getD .bad ∧ vo.dst = o.dst ∧ o.dst.all (· < nt) = true ∧
    ((o.guard = none ∧ vo.guard = none) ∨ ∃ j want t, o.guard = some (j, want) ∧ (ops[j]?).bind (·.dst) = some t ∧ vo.guard = some (t, want)) := by
  unfold cOper at h
  simp only at h
  split at h
  · rename_i hd
    split at h
    · rename_i hg
      cases h
      exact ⟨rfl, rfl, hd, .inl ⟨hg, rfl⟩⟩
    · rename_i j want hg
      split at h
      · rename_i t ht
        cases h
        exact ⟨rfl, rfl, hd, .inr ⟨j, want, t, hg, ht, rfl⟩⟩
      · cases h
  · cases h
theorem wanted_ok (hs : SR φ w nt st a) {o : Oper} {vo : VO} (h : cOper P nt ops o = some vo) : Region.wanted o (yielded ops a.tmps) = wanted st vo.guard := by
  obtain ⟨_, _, _, ⟨h1, h2⟩ | ⟨j, want, t, h1, h2, h3⟩⟩ := coper_spec h
  · rw [h2]
    simp [Region.wanted, h1, wanted]
  · rw [h3]
    have hv := hs.get t
    simp only [Region.wanted, h1, wanted, yielded, h2, Option.bind_some]
    cases ht : a.tmps[t]? with
    | none =>
      rw [Array.getD_eq_getD_getElem?, ht] at hv
      revert hv
      generalize st.get t = x
      intro hv
      cases x <;> first | rfl | cases hv
    | some v =>
      rw [Array.getD_eq_getD_getElem?, ht] at hv
      revert hv
      generalize st.get t = x
      intro hv
      simp only [Option.getD_some] at hv
      cases hv
      case undef hh => cases v <;> first | rfl | cases hh
      all_goals first
        | rfl
        | (rename_i b; cases b <;> cases want <;> rfl)
theorem St.put_h (st : St) (d : Option Nat) (v : AV) : (st.put d v).h = st.h := by cases d <;> rfl
theorem cop_defer {o : Oper} {op : VOp} (h : cOp P o = some op) : ∀ c, o.op ≠ .defer c := by
  intro c e
  unfold cOp at h
  rw [e] at h
  cases h
theorem vdo_ok {call : Nat → List AV → Heap → Option (AV × Heap)} (hcall : CallOk P call) {o : Oper} {vo : VO} (ho : cOper P nt ops o = some vo) (hs : SR φ w nt st a) (hr : HR φ w st.h) {nm : Nat} (hn : st.h.get nm = none)
    (h : vdo call st nm vo = some st') {K : Act → World → Prop} {Q : Exit → Act → World → Prop}
    (hK : ∀ φ' a' w', SR φ' w' nt st' a' → HR φ' w' st'.h → UpdH φ w st.h φ' w' st'.h → a'.defers = a.defers → K a' w') :
    if Region.wanted o (yielded ops a.tmps) then o.wpIn (fen ρ) 0 P a w K Q else (∀ f, o.about P w a.eval = some f → (fen ρ).fn f) ∧ K (a.put o.dst undef) w := by
  have hput : ∀ (d : Option Tmp) (u : Value), (a.put d u).defers = a.defers := by
    intro d u; cases d <;> rfl
  rw [wanted_ok hs ho]
  obtain ⟨hop, hdst, hlt, _⟩ := coper_spec ho
  unfold vdo at h
  cases hw : wanted st vo.guard with
  | false =>
    rw [hw] at h
    cases h
    simp only [Bool.false_eq_true, if_false]
    refine ⟨fun _ _ => trivial, ?_⟩
    refine hK φ _ w ?_ (by rw [St.put_h]; exact hr) (by rw [St.put_h]; exact UpdH.refl _ _ _) (hput _ _)
    rw [hdst]
    exact hs.put hlt (.undef rfl) st.h
  | true =>
    rw [hw, cond_true] at h
    simp only [if_true]
    cases hc : cOp P o with
    | none =>
      rw [hop, hc] at h
      cases h
    | some op =>
      rw [hop, hc, Option.getD_some] at h
      have hok := cop_ok hs hr hc (nm := nm) hn
      unfold Oper.wpIn
      refine ⟨fun _ _ => trivial, ?_⟩
      rw [Oper.semAt_eq _ _ _ (cop_defer hc)]
      cases hv : vop st nm op with
      | fail => rw [hv] at h; cases h
      | val v h1 =>
        rw [hv] at h hok
        cases h
        obtain ⟨φ', n, w', e1, e2, e3, e4⟩ := hok
        rw [e1]
        rcases e2 with ⟨u, rfl, hvu⟩ | ⟨rfl, rfl⟩
        · rw [Oper.uponIn_value]
          refine hK φ' _ w' ?_ (by rw [St.put_h]; exact e3) (by rw [St.put_h]; exact e4) (hput _ _)
          rw [hdst]
          exact (hs.upd e4.toUpd).put hlt hvu h1
        · rw [Oper.uponIn_skip]
          refine hK φ' _ w' ?_ (by rw [St.put_h]; exact e3) (by rw [St.put_h]; exact e4) (hput _ _)
          rw [hdst]
          exact (hs.upd e4.toUpd).put hlt (.undef rfl) h1
      | enter f args =>
        rw [hv] at h hok
        simp only at h
        split at h
        · rename_i v h1 hcl
          cases h
          rcases hcall f args st.h v h1 hcl with ⟨hly, he, hcs⟩ | ⟨hle, ⟨r, hr0⟩, hcs⟩
          · obtain ⟨us, e1, e2⟩ := hok.1 hly he
            rw [e1, Oper.uponIn_enter]
            refine ⟨fun h => (by cases h), CallsIn.mono (callsIn_wide.2 (hcs φ w us hr e2) : CallsIn Fence.wide 0 P f us w _) ?_⟩
            rintro e w' ⟨φ', u, rfl, hvu, hr', hu⟩
            refine hK φ' _ w' ?_ (by rw [St.put_h]; exact hr') (by rw [St.put_h]; exact hu) (hput _ _)
            rw [hdst]
            exact (hs.upd hu.toUpd).put hlt hvu h1
          · obtain ⟨us, e2, e1⟩ := hok.2 hle
            have hb := hr.blk (f - YB)
            rw [hr0] at hb
            obtain ⟨B, o', rec, b1, b2, b3⟩ := hb
            obtain ⟨h5, h6⟩ := hcs φ w us hr e2 B o' rec b1 b2
            rw [e1 B o' rec b1 b2 h5, Oper.uponIn_round]
            refine ⟨fun h => (by cases h), RoundIn.mono h6 ?_⟩
            rintro e w' ⟨φ', u, rfl, hvu, hr', hu⟩
            refine hK φ' _ w' ?_ (by rw [St.put_h]; exact hr') (by rw [St.put_h]; exact hu) (hput _ _)
            rw [hdst]
            exact (hs.upd hu.toUpd).put hlt hvu h1
        · cases h
/-- operations by their places -/
inductive Rel (P : Program) (nt : Nat) (ops : Array Oper) : List Nat → List VO → Prop
  | nil : Rel P nt ops [] []
  | cons {i : Nat} {o : Oper} {vo : VO} {is : List Nat} {l : List VO} (h1 : ops[i]? = some o) (h2 : cOper P nt ops o = some vo) (t : Rel P nt ops is l) : Rel P nt ops (i :: is) (vo :: l)
theorem vops_ok {call : Nat → List AV → Heap → Option (AV × Heap)} (hcall : CallOk P call) {Q : Exit → Act → World → Prop} : ∀ {is : List Nat} {l : List VO}, Rel P nt ops is l → ∀ {φ : Env} {w : World} {st st' : St} {a : Act}, SR φ w nt st a → HR φ w st.h →
    vops call l st = some st' → (∀ φ' a' w', SR φ' w' nt st' a' → HR φ' w' st'.h → UpdH φ w st.h φ' w' st'.h → a'.defers = a.defers → Q .normal a' w') → wpOpsIn (fen ρ) 0 P ops Q is a w
  | _, _, .nil, φ, w, st, st', a, hs, hr, h, hQ => by
    cases h
    exact hQ φ a w hs hr (UpdH.refl _ _ _) rfl
  | i :: is, vo :: l, .cons (o := o) h1 h2 t, φ, w, st, st', a, hs, hr, h, hQ => by
    simp only [vops] at h
    split at h
    · rename_i st1 hd
      simp only [wpOpsIn, h1]
      refine vdo_ok hcall h2 hs hr (hr.next _ (Nat.le_refl _)) hd fun φ1 a1 w1 hs1 hr1 hu1 hd1 => ?_
      exact vops_ok hcall t hs1 hr1 h fun φ2 a2 w2 hs2 hr2 hu2 hd2 => hQ φ2 a2 w2 hs2 hr2 (hu1.trans hu2) (hd2.trans hd1)
    · cases h
theorem rel_of : ∀ (os : List Oper) (l : List VO) (k : Nat), os.mapM (cOper P nt ops) = some l → (∀ j, j < os.length → ops[k + j]? = os[j]?) → Rel P nt ops (List.range' k os.length) l
  | [], l, k, h, _ => by
    simp at h; subst h; exact .nil
  | o :: os, l, k, h, hj => by
    simp only [List.mapM_cons, Option.bind_eq_bind, Option.bind_eq_some_iff, Option.pure_def, Option.some.injEq] at h
    obtain ⟨vo, h1, l', h2, rfl⟩ := h
    rw [List.length_cons, List.range'_succ]
    refine .cons (by simpa using hj 0 (by simp)) h1 (rel_of os l' (k + 1) h2 fun j hlt => ?_)
    have := hj (j + 1) (by simpa using hlt)
    rw [show k + 1 + j = k + (j + 1) by omega]
    simpa using this
theorem rel_all {l : List VO} (h : cOpers P nt ops = some l) : Rel P nt ops (List.range ops.size) l := by
  have := rel_of (P := P) (nt := nt) (ops := ops) ops.toList l 0 h (fun j _ => by simp)
  rw [List.range_eq_range']
  simpa using this
def LoopWp (ρ : Option Nat) (P : Program) (c : Code) (Q : Exit → Act → World → Prop) (a : Act) (w : World) : Prop :=
  ∀ (b : Frame) (k : List Item) (cs : List Frame), b.roundOf = ρ → ∃ e a' w', Q e a' w' ∧ ArrivesIn (Machine.fenced P (fen ρ)) P (lone (b.atR a (.code c :: .inLoop c :: k)) cs w) b k cs e a' w'
theorem LoopWp.wp {c : Code} {Q : Exit → Act → World → Prop} (h : LoopWp ρ P c Q a w) : (Code.loop c).wpIn (fen ρ) 0 P Q a w := by
  intro b k cs hro hb hr
  obtain ⟨e, a', w', hq, harr⟩ := h b k cs hro
  exact ⟨e, a', w', hq, .of_steps (.one (fenced_calm hb hr rfl) stepR_loop) harr⟩
theorem LoopWp.round {c : Code} {Q : Exit → Act → World → Prop} (h : c.wpIn (fen ρ) 0 P (Exit.then (LoopWp ρ P c Q) Q) a w) : LoopWp ρ P c Q a w := by
  intro b k cs hro
  have hb : (fen ρ).fn b.fn := trivial
  have hr : (fen ρ).room (cs.length + 1 + 0) := fun _ h => by cases h
  obtain ⟨e, a₁, w₁, hq, harr⟩ := h b (.inLoop c :: k) cs hro hb hr
  cases e with
  | normal =>
    obtain ⟨e₂, a₂, w₂, hq₂, harr₂⟩ := hq b k cs hro
    exact ⟨e₂, a₂, w₂, hq₂, .of_steps (StepsIn.trans harr (.one (fenced_calm hb hr rfl) stepR_inLoop)) harr₂⟩
  | exit id => exact ⟨_, a₁, w₁, hq, .pass (x := .inLoop c) rfl (fun _ _ => .inl (by simp)) harr⟩
  | goto l => exact ⟨_, a₁, w₁, hq, .pass (x := .inLoop c) rfl (fun _ _ => .inl (by simp)) harr⟩
  | ret => exact ⟨_, a₁, w₁, hq, .pass (x := .inLoop c) rfl (fun _ _ => .inl (by simp)) harr⟩
  | panic ch => exact ⟨_, a₁, w₁, hq, .pass (x := .inLoop c) rfl (fun _ _ => .inl (by simp)) harr⟩
  | outgrown => exact ⟨_, a₁, w₁, hq, .pass (x := .inLoop c) rfl (fun _ _ => .inl (by simp)) harr⟩
def Ex.out : Ex → Exit
  | .normal => .normal
  | .exit id => .exit id
  | .ret => .ret
/-- a drawn region, in whatever order -/
def DrawnOk (P : Program) : Prop := ∀ (ρ : Option Nat) (nt : Nat) (id : Nat) (ops : Array Oper) (vc : VCode), cCode P nt (.region id ops true) = some vc → ∀ (call : Nat → List AV → Heap → Option (AV × Heap)) (rec : VCode → St → Option (Ex × St)), CallOk P call →
  ∀ (φ : Env) (w : World) (st st' : St) (a : Act) (ex : Ex) (Q : Exit → Act → World → Prop), SR φ w nt st a → HR φ w st.h → vstep call rec vc st = some (ex, st') →
    (∀ φ' a' w', SR φ' w' nt st' a' → HR φ' w' st'.h → UpdH φ w st.h φ' w' st'.h → a'.defers = a.defers → Q ex.out a' w') → (Code.region id ops true).wpIn (fen ρ) 0 P Q a w
def ExecOk (P : Program) (exec : VCode → St → Option (Ex × St)) : Prop := ∀ (ρ : Option Nat) (nt : Nat) (c : Code) (vc : VCode), cCode P nt c = some vc → ∀ (φ : Env) (w : World) (st st' : St) (a : Act) (ex : Ex) (Q : Exit → Act → World → Prop),
  SR φ w nt st a → HR φ w st.h → exec vc st = some (ex, st') → (∀ φ' a' w', SR φ' w' nt st' a' → HR φ' w' st'.h → UpdH φ w st.h φ' w' st'.h → a'.defers = a.defers → Q ex.out a' w') → c.wpIn (fen ρ) 0 P Q a w
def LoopOk (P : Program) (exec : VCode → St → Option (Ex × St)) : Prop := ∀ (ρ : Option Nat) (nt : Nat) (c : Code) (vc : VCode), cCode P nt c = some vc → ∀ (φ : Env) (w : World) (st st' : St) (a : Act) (ex : Ex) (Q : Exit → Act → World → Prop),
  SR φ w nt st a → HR φ w st.h → exec (.loop vc) st = some (ex, st') → (∀ φ' a' w', SR φ' w' nt st' a' → HR φ' w' st'.h → UpdH φ w st.h φ' w' st'.h → a'.defers = a.defers → Q ex.out a' w') → LoopWp ρ P c Q a w
theorem loop_ok {call : Nat → List AV → Heap → Option (AV × Heap)} {rec : VCode → St → Option (Ex × St)} (hrec : ExecOk P rec) (hloop : LoopOk P rec) : LoopOk P (vstep call rec) := by
  intro ρ nt c vc hc φ w st st' a ex Q hs hr h hQ
  simp only [vstep] at h
  apply LoopWp.round
  split at h
  · rename_i st1 h1
    refine hrec ρ nt c vc hc φ w st st1 a .normal _ hs hr h1 fun φ1 a1 w1 hs1 hr1 hu1 hd1 => ?_
    exact hloop ρ nt c vc hc φ1 w1 st1 st' a1 ex Q hs1 hr1 h fun φ2 a2 w2 hs2 hr2 hu2 hd2 => hQ φ2 a2 w2 hs2 hr2 (hu1.trans hu2) (hd2.trans hd1)
  · rename_i hne
    refine hrec ρ nt c vc hc φ w st st' a ex _ hs hr h fun φ1 a1 w1 hs1 hr1 hu1 hd1 => ?_
    cases ex with
    | normal => exact absurd h (hne _)
    | exit id => exact hQ φ1 a1 w1 hs1 hr1 hu1 hd1
    | ret => exact hQ φ1 a1 w1 hs1 hr1 hu1 hd1
theorem exec_ok (hD : DrawnOk P) {call : Nat → List AV → Heap → Option (AV × Heap)} (hcall : CallOk P call) {rec : VCode → St → Option (Ex × St)} (hrec : ExecOk P rec) (hloop : LoopOk P rec) : ExecOk P (vstep call rec) := by
  intro ρ nt c vc hc φ w st st' a ex Q hs hr h hQ
  cases c <;> try (simp only [cCode] at hc; cases hc; cases h; done)
  case rangeFunc =>
    simp only [cCode] at hc
    split at hc
    · split at hc
      · cases hc; cases h
      · cases hc
    · cases hc
  case skip =>
    cases hc
    cases h
    exact wpIn_skip (hQ φ a w hs hr (UpdH.refl _ _ _) rfl)
  case region id ops dr =>
    cases dr with
    | false =>
      simp only [cCode] at hc
      obtain ⟨l, hl, rfl⟩ := Option.map_eq_some_iff.1 hc
      simp only [vstep] at h
      split at h
      · rename_i st1 h1
        cases h
        exact wpIn_region (vops_ok hcall (rel_all hl) hs hr h1 hQ)
      · cases h
    | true => exact hD ρ nt id ops vc hc call rec hcall φ w st st' a ex Q hs hr h hQ
  case seq x y =>
    simp only [cCode] at hc
    split at hc
    · rename_i x' y' hx hy
      cases hc
      have hms : mkSeq x' y' = .seq x' y' := by
        rcases mkSeq_cases x' y' with e | ⟨l, it, xx, out, nx, mr, nxt, pr, as, body, e, _⟩
        · exact e
        · rw [e] at h; cases h
      rw [hms] at h
      simp only [vstep] at h
      apply wpIn_seq
      split at h
      · rename_i st1 h1
        refine hrec ρ nt x x' hx φ w st st1 a .normal _ hs hr h1 fun φ1 a1 w1 hs1 hr1 hu1 hd1 => ?_
        exact hrec ρ nt y y' hy φ1 w1 st1 st' a1 ex Q hs1 hr1 h fun φ2 a2 w2 hs2 hr2 hu2 hd2 => hQ φ2 a2 w2 hs2 hr2 (hu1.trans hu2) (hd2.trans hd1)
      · rename_i hne
        refine hrec ρ nt x x' hx φ w st st' a ex _ hs hr h fun φ1 a1 w1 hs1 hr1 hu1 hd1 => ?_
        cases ex with
        | normal => exact absurd h (hne _)
        | exit id => exact hQ φ1 a1 w1 hs1 hr1 hu1 hd1
        | ret => exact hQ φ1 a1 w1 hs1 hr1 hu1 hd1
    · cases hc
  case cond x y z =>
    simp only [cCode] at hc
    split at hc
    · rename_i x' y' z' hx hy hz
      cases hc
      simp only [vstep] at h
      have hv := opd_ok hs hx
      split at h
      · rename_i hb
        rw [hb] at hv
        generalize hu : a.eval x = u at hv
        cases hv
        exact wpIn_cond_true hu (hrec ρ nt y y' hy φ w st st' a ex Q hs hr h hQ)
      · rename_i hb
        rw [hb] at hv
        generalize hu : a.eval x = u at hv
        cases hv
        exact wpIn_cond_false hu (hrec ρ nt z z' hz φ w st st' a ex Q hs hr h hQ)
      · cases h
    · cases hc
  case block id b =>
    simp only [cCode] at hc
    obtain ⟨b', hb, rfl⟩ := Option.map_eq_some_iff.1 hc
    simp only [vstep] at h
    apply wpIn_block
    split at h
    · rename_i i st1 h1
      rw [T.beq_dec] at h
      refine hrec ρ nt b b' hb φ w st st1 a (.exit i) _ hs hr h1 fun φ1 a1 w1 hs1 hr1 hu1 hd1 => ?_
      show if i = id then Q .normal a1 w1 else Q (.exit i) a1 w1
      by_cases e : i = id
      · rw [decide_eq_true e, cond_true] at h
        cases h
        rw [if_pos e]
        exact hQ φ1 a1 w1 hs1 hr1 hu1 hd1
      · rw [decide_eq_false e, cond_false] at h
        cases h
        rw [if_neg e]
        exact hQ φ1 a1 w1 hs1 hr1 hu1 hd1
    · rename_i hne
      refine hrec ρ nt b b' hb φ w st st' a ex _ hs hr h fun φ1 a1 w1 hs1 hr1 hu1 hd1 => ?_
      cases ex with
      | normal => exact hQ φ1 a1 w1 hs1 hr1 hu1 hd1
      | exit id => exact absurd h (hne _ _)
      | ret => exact hQ φ1 a1 w1 hs1 hr1 hu1 hd1
  case loop b =>
    simp only [cCode] at hc
    obtain ⟨b', hb, rfl⟩ := Option.map_eq_some_iff.1 hc
    exact (loop_ok hrec hloop ρ nt b b' hb φ w st st' a ex Q hs hr h hQ).wp
  case exit id =>
    cases hc
    cases h
    exact wpIn_exit (hQ φ a w hs hr (UpdH.refl _ _ _) rfl)
  case ret =>
    cases hc
    cases h
    exact wpIn_ret (hQ φ a w hs hr (UpdH.refl _ _ _) rfl)
end
open Go.RowKit
/-- The table holds functions of the program. -/
def TableOk (P : Program) (F : Nat → Option VFun) : Prop := ∀ f vf, F f = some vf → f < YB ∧ ∃ fn, P.funcs[f]? = some fn ∧ cFun P fn = some vf ∧ fn.name ≠ "runtime.NumGoroutine"
section
variable {P : Program} {φ : Env} {w : World} {nt : Nat} {st st' : St} {a : Act}
theorem argsT_get : ∀ (l : List AV) (i : Nat) (t : T AV) (j : Nat), (argsT l i t).get j = if i ≤ j ∧ j < i + l.length then l[j - i]? else t.get j
  | [], i, t, j => by
    rw [argsT, if_neg (fun h => by simp at h; omega)]
  | v :: l, i, t, j => by
    rw [argsT, argsT_get l (i + 1) _ j, T.get_set, List.length_cons]
    by_cases e : j = i
    · subst e
      rw [if_neg (by omega), if_pos rfl, if_pos (by omega)]
      simp
    · rw [if_neg e]
      by_cases h : i + 1 ≤ j ∧ j < i + 1 + l.length
      · rw [if_pos h, if_pos (by omega)]
        rw [show j - i = (j - (i + 1)) + 1 by omega, List.getElem?_cons_succ]
      · rw [if_neg h, if_neg (by omega)]
theorem start_ok {args : List AV} {us : Array Value} (h : VRs φ w args us.toList) {nt : Nat} (hle : args.length ≤ nt) (H : Heap) :
    SR φ w nt ⟨argsT args 0 .e, H⟩ { tmps := us ++ Array.replicate (nt - us.size) undef, defers := [] } := by
  have hl : args.length = us.size := by simpa using h.length
  refine ⟨by simp; omega, fun t => ?_⟩
  show VR φ w ((argsT args 0 .e).get t |>.getD .undef) _
  rw [argsT_get, T.get_e, Nat.zero_add, Nat.sub_zero]
  by_cases ht : t < args.length
  · rw [if_pos ⟨Nat.zero_le _, ht⟩]
    obtain ⟨u, h1, h2⟩ := h.get (List.getElem?_eq_getElem ht)
    rw [List.getElem?_eq_getElem ht, Option.getD_some]
    have : (us ++ Array.replicate (nt - us.size) undef).getD t undef = u := by
      rw [Array.getD_eq_getD_getElem?, Array.getElem?_append_left (by omega)]
      rw [Array.getElem?_toList] at h1
      rw [h1]; rfl
    rw [this]
    exact h2
  · rw [if_neg (by omega), Option.getD_none]
    have : (us ++ Array.replicate (nt - us.size) undef).getD t undef = undef := by
      rw [Array.getD_eq_getD_getElem?, Array.getElem?_append_right (by omega), Array.getElem?_replicate]
      split <;> rfl
    rw [this]
    exact .undef rfl
theorem resOf_ok (hs : SR φ w nt st a) (hr : HR φ w st.h) {r : ResultVar} {vr : VRes} (hc : cRes P r = some vr) {v : AV} (h : resOf st vr = some v) :
    ∃ u, (match r with | .tmp t => pure (a.tmps.getD t undef) | .cell x t => do loadVar t (← asAddr (a.tmps.getD x undef)) : Sem Value).run P w = .ok u w ∧ VR φ w v u := by
  cases r with
  | tmp t =>
    cases hc
    cases h
    exact ⟨_, rfl, hs.get t⟩
  | cell x t =>
    simp only [cRes] at hc
    split at hc
    · rename_i ht
      cases hc
      simp only [resOf] at h
      have hv := hs.get x
      split at h
      · rename_i b off hb
        rw [hb] at hv
        split at h
        · rename_i l e ver hg
          obtain ⟨B', o', e', n, h1, h2, h3, h4, _⟩ := hr.cells hg
          generalize hu : a.tmps.getD x undef = u at hv
          cases hv with
          | ptr hb' =>
            rw [hb'] at h1
            cases h1
            obtain ⟨u, hu', hv'⟩ := load_ok ht h3 h
            exact ⟨u, by simp only [hu]; simpa [asAddr] using hu', hv'⟩
        · cases h
      · cases h
    · cases hc
theorem resAll_ok (hs : SR φ w nt st a) (hr : HR φ w st.h) : ∀ {rs : List ResultVar} {vrs : List VRes}, rs.mapM (cRes P) = some vrs → ∀ {vs : List AV}, vrs.mapM (resOf st) = some vs →
    ∃ us, (rs.mapM fun r => (match r with | .tmp t => pure (a.tmps.getD t undef) | .cell x t => do loadVar t (← asAddr (a.tmps.getD x undef)) : Sem Value)).run P w = .ok us w ∧ VRs φ w vs us
  | [], vrs, h, vs, h' => by
    simp at h; subst h
    simp at h'; subst h'
    exact ⟨[], rfl, .nil⟩
  | r :: rs, vrs, h, vs, h' => by
    simp only [List.mapM_cons, Option.bind_eq_bind, Option.bind_eq_some_iff, Option.pure_def, Option.some.injEq] at h
    obtain ⟨vr, h1, l', h2, rfl⟩ := h
    simp only [List.mapM_cons, Option.bind_eq_bind, Option.bind_eq_some_iff, Option.pure_def, Option.some.injEq] at h'
    obtain ⟨v, g1, vs', g2, rfl⟩ := h'
    obtain ⟨u, a1, a2⟩ := resOf_ok hs hr h1 g1
    obtain ⟨us, b1, b2⟩ := resAll_ok hs hr h2 g2
    refine ⟨u :: us, ?_, .cons a2 b2⟩
    rw [List.mapM_cons, Sem.run_bind, a1, Result.andThen_ok, Sem.run_bind, b1, Result.andThen_ok]
    rfl
theorem results_ok (hs : SR φ w nt st a) (hr : HR φ w st.h) {fn : Func} {vrs : List VRes} (hc : fn.results.toList.mapM (cRes P) = some vrs) {v : AV} (h : VM.results st vrs = some v) :
    ∃ u, (Go.results fn a.tmps).run P w = .ok u w ∧ VR φ w v u := by
  unfold VM.results at h
  have run : ∀ {vs : List AV}, vrs.mapM (resOf st) = some vs → ∃ us : List Value, (Go.results fn a.tmps).run P w = .ok (if h : us.toArray.size = 1 then us.toArray[0] else .tuple us.toArray) w ∧ VRs φ w vs us := by
    intro vs hvs
    obtain ⟨us, h1, h2⟩ := resAll_ok hs hr hc hvs
    refine ⟨us, ?_, h2⟩
    unfold Go.results
    rw [Sem.run_bind, Array.mapM_eq_mapM_toList, Sem.run_map]
    erw [h1]
    rfl
  split at h
  · rename_i v' hv
    cases h
    obtain ⟨us, h1, h2⟩ := run hv
    cases h2 with
    | cons hx t =>
      cases t
      exact ⟨_, h1, hx⟩
  · rename_i vs hne hv
    cases h
    obtain ⟨us, h1, h2⟩ := run hv
    refine ⟨_, h1, ?_⟩
    have : ¬ us.toArray.size = 1 := by
      intro e
      have hl := h2.length
      simp at e
      rw [e] at hl
      match vs, hl with
      | [x], _ => exact hne x rfl
    rw [dif_neg this]
    exact .tup (by simpa using h2)
  · cases h
theorem vcall_step {F : Nat → Option VFun} {X : Told} (hF : TableOk P F) (hX : CallOk P X) {exec : VCode → St → Option (Ex × St)} (hE : ExecOk P exec) :
    CallOk P (fun f args h => match X f args h with
    | some r => some r
    | none => match F f with
      | none => none
      | some fn => bif Nat.beq args.length fn.nargs then
          match exec fn.body ⟨argsT args 0 .e, h⟩ with
          | some (.normal, st) | some (.ret, st) => (VM.results st fn.res).map fun v => (v, st.h)
          | _ => none
        else none) := by
  intro f args h v h' hcall
  simp only at hcall
  split at hcall
  · rename_i r hx
    cases hcall
    exact hX f args h v h' hx
  · split at hcall
    · cases hcall
    · rename_i vf hf
      obtain ⟨hlt, fn, e1, e2, e3⟩ := hF f vf hf
      rw [T.beq_dec] at hcall
      by_cases hl : args.length = vf.nargs
      · rw [decide_eq_true hl, cond_true] at hcall
        unfold cFun at e2
        split at e2
        · cases e2
        · rename_i c hb
          split at e2
          · rename_i vc vr hc hvr
            split at e2
            · rename_i hle
              cases e2
              refine .inl ⟨hlt, ⟨fn, e1, by rw [hb]; rfl, e3⟩, fun φ w us hr hus => ?_⟩
              apply calls_of_wp e1 hb
              have hs0 := start_ok (φ := φ) (w := w) hus (nt := fn.ntmps) (by rw [hl]; exact hle) h
              have fin : ∀ (st : St) (ex : Ex), (ex = .normal ∨ ex = .ret) → exec vc ⟨argsT args 0 .e, h⟩ = some (ex, st) → (VM.results st vr).map (fun v => (v, st.h)) = some (v, h') →
                  c.wp P (bodyPost P fn (fun e w' => ∃ φ' u, e = .returned u ∧ VR φ' w' v u ∧ HR φ' w' h' ∧ UpdH φ w h φ' w' h')) { tmps := us ++ Array.replicate (fn.ntmps - us.size) undef, defers := [] } w := by
                intro st ex hex he hres
                obtain ⟨v1, hv1, hv2⟩ := Option.map_eq_some_iff.1 hres
                cases hv2
                refine wpIn_wide.1 (hE none fn.ntmps c vc hc φ w _ st _ ex _ hs0 hr he fun φ1 a1 w1 hs1 hr1 hu1 hd1 => ?_)
                obtain ⟨u, g1, g2⟩ := results_ok hs1 hr1 hvr hv1
                rcases hex with rfl | rfl
                · exact ⟨hd1, u, g1, φ1, u, rfl, g2, hr1, hu1⟩
                · exact ⟨hd1, u, g1, φ1, u, rfl, g2, hr1, hu1⟩
              split at hcall
              · rename_i st he
                exact fin st .normal (.inl rfl) he hcall
              · rename_i st he
                exact fin st .ret (.inr rfl) he hcall
              · cases hcall
            · cases e2
          · cases e2
      · rw [decide_eq_false hl, cond_false] at hcall
        cases hcall
theorem vm_ok (hD : DrawnOk P) {F : Nat → Option VFun} {X : Told} (hF : TableOk P F) (hX : CallOk P X) : ∀ n, ExecOk P (vexec F X n) ∧ LoopOk P (vexec F X n) ∧ CallOk P (vcall F X n)
  | 0 => by
    refine ⟨?_, ?_, ?_⟩
    · intro ρ nt c vc hc φ w st st' a ex Q hs hr h
      simp [vexec] at h
    · intro ρ nt c vc hc φ w st st' a ex Q hs hr h
      simp [vexec] at h
    · intro f args h v h' hcall
      simp [vcall] at hcall
  | n + 1 => by
    obtain ⟨h1, h2, h3⟩ := vm_ok hD hF hX n
    have e1 : vexec F X (n + 1) = vstep (vcall F X n) (vexec F X n) := by
      funext c st; rw [vexec]
    refine ⟨?_, ?_, ?_⟩
    · rw [e1]; exact exec_ok hD h3 h1 h2
    · rw [e1]; exact loop_ok h1 h2
    · have := vcall_step hF hX h1
      intro f args h v h' hcall
      rw [vcall] at hcall
      exact this f args h v h' hcall
theorem nothing_told : CallOk P (fun _ _ _ => none) := fun _ _ _ _ _ h => by cases h
end
end Go.Proofs.Ytlemediphmnffaa.VM
namespace Go.Proofs.Ytlemediphmnffaa.VM
open Go.RowKit
mutual
theorem AV.eqb_eq : ∀ {x y : AV}, AV.eqb x y = true → x = y := by
  intro x y h
  cases x <;> cases y <;> simp only [AV.eqb, Bool.false_eq_true, Bool.and_eq_true, decide_eq_true_eq, Nat.beq_eq, beq_iff_eq] at h <;> first
    | rfl
    | (rw [h])
    | (rw [h.1, h.2])
    | (rw [h.1, AV.eqbs_eq h.2])
    | (rw [AV.eqbs_eq h])
    | (obtain ⟨⟨⟨⟨h1, h2⟩, h3⟩, h4⟩, h5⟩ := h; rw [h1, h2, h3, h4, h5])
theorem AV.eqbs_eq : ∀ {l k : List AV}, AV.eqbs l k = true → l = k := by
  intro l k h
  cases l <;> cases k <;> simp only [AV.eqbs, Bool.false_eq_true, Bool.and_eq_true] at h
  · rfl
  · rw [AV.eqb_eq h.1, AV.eqbs_eq h.2]
end
section
variable {st st' : St}
theorem Opd.congr {x : Opd} (h : ∀ t ∈ x.tmp, st.get t = st'.get t) : x.eval st = x.eval st' := by
  cases x with
  | t n => exact h n (by simp [Opd.tmp])
  | c v => rfl
theorem opds_congr {l : List Opd} (h : ∀ t ∈ opdTmps l, st.get t = st'.get t) : l.map (·.eval st) = l.map (·.eval st') := by
  apply List.map_congr_left
  intro x hx
  exact Opd.congr fun t ht => h t (by simp only [opdTmps, List.mem_flatten, List.mem_map]; exact ⟨_, ⟨x, hx, rfl⟩, ht⟩)
theorem parts_congr {l : List (Nat × Nat × Opd)} (h : ∀ t ∈ partTmps l, st.get t = st'.get t) : (l.map fun (o, n, x) => (o, n, x.eval st)) = l.map fun (o, n, x) => (o, n, x.eval st') := by
  apply List.map_congr_left
  intro p hp
  have : p.2.2.eval st = p.2.2.eval st' := Opd.congr fun t ht => h t (by simp only [partTmps, List.mem_flatten, List.mem_map]; exact ⟨_, ⟨p, hp, rfl⟩, ht⟩)
  show (p.1, p.2.1, p.2.2.eval st) = _
  rw [this]
theorem optTmp_congr {x : Option Opd} (h : ∀ t ∈ optTmp x, st.get t = st'.get t) : x.map (·.eval st) = x.map (·.eval st') := by
  cases x with
  | none => rfl
  | some y => simp only [Option.map_some]; rw [Opd.congr h]
theorem vop_congr {op : VOp} (h : ∀ t ∈ op.tmps, st.get t = st'.get t) (hh : st.h = st'.h) (nm : Nat) : vop st nm op = vop st' nm op := by
  have one : ∀ {x : Opd}, (∀ t ∈ x.tmp, st.get t = st'.get t) → x.eval st = x.eval st' := Opd.congr
  cases op <;> simp only [VOp.tmps, List.mem_append] at h
  case bad => rfl
  case range => rfl
  case next => rfl
  case entry => rfl
  case atom k a x => simp only [vop, hh, one fun t ht => h t (.inl ht), one fun t ht => h t (.inr ht)]
  case alloc => simp only [vop, hh]
  case mkmap => simp only [vop, hh]
  case mov x => simp only [vop, hh, one h]
  case box e x => simp only [vop, hh, one h]
  case load a n x => simp only [vop, hh, one h]
  case nilck x => simp only [vop, hh, one h]
  case un o x => simp only [vop, hh, one h]
  case conv c x => simp only [vop, hh, one h]
  case faddr o x => simp only [vop, hh, one h]
  case field a o n x => simp only [vop, hh, one h]
  case extract x i => simp only [vop, hh, one h]
  case pick a b c => simp only [vop, hh, one fun t ht => h t (.inl (.inl ht)), one fun t ht => h t (.inl (.inr ht)), one fun t ht => h t (.inr ht)]
  case build z ps => simp only [vop, hh]; rw [parts_congr h]
  case bslice z e n ps => simp only [vop, hh]; rw [parts_congr h]
  case store n a x => simp only [vop, hh, one fun t ht => h t (.inl ht), one fun t ht => h t (.inr ht)]
  case bin n a x => simp only [vop, hh, one fun t ht => h t (.inl ht), one fun t ht => h t (.inr ht)]
  case eqs n b a x => simp only [vop, hh, one fun t ht => h t (.inl ht), one fun t ht => h t (.inr ht)]
  case iaddr n b a x => simp only [vop, hh, one fun t ht => h t (.inl ht), one fun t ht => h t (.inr ht)]
  case index n b c a x => simp only [vop, hh, one fun t ht => h t (.inl ht), one fun t ht => h t (.inr ht)]
  case indexS a x => simp only [vop, hh, one fun t ht => h t (.inl ht), one fun t ht => h t (.inr ht)]
  case lookup n b c a x => simp only [vop, hh, one fun t ht => h t (.inl ht), one fun t ht => h t (.inr ht)]
  case mkslice n b c a x => simp only [vop, hh, one fun t ht => h t (.inl ht), one fun t ht => h t (.inr ht)]
  case mkfn f l => simp only [vop, hh, opds_congr h]
  case call f l => simp only [vop, hh, opds_congr h]
  case bi b l => simp only [vop, hh, opds_congr h]
  case callv x l => simp only [vop, hh, one fun t ht => h t (.inl ht), opds_congr fun t ht => h t (.inr ht)]
  case slice n x lo hi mx => simp only [vop, hh, one fun t ht => h t (.inl (.inl (.inl ht))), optTmp_congr fun t ht => h t (.inl (.inl (.inr ht))), optTmp_congr fun t ht => h t (.inl (.inr ht)), optTmp_congr fun t ht => h t (.inr ht)]
  case sliceA n m x lo hi mx => simp only [vop, hh, one fun t ht => h t (.inl (.inl (.inl ht))), optTmp_congr fun t ht => h t (.inl (.inl (.inr ht))), optTmp_congr fun t ht => h t (.inl (.inr ht)), optTmp_congr fun t ht => h t (.inr ht)]
  case sliceS x lo hi => simp only [vop, hh, one fun t ht => h t (.inl (.inl ht)), optTmp_congr fun t ht => h t (.inl (.inr ht)), optTmp_congr fun t ht => h t (.inr ht)]
  case mupd c m k v => simp only [vop, hh, one fun t ht => h t (.inl (.inl ht)), one fun t ht => h t (.inl (.inr ht)), one fun t ht => h t (.inr ht)]
/-- an operation that leaves memory as it is, and whose name for a new block does not matter -/
theorem vop_still {op : VOp} (hk : op.kind ≠ 2) (nm nm' : Nat) : vop st nm op = vop st nm' op ∧ (∀ v h, vop st nm op = .val v h → h = st.h) ∧ ∀ f args, vop st nm op ≠ .enter f args := by
  have vO : ∀ {x : Option AV} {v : AV} {h h0 : Heap}, valO h0 x = .val v h → h = h0 := by
    intro x v h h0 e
    cases x with
    | none => cases e
    | some y => cases e; rfl
  have nO : ∀ {x : Option AV} {h0 : Heap} {f : Nat} {args : List AV}, valO h0 x ≠ .enter f args := by
    intro x h0 f args e
    cases x <;> cases e
  have main : ∀ (op : VOp), (match op with | .bi .. | .conv .. => False | _ => True) → op.kind ≠ 2 → vop st nm op = vop st nm' op ∧ (∀ v h, vop st nm op = .val v h → h = st.h) ∧ ∀ f args, vop st nm op ≠ .enter f args := by
    intro op hb hk
    cases op <;> simp only [VOp.kind] at hk <;> try (exact absurd rfl hk)
    case bi => exact hb.elim
    case conv => exact hb.elim
    all_goals
      refine ⟨by simp only [vop], fun v h e => ?_, fun f args e => ?_⟩ <;> simp only [vop] at e
      all_goals (repeat' (split at e)) <;> first
        | (cases e; done)
        | (cases e; rfl)
        | exact vO e
        | exact absurd e nO
  cases op
  case conv c x =>
    simp only [vop]
    generalize x.eval st = y
    cases c <;> simp only [VOp.kind] at hk <;> try (exact absurd rfl hk)
    all_goals
      cases y <;> refine ⟨rfl, fun v h e => ?_, fun f args e => ?_⟩ <;> simp only at e
      all_goals (repeat' (split at e)) <;> first
        | (cases e; done)
        | (cases e; rfl)
        | exact vO e
        | exact absurd e nO
  case bi b l =>
    refine ⟨by simp only [vop], ?_⟩
    simp only [vop]
    generalize l.map (·.eval st) = y
    cases b <;> simp only [VOp.kind] at hk <;> try (exact absurd rfl hk)
    all_goals
      cases y with
      | nil => exact ⟨fun v h e => (by cases e), fun f args e => (by cases e)⟩
      | cons y ys => cases ys with
        | nil =>
          refine ⟨fun v h e => ?_, fun f args e => ?_⟩ <;> simp only at e
          all_goals (repeat' (split at e)) <;> first
            | (cases e; done)
            | (cases e; rfl)
            | exact vO e
            | exact absurd e nO
        | cons z zs =>
          refine ⟨fun v h e => ?_, fun f args e => ?_⟩ <;> first
            | (cases e; done)
            | exact vO e
            | exact absurd e nO
  all_goals exact main _ trivial hk
theorem vop_quiet {s : T AV} {h h1 : Heap} {nm : Nat} {op : VOp} (hk : op.kind = 0) {v : AV} (e : vop ⟨s, h⟩ nm op = .val v h1) (h' : Heap) (nm' : Nat) : vop ⟨s, h'⟩ nm' op = .val v h' := by
  have vO : ∀ {x : Option AV} {v : AV} {h h0 : Heap}, valO h0 x = .val v h → x = some v := by
    intro x v h h0 e
    cases x with
    | none => cases e
    | some y => cases e; rfl
  have ev : ∀ x : Opd, Opd.eval ⟨s, h⟩ x = Opd.eval ⟨s, h'⟩ x := by
    intro x; cases x <;> rfl
  have mv : ∀ {x : Option AV}, valO h x = .val v h1 → valO h' x = .val v h' := by
    intro x e
    rw [vO e]; rfl
  cases op <;> simp only [VOp.kind] at hk <;> try (cases hk; done)
  case conv c x =>
    simp only [vop, ev] at e ⊢
    revert e
    generalize Opd.eval ⟨s, h'⟩ x = y
    intro e
    cases c <;> simp only at hk <;> try (cases hk; done)
    all_goals
      cases y <;> simp only at e <;> first
        | (cases e; done)
        | (cases e; rfl)
  case bi b l =>
    have el : l.map (Opd.eval ⟨s, h⟩) = l.map (Opd.eval ⟨s, h'⟩) := List.map_congr_left fun x _ => ev x
    simp only [vop, el] at e ⊢
    revert e
    generalize l.map (Opd.eval ⟨s, h'⟩) = y
    intro e
    cases b <;> simp only at hk <;> try (cases hk; done)
    all_goals
      cases y with
      | nil => cases e
      | cons y ys => exact mv e
  case mkfn f l =>
    have el : l.map (Opd.eval ⟨s, h⟩) = l.map (Opd.eval ⟨s, h'⟩) := List.map_congr_left fun x _ => ev x
    simp only [vop, el] at e ⊢
    cases e; rfl
  case build z ps =>
    have el : (ps.map fun (o, n, x) => (o, n, Opd.eval ⟨s, h⟩ x)) = (ps.map fun (o, n, x) => (o, n, Opd.eval ⟨s, h'⟩ x)) := List.map_congr_left fun p _ => by
      show (p.1, p.2.1, Opd.eval ⟨s, h⟩ p.2.2) = _
      rw [ev]
    simp only [vop] at e ⊢
    rw [el] at e
    exact mv e
  case slice n x lo hi mx =>
    have eo : ∀ o : Option Opd, o.map (Opd.eval ⟨s, h⟩) = o.map (Opd.eval ⟨s, h'⟩) := by
      intro o; cases o with
      | none => rfl
      | some y => simp only [Option.map_some, ev]
    simp only [vop, ev, eo] at e ⊢
    exact mv e
  case sliceS x lo hi =>
    have eo : ∀ o : Option Opd, o.map (Opd.eval ⟨s, h⟩) = o.map (Opd.eval ⟨s, h'⟩) := by
      intro o; cases o with
      | none => rfl
      | some y => simp only [Option.map_some, ev]
    simp only [vop, ev, eo] at e ⊢
    exact mv e
  all_goals
    simp only [vop, ev] at e ⊢
    first
      | exact mv e
      | (cases e; rfl)
      | (revert e; repeat' split)
  all_goals
    intro e
    first
      | exact mv e
      | (cases e; rfl)
      | (cases e; done)
end
open Go.RowKit
section
variable {call : Nat → List AV → Heap → Option (AV × Heap)} {st st' st1 : St} {o : VO} {nm nm' : Nat}
theorem wanted_congr {g : Option (Nat × Bool)} (h : ∀ t, (∃ b, g = some (t, b)) → st.get t = st'.get t) : wanted st g = wanted st' g := by
  cases g with
  | none => rfl
  | some p =>
    obtain ⟨t, b⟩ := p
    simp only [wanted, h t ⟨b, rfl⟩]
/-- One operation, by its looks and memory alone. -/
theorem vdo_congr (h : ∀ t ∈ o.looks, st.get t = st'.get t) (hh : st.h = st'.h) (e : vdo call st nm o = some st1) :
    ∃ v, st1 = St.put ⟨st.s, st1.h⟩ o.dst v ∧ vdo call st' nm o = some (St.put ⟨st'.s, st1.h⟩ o.dst v) := by
  have hw : wanted st o.guard = wanted st' o.guard := wanted_congr fun t ⟨b, hb⟩ => h t (by simp [VO.looks, hb])
  have ho : vop st nm o.op = vop st' nm o.op := vop_congr (fun t ht => h t (by simp [VO.looks, ht])) hh nm
  unfold vdo at e ⊢
  rw [← hw, ← ho, ← hh]
  cases hwv : wanted st o.guard with
  | false =>
    rw [hwv] at e
    simp only [cond_false, Option.some.injEq] at e ⊢
    subst e
    refine ⟨.undef, by rw [St.put_h], ?_⟩
    rw [St.put_h, hh]
  | true =>
    rw [hwv] at e
    simp only [cond_true] at e ⊢
    split at e
    · cases e
      exact ⟨_, by rw [St.put_h], by simp only [St.put_h]⟩
    · cases e
    · split at e
      · rename_i v h2 hc
        cases e
        exact ⟨v, by rw [St.put_h], by simp only [St.put_h]⟩
      · cases e
theorem vdo_still (hk : o.op.kind ≠ 2) (e : vdo call st nm o = some st1) : st1.h = st.h := by
  obtain ⟨_, h2, h3⟩ := vop_still (st := st) hk nm nm
  unfold vdo at e
  cases hwv : wanted st o.guard with
  | false =>
    rw [hwv] at e
    cases e
    rw [St.put_h]
  | true =>
    rw [hwv] at e
    simp only [cond_true] at e
    split at e
    · rename_i v h hv
      cases e
      rw [St.put_h]
      exact h2 v h hv
    · cases e
    · rename_i f args hv
      exact absurd hv (h3 f args)
theorem vdo_quiet {s : T AV} {h : Heap} (hk : o.op.kind = 0) (e : vdo call ⟨s, h⟩ nm o = some st1) (h' : Heap) (nm' : Nat) :
    ∃ v, st1 = St.put ⟨s, h⟩ o.dst v ∧ vdo call ⟨s, h'⟩ nm' o = some (St.put ⟨s, h'⟩ o.dst v) := by
  have hs := vdo_still (by rw [hk]; simp) e
  have hw : wanted ⟨s, h'⟩ o.guard = wanted ⟨s, h⟩ o.guard := wanted_congr fun t _ => rfl
  unfold vdo at e ⊢
  rw [hw]
  cases hwv : wanted ⟨s, h⟩ o.guard with
  | false =>
    rw [hwv] at e
    cases e
    exact ⟨.undef, rfl, rfl⟩
  | true =>
    rw [hwv] at e
    simp only [cond_true] at e ⊢
    split at e
    · rename_i v h1 hv
      cases e
      rw [St.put_h] at hs
      have hs' : h1 = h := hs
      subst hs'
      refine ⟨v, rfl, ?_⟩
      rw [vop_quiet hk hv h' nm']
    · cases e
    · rename_i f args hv
      exact absurd hv ((vop_still (st := ⟨s, h⟩) (by rw [hk]; simp) nm nm).2.2 f args)
/-- the trace, step by step -/
theorem vtrace_spec : ∀ {l : List VO} {st : St} {tr : List St}, vtrace call l st = some tr → tr.length = l.length + 1 ∧ tr[0]? = some st ∧
    ∀ i o, l[i]? = some o → ∃ a b, tr[i]? = some a ∧ tr[i + 1]? = some b ∧ vdo call a a.h.next o = some b
  | [], st, tr, h => by
    cases h
    exact ⟨rfl, rfl, fun i o h => by simp at h⟩
  | x :: l, st, tr, h => by
    simp only [vtrace] at h
    split at h
    · rename_i st1 h1
      obtain ⟨tr', h2, rfl⟩ := Option.map_eq_some_iff.1 h
      obtain ⟨a1, a2, a3⟩ := vtrace_spec h2
      refine ⟨by simp [a1], rfl, fun i o ho => ?_⟩
      cases i with
      | zero =>
        simp at ho
        subst ho
        exact ⟨st, st1, rfl, by simpa using a2, h1⟩
      | succ i =>
        obtain ⟨a, b, b1, b2, b3⟩ := a3 i o (by simpa using ho)
        exact ⟨a, b, by simpa using b1, by simpa using b2, b3⟩
    · cases h
end
/-- What the check of a drawn region gives. -/
structure Drawn (ops : Array Oper) (l : List VO) (B : List (List Nat)) : Prop where
  first : ∀ i o, ops[i]? = some o → ∀ e ∈ edges o, e < i
  close : ∀ i o, ops[i]? = some o → ∀ j ∈ B.getD i [], ∃ e ∈ edges o, e = j ∨ j ∈ B.getD e []
  one : ∀ (i j : Nat) (x y : VO) (t : Nat), l[i]? = some x → l[j]? = some y → i ≠ j → x.dst = some t → y.dst ≠ some t
  looks : ∀ (i j : Nat) (x y : VO) (t : Nat), l[i]? = some x → l[j]? = some y → i ≠ j → x.dst = some t → t ∈ y.looks → (i < j ∧ i ∈ B.getD j []) ∨ (j < i ∧ j ∈ B.getD i [])
  acts : ∀ (i j : Nat) (x y : VO), l[i]? = some x → l[j]? = some y → x.acts = true → y.acts = true → i < j → i ∈ B.getD j []
theorem zip_all {α : Type} {l : List α} {p : α × Nat → Bool} (h : l.zipIdx.all p = true) {i : Nat} {x : α} (hx : l[i]? = some x) : p (x, i) = true := by
  rw [List.all_eq_true] at h
  refine h (x, i) ?_
  rw [List.mem_zipIdx_iff_getElem?]
  exact hx
theorem drawn_spec {ops : Array Oper} {l : List VO} {B : List (List Nat)} (h : drawnChk ops.toList l B = true) : Drawn ops l B := by
  unfold drawnChk at h
  rw [Bool.and_eq_true] at h
  obtain ⟨h1, h2⟩ := h
  have hp : ∀ i j x y, l[i]? = some x → l[j]? = some y → pairChk B (x, i) (y, j) = true := fun i j x y hx hy => zip_all (zip_all h2 hx) hy
  refine ⟨fun i o ho e he => ?_, fun i o ho j hj => ?_, fun i j x y t hx hy hij hd => ?_, fun i j x y t hx hy hij hd hl => ?_, fun i j x y hx hy ha hb hij => ?_⟩
  · have := zip_all h1 (by simpa using ho)
    rw [Bool.and_eq_true, List.all_eq_true] at this
    simpa using this.1 e he
  · have := zip_all h1 (by simpa using ho)
    rw [Bool.and_eq_true, List.all_eq_true, List.all_eq_true] at this
    have := this.2 j hj
    rw [List.any_eq_true] at this
    obtain ⟨e, he, h⟩ := this
    refine ⟨e, he, ?_⟩
    simpa [T.beq_dec] using h
  · have := hp i j x y hx hy
    simp only [pairChk, T.beq_dec, hd, hij, decide_false, Bool.false_or, Bool.and_eq_true] at this
    simpa using this.1.1
  · have := hp i j x y hx hy
    simp only [pairChk, T.beq_dec, hd, hij, decide_false, Bool.false_or, Bool.and_eq_true, Bool.or_eq_true, Bool.not_eq_true', List.contains_iff_mem, Nat.blt_eq] at this
    rcases this.1.2 with (h | h) | h
    · simp [hl] at h
    · exact .inl h
    · exact .inr h
  · have := hp i j x y hx hy
    simp only [pairChk, T.beq_dec, Nat.ne_of_lt hij, decide_false, Bool.false_or, Bool.and_eq_true, Bool.or_eq_true, Bool.not_eq_true', List.contains_iff_mem] at this
    rcases this.2 with h | h
    · have hb' : i.blt j = true := by rw [Nat.blt_eq]; exact hij
      simp [ha, hb, hb'] at h
    · exact h
open Go.RowKit
section
variable {P : Program} {nt : Nat} {ops : Array Oper} {l : List VO} {B : List (List Nat)} {call : Nat → List AV → Heap → Option (AV × Heap)} {tr : Nat → St}
/-- a trace, by places -/
def Goes (call : Nat → List AV → Heap → Option (AV × Heap)) (l : List VO) (tr : Nat → St) : Prop := ∀ i o, l[i]? = some o → vdo call (tr i) (tr i).h.next o = some (tr (i + 1))
theorem Goes.keep (g : Goes call l tr) {i : Nat} {o : VO} (ho : l[i]? = some o) {t : Nat} (hd : o.dst ≠ some t) : (tr (i + 1)).get t = (tr i).get t := by
  obtain ⟨v, h1, _⟩ := vdo_congr (st' := tr i) (fun _ _ => rfl) rfl (g i o ho)
  rw [h1, St.get_put, if_neg hd]
  rfl
theorem Goes.heap (g : Goes call l tr) {i : Nat} : ∀ {k : Nat}, i ≤ k → k ≤ l.length → (∀ j o, l[j]? = some o → i ≤ j → j < k → o.acts = false) → (tr k).h = (tr i).h
  | 0, hik, _, _ => by rw [show i = 0 by omega]
  | k + 1, hik, hk, ha => by
    by_cases e : i = k + 1
    · rw [e]
    · obtain ⟨o, ho⟩ : ∃ o, l[k]? = some o := ⟨l[k]'(by omega), List.getElem?_eq_getElem (by omega)⟩
      have h1 := ha k o ho (by omega) (by omega)
      have h2 : o.op.kind ≠ 2 := by
        intro e
        simp [VO.acts, e] at h1
      rw [vdo_still h2 (g k o ho)]
      exact Goes.heap g (by omega) (by omega) fun j o hj h3 h4 => ha j o hj h3 (by omega)
theorem Goes.old (g : Goes call l tr) {t : Nat} : ∀ {i : Nat}, i ≤ l.length → (∀ j o, l[j]? = some o → j < i → o.dst ≠ some t) → (tr i).get t = (tr 0).get t
  | 0, _, _ => rfl
  | i + 1, hi, h => by
    obtain ⟨o, ho⟩ : ∃ o, l[i]? = some o := ⟨l[i]'(by omega), List.getElem?_eq_getElem (by omega)⟩
    rw [g.keep ho (h i o ho (by omega))]
    exact Goes.old g (by omega) fun j o hj h1 => h j o hj (by omega)
theorem Goes.got (g : Goes call l tr) (hD : Drawn ops l B) {j : Nat} {y : VO} {t : Nat} (hy : l[j]? = some y) (hd : y.dst = some t) : ∀ {i : Nat}, j < i → i ≤ l.length → (tr i).get t = (tr (j + 1)).get t
  | 0, h, _ => by omega
  | i + 1, h, hi => by
    by_cases e : j = i
    · rw [e]
    · obtain ⟨o, ho⟩ : ∃ o, l[i]? = some o := ⟨l[i]'(by omega), List.getElem?_eq_getElem (by omega)⟩
      rw [g.keep ho (hD.one j i y o t hy ho e hd)]
      exact Goes.got g hD hy hd (by omega) (by omega)
/-- Where a drawn region stands: what is listed, the slots, the last act that is listed. -/
structure Inv (ops : Array Oper) (l : List VO) (B : List (List Nat)) (tr : Nat → St) (listed : Array Bool) (s : T AV) (K : Nat) : Prop where
  size : listed.size = ops.size
  closed : ∀ i, listed.getD i false = true → ∀ j ∈ B.getD i [], listed.getD j false = true
  got : ∀ (i : Nat) (o : VO) (t : Nat), l[i]? = some o → listed.getD i false = true → o.dst = some t → St.get ⟨s, (tr 0).h⟩ t = (tr (i + 1)).get t
  old : ∀ t, (∀ (i : Nat) (o : VO), l[i]? = some o → listed.getD i false = true → o.dst ≠ some t) → St.get ⟨s, (tr 0).h⟩ t = (tr 0).get t
  acts : ∀ (j : Nat) (o : VO), l[j]? = some o → o.acts = true → (listed.getD j false = true ↔ j < K)
  bound : K = 0 ∨ ∃ o, l[K - 1]? = some o ∧ o.acts = true
  le : K ≤ l.length
theorem set_getD (a : Array Bool) {i : Nat} (h : i < a.size) (j : Nat) : (a.setIfInBounds i true).getD j false = if j = i then true else a.getD j false := by
  rw [Array.getD_eq_getD_getElem?, Array.getD_eq_getD_getElem?, Array.getElem?_setIfInBounds]
  by_cases e : j = i
  · subst e; simp [h]
  · rw [if_neg (fun h => e h.symm), if_neg e]
section
variable {listed : Array Bool} {s : T AV} {K : Nat}
theorem Inv.looks (hv : Inv ops l B tr listed s K) (g : Goes call l tr) (hD : Drawn ops l B) {i : Nat} {o : VO} (ho : l[i]? = some o) (hi : listed.getD i false = false) (hB : ∀ j ∈ B.getD i [], listed.getD j false = true)
    {t : Nat} (ht : t ∈ o.looks) : St.get ⟨s, (tr 0).h⟩ t = (tr i).get t := by
  have hil : i < l.length := (List.getElem?_eq_some_iff.1 ho).1
  by_cases hex : ∃ j y, l[j]? = some y ∧ y.dst = some t ∧ j ≠ i
  · obtain ⟨j, y, hy, hd, hne⟩ := hex
    rcases hD.looks j i y o t hy ho hne hd ht with ⟨h1, h2⟩ | ⟨h1, h2⟩
    · rw [hv.got j y t hy (hB j h2) hd, g.got hD hy hd h1 (by omega)]
    · have hnj : listed.getD j false ≠ true := fun e => by
        have := hv.closed j e i h2
        rw [hi] at this; cases this
      have e1 : St.get ⟨s, (tr 0).h⟩ t = (tr 0).get t := hv.old t fun k z hz hk hdz => by
        by_cases e : k = j
        · subst e; exact hnj hk
        · exact hD.one k j z y t hz hy e hdz hd
      have e2 : (tr i).get t = (tr 0).get t := g.old (by omega) fun k z hz hk hdz => by
        by_cases e : k = j
        · omega
        · exact hD.one k j z y t hz hy e hdz hd
      rw [e1, e2]
  · have hno : ∀ j y, l[j]? = some y → j ≠ i → y.dst ≠ some t := fun j y hy hne hd => hex ⟨j, y, hy, hd, hne⟩
    have e1 : St.get ⟨s, (tr 0).h⟩ t = (tr 0).get t := hv.old t fun k z hz hk => hno k z hz fun e => by
      subst e
      rw [hi] at hk; cases hk
    have e2 : (tr i).get t = (tr 0).get t := g.old (by omega) fun k z hz hk => hno k z hz (by omega)
    rw [e1, e2]
/-- what is listed next -/
theorem Inv.next (hv : Inv ops l B tr listed s K) (hD : Drawn ops l B) {i : Nat} {o : VO} (ho : l[i]? = some o) (hn : i < ops.size) (hi : listed.getD i false = false) (hB : ∀ j ∈ B.getD i [], listed.getD j false = true)
    {v : AV} (hval : ∀ d, o.dst = some d → v = (tr (i + 1)).get d) {K' : Nat} (hK : (o.acts = true ∧ K' = i + 1) ∨ (o.acts = false ∧ K' = K)) (h' : Heap) :
    Inv ops l B tr (listed.setIfInBounds i true) (St.put ⟨s, h'⟩ o.dst v).s K' := by
  have hlt : i < listed.size := by rw [hv.size]; exact hn
  have hil : i < l.length := (List.getElem?_eq_some_iff.1 ho).1
  have hget : ∀ t, St.get ⟨(St.put ⟨s, h'⟩ o.dst v).s, (tr 0).h⟩ t = if o.dst = some t then v else St.get ⟨s, (tr 0).h⟩ t := by
    intro t
    have := St.get_put ⟨s, h'⟩ o.dst v t
    exact this
  refine ⟨by simp [hv.size], fun j hj k hk => ?_, fun j y t hy hj hd => ?_, fun t hno => ?_, fun j y hy ha => ?_, ?_, ?_⟩
  · rw [set_getD _ hlt] at hj ⊢
    by_cases e : k = i
    · rw [if_pos e]
    · rw [if_neg e]
      by_cases e' : j = i
      · subst e'; exact hB k hk
      · rw [if_neg e'] at hj
        exact hv.closed j hj k hk
  · rw [hget]
    by_cases e : j = i
    · subst e
      rw [ho] at hy
      cases hy
      rw [if_pos hd, hval t hd]
    · rw [set_getD _ hlt, if_neg e] at hj
      rw [if_neg (hD.one j i y o t hy ho e hd), hv.got j y t hy hj hd]
  · rw [hget, if_neg (hno i o ho (by rw [set_getD _ hlt, if_pos rfl]))]
    refine hv.old t fun j y hy hj => hno j y hy ?_
    rw [set_getD _ hlt]
    by_cases e : j = i
    · rw [if_pos e]
    · rw [if_neg e]; exact hj
  · rw [set_getD _ hlt]
    rcases hK with ⟨h1, rfl⟩ | ⟨h1, rfl⟩
    · by_cases e : j = i
      · rw [if_pos e]; simp; omega
      · rw [if_neg e]
        by_cases hlt' : j < i
        · have := hB j (hD.acts j i y o hy ho ha h1 hlt')
          rw [this]; simp; omega
        · have hji : i < j := by omega
          constructor
          · intro hj
            have := hv.closed j hj i (hD.acts i j o y ho hy h1 ha hji)
            rw [hi] at this; cases this
          · intro h; omega
    · have e : j ≠ i := by
        rintro rfl
        rw [ho] at hy
        cases hy
        rw [h1] at ha; cases ha
      rw [if_neg e]
      exact hv.acts j y hy ha
  · rcases hK with ⟨h1, rfl⟩ | ⟨h1, rfl⟩
    · exact .inr ⟨o, by simpa using ho, h1⟩
    · exact hv.bound
  · rcases hK with ⟨h1, rfl⟩ | ⟨h1, rfl⟩
    · exact hil
    · exact hv.le
end
end
end Go.Proofs.Ytlemediphmnffaa.VM
namespace Go.Proofs.Ytlemediphmnffaa.VM
open Go.RowKit
namespace T
variable {α : Type}
def del : T α → Nat → T α
  | .e, _ => .e
  | .n l x r, i => if i = 0 then .n l none r else if i % 2 = 1 then .n (l.del (i / 2)) x r else .n l x (r.del (i / 2 - 1))
theorem get_del : ∀ (t : T α) (i j : Nat), (t.del i).get j = if j = i then none else t.get j
  | .e, i, j => by simp [del, get_e]
  | .n l x r, i, j => by
    rw [del]
    by_cases h0 : i = 0
    · rw [if_pos h0, get_n, get_n]
      by_cases j0 : j = 0
      · rw [if_pos j0, if_pos (show j = i by omega)]
      · have ji : ¬ j = i := by omega
        simp only [if_neg j0, if_neg ji]
    · rw [if_neg h0]
      by_cases h1 : i % 2 = 1
      · rw [if_pos h1, get_n, get_n]
        by_cases j0 : j = 0
        · rw [if_pos j0, if_neg (by omega), if_pos j0]
        · rw [if_neg j0, if_neg j0]
          by_cases j1 : j % 2 = 1
          · rw [if_pos j1, if_pos j1, get_del l]
            by_cases e : j = i
            · rw [if_pos (by omega), if_pos e]
            · rw [if_neg (by omega), if_neg e]
          · rw [if_neg j1, if_neg j1, if_neg (by omega)]
      · rw [if_neg h1, get_n, get_n]
        by_cases j0 : j = 0
        · rw [if_pos j0, if_neg (by omega), if_pos j0]
        · rw [if_neg j0, if_neg j0]
          by_cases j1 : j % 2 = 1
          · rw [if_pos j1, if_pos j1, if_neg (by omega)]
          · rw [if_neg j1, if_neg j1, get_del r]
            by_cases e : j = i
            · rw [if_pos (by omega), if_pos e]
            · rw [if_neg (by omega), if_neg e]
end T
/-- memory with a name taken out -/
def Heap.del (h : Heap) (b : Nat) : Heap := ⟨h.next, h.t.del b⟩
theorem Heap.get_del (h : Heap) (b c : Nat) : (h.del b).get c = if c = b then none else h.get c := T.get_del _ _ _
section
variable {φ : Env} {w : World} {H H' : Heap}
/-- what memory stands for is told by its looks -/
theorem HR.ext (hr : HR φ w H) (e : ∀ b, H'.get b = H.get b) (hn : ∀ b, H'.next ≤ b → H'.get b = none) : HR φ w H' :=
  ⟨fun b => by rw [e]; exact hr.blk b, hr.lt, fun b b' p p' h1 h2 => by rw [e] at h1 h2; exact hr.inj b b' p p' h1 h2, hn⟩
theorem HR.del (hr : HR φ w H) {b : Nat} (hb : φ b = none) : HR φ w (H.del b) := by
  refine ⟨fun c => ?_, hr.lt, fun c c' p p' h1 h2 => ?_, fun c hc => ?_⟩
  · rw [Heap.get_del]
    by_cases e : c = b
    · rw [if_pos e, e]; exact hb
    · rw [if_neg e]; exact hr.blk c
  · rw [Heap.get_del] at h1 h2
    have L : ∀ {d : Nat}, live (if d = b then none else H.get d) = true → live (H.get d) = true := by
      intro d hd
      by_cases ed : d = b
      · rw [if_pos ed] at hd; cases hd
      · rw [if_neg ed] at hd; exact hd
    exact hr.inj c c' p p' (L h1) (L h2)
  · rw [Heap.get_del]
    by_cases e : c = b
    · rw [if_pos e]
    · rw [if_neg e]; exact hr.next c hc
theorem UpdH.exact {φ0 : Env} {w0 : World} {H0 : Heap} (u : UpdH φ0 w0 H0 φ w H) (e : ∀ b, H'.get b = H.get b) : UpdH φ0 w0 H0 φ w H' :=
  { toUpd := u.toUpd, keepL := u.keepL, deadL := fun b h1 h2 => by rw [e]; exact u.deadL b h1 h2, newL := fun b B o h1 h2 => by rw [e] at h1; exact u.newL b B o h1 h2, stay := fun b h => by rw [e]; exact u.stay b h }
/-- fewer living names -/
theorem UpdH.fewer {φ0 : Env} {w0 : World} {H0 : Heap} (u : UpdH φ0 w0 H0 φ w H) (e : ∀ b, live (H'.get b) = true → live (H.get b) = true) (k : ∀ b, H0.get b ≠ none → H'.get b ≠ none) : UpdH φ0 w0 H0 φ w H' :=
  { toUpd := u.toUpd, keepL := u.keepL
    deadL := fun b h1 h2 => by
      obtain ⟨a1, a2, a3⟩ := u.deadL b h1 h2
      refine ⟨k b h1, ?_, a3⟩
      cases h : live (H'.get b) with
      | false => rfl
      | true => have := e b h; rw [a2] at this; cases this
    newL := fun b B o h1 h2 => u.newL b B o (e b h1) h2, stay := k }
/-- A new block out of slots alone: its value and block are the same whatever memory. -/
theorem vop_fresh {op : VOp} (hf : op.fresh = true) {s : T AV} {h h1 : Heap} {nm : Nat} {v : AV} (e : vop ⟨s, h⟩ nm op = .val v h1) :
    ∃ x, h1 = h.mk' nm x ∧ live (some x) = true ∧ ∀ h', vop ⟨s, h'⟩ nm op = .val v (h'.mk' nm x) := by
  have ev : ∀ (x : Opd) (h' : Heap), Opd.eval ⟨s, h⟩ x = Opd.eval ⟨s, h'⟩ x := by
    intro x h'; cases x <;> rfl
  cases op <;> simp only [VOp.fresh] at hf <;> try (cases hf; done)
  case alloc z t => cases e; exact ⟨_, rfl, rfl, fun _ => rfl⟩
  case mkmap => cases e; exact ⟨_, rfl, rfl, fun _ => rfl⟩
  case box t x =>
    simp only [vop] at e
    split at e
    · rename_i c hc
      cases e
      exact ⟨_, rfl, rfl, fun h' => by simp only [vop, ← ev x h', hc]⟩
    · cases e
  case bslice z t n ps =>
    simp only [vop] at e
    split at e
    · rename_i c hc
      cases e
      refine ⟨_, rfl, rfl, fun h' => ?_⟩
      have ep : (ps.map fun (o, n, x) => (o, n, Opd.eval ⟨s, h'⟩ x)) = (ps.map fun (o, n, x) => (o, n, Opd.eval ⟨s, h⟩ x)) := List.map_congr_left fun p _ => by
        show (p.1, p.2.1, Opd.eval ⟨s, h'⟩ p.2.2) = (p.1, p.2.1, Opd.eval ⟨s, h⟩ p.2.2)
        rw [ev _ h']
      simp only [vop]
      rw [ep, hc]
    · cases e
  case mkslice z t b l c =>
    simp only [vop] at e
    split at e
    · rename_i n m h1' h2'
      split at e
      · rename_i hc
        cases e
        exact ⟨_, rfl, rfl, fun h' => by simp only [vop, ← ev l h', ← ev c h', h1', h2']; rw [if_pos hc]⟩
      · cases e
    · cases e
end
section
variable {call : Nat → List AV → Heap → Option (AV × Heap)} {base : Nat}
theorem mtrace_spec : ∀ {l : List VO} {k : Nat} {st : St} {tr : List St}, mtrace call base l k st = some tr → tr.length = l.length + 1 ∧ tr[0]? = some st ∧
    ∀ i o, l[i]? = some o → ∃ a b, tr[i]? = some a ∧ tr[i + 1]? = some b ∧ vdo call a (nameAt base (k + i) o a.h) o = some b
  | [], k, st, tr, h => by
    cases h
    exact ⟨rfl, rfl, fun i o h => by simp at h⟩
  | x :: l, k, st, tr, h => by
    simp only [mtrace] at h
    split at h
    · rename_i st1 h1
      obtain ⟨tr', h2, rfl⟩ := Option.map_eq_some_iff.1 h
      obtain ⟨a1, a2, a3⟩ := mtrace_spec h2
      refine ⟨by simp [a1], rfl, fun i o ho => ?_⟩
      cases i with
      | zero =>
        simp at ho
        subst ho
        exact ⟨st, st1, rfl, by simpa using a2, h1⟩
      | succ i =>
        obtain ⟨a, b, b1, b2, b3⟩ := a3 i o (by simpa using ho)
        exact ⟨a, b, by simpa using b1, by simpa using b2, by rw [show k + (i + 1) = k + 1 + i by omega]; exact b3⟩
    · cases h
open Classical in
/-- the names that are kept ahead -/
theorem reserve_get : ∀ (l : List VO) (k : Nat) (h : Heap) (b : Nat), (reserve base l k h).get b = if ∃ i o, l[i]? = some o ∧ o.op.fresh = true ∧ b = base + (k + i) then some .dead else h.get b
  | [], k, h, b => by simp [reserve]
  | x :: l, k, h, b => by
    rw [reserve, reserve_get l (k + 1)]
    have key : (∃ i o, (x :: l)[i]? = some o ∧ o.op.fresh = true ∧ b = base + (k + i)) ↔ ((x.op.fresh = true ∧ b = base + k) ∨ ∃ i o, l[i]? = some o ∧ o.op.fresh = true ∧ b = base + (k + 1 + i)) := by
      constructor
      · rintro ⟨i, o, h1, h2, h3⟩
        cases i with
        | zero => simp at h1; subst h1; exact .inl ⟨h2, by simpa using h3⟩
        | succ i => exact .inr ⟨i, o, by simpa using h1, h2, by omega⟩
      · rintro (⟨h1, h2⟩ | ⟨i, o, h1, h2, h3⟩)
        · exact ⟨0, x, rfl, h1, by simpa using h2⟩
        · exact ⟨i + 1, o, by simpa using h1, h2, by omega⟩
    by_cases h1 : ∃ i o, l[i]? = some o ∧ o.op.fresh = true ∧ b = base + (k + 1 + i)
    · rw [if_pos h1, if_pos (key.2 (.inr h1))]
    · rw [if_neg h1]
      cases hx : x.op.fresh with
      | false => rw [cond_false, if_neg (fun e => by rcases key.1 e with ⟨a, _⟩ | a; (rw [hx] at a; cases a); exact h1 a)]
      | true =>
        rw [cond_true, Heap.get_mk]
        by_cases hb : b = base + k
        · rw [if_pos hb, if_pos (key.2 (.inl ⟨hx, hb⟩))]
        · rw [if_neg hb, if_neg (fun e => by rcases key.1 e with ⟨_, a⟩ | a; exact hb a; exact h1 a)]
end
open Go.RowKit
/-- What the check of a mixed region gives. -/
structure Mixed (ops : Array Oper) (l : List VO) (B : List (List Nat)) : Prop where
  first : ∀ i o, ops[i]? = some o → ∀ e ∈ edges o, e < i
  close : ∀ i o, ops[i]? = some o → ∀ j ∈ B.getD i [], ∃ e ∈ edges o, e = j ∨ j ∈ B.getD e []
  one : ∀ (i j : Nat) (x y : VO) (t : Nat), l[i]? = some x → l[j]? = some y → i ≠ j → x.dst = some t → y.dst ≠ some t
  looks : ∀ (i j : Nat) (x y : VO) (t : Nat), l[i]? = some x → l[j]? = some y → i ≠ j → x.dst = some t → t ∈ y.looks → (i < j ∧ i ∈ B.getD j []) ∨ (j < i ∧ j ∈ B.getD i [])
  acts : ∀ (i j : Nat) (x y : VO), l[i]? = some x → l[j]? = some y → x.acts = true → y.acts = true → i < j → i ∈ B.getD j [] ∨ y.op.fresh = true
  behind : ∀ (i j k : Nat) (o x y : VO), l[i]? = some o → o.op.kind = 1 → l[j]? = some x → x.acts = true → j ∈ B.getD i [] → l[k]? = some y → y.acts = true → k < j → k ∈ B.getD i []
theorem actAt_iff {l : List VO} {j : Nat} {x : VO} (h : l[j]? = some x) : actAt l j = x.acts := by unfold actAt; rw [h]
theorem mixed_spec {ops : Array Oper} {l : List VO} {B : List (List Nat)} (h : mixedChk ops.toList l B = true) : Mixed ops l B := by
  unfold mixedChk at h
  rw [Bool.and_eq_true, Bool.and_eq_true] at h
  obtain ⟨⟨h1, h2⟩, h3⟩ := h
  have hp : ∀ i j x y, l[i]? = some x → l[j]? = some y → mixPair B (x, i) (y, j) = true := fun i j x y hx hy => zip_all (zip_all h2 hx) hy
  refine ⟨fun i o ho e he => ?_, fun i o ho j hj => ?_, fun i j x y t hx hy hij hd => ?_, fun i j x y t hx hy hij hd hl => ?_, fun i j x y hx hy ha hb hij => ?_, fun i j k o x y ho hk hx ha hj hy hb hkj => ?_⟩
  · have := zip_all h1 (by simpa using ho)
    rw [Bool.and_eq_true, List.all_eq_true] at this
    simpa using this.1 e he
  · have := zip_all h1 (by simpa using ho)
    rw [Bool.and_eq_true, List.all_eq_true, List.all_eq_true] at this
    have := this.2 j hj
    rw [List.any_eq_true] at this
    obtain ⟨e, he, h⟩ := this
    refine ⟨e, he, ?_⟩
    simpa [T.beq_dec] using h
  · have := hp i j x y hx hy
    simp only [mixPair, T.beq_dec, hd, hij, decide_false, Bool.false_or, Bool.and_eq_true] at this
    simpa using this.1.1
  · have := hp i j x y hx hy
    simp only [mixPair, T.beq_dec, hd, hij, decide_false, Bool.false_or, Bool.and_eq_true, Bool.or_eq_true, Bool.not_eq_true', List.contains_iff_mem, Nat.blt_eq] at this
    rcases this.1.2 with (h | h) | h
    · simp [hl] at h
    · exact .inl h
    · exact .inr h
  · have := hp i j x y hx hy
    simp only [mixPair, T.beq_dec, Nat.ne_of_lt hij, decide_false, Bool.false_or, Bool.and_eq_true, Bool.or_eq_true, Bool.not_eq_true', List.contains_iff_mem] at this
    rcases this.2 with (h | h) | h
    · have hb' : i.blt j = true := by rw [Nat.blt_eq]; exact hij
      simp [ha, hb, hb'] at h
    · exact .inl h
    · exact .inr h
  · have := zip_all h3 ho
    have hbk : Nat.beq o.op.kind 1 = true := by rw [hk]; rfl
    simp only [hbk, Bool.not_true, Bool.false_or, List.all_eq_true, List.mem_range] at this
    have hjl : j < l.length := (List.getElem?_eq_some_iff.1 hx).1
    have h4 := this j hjl
    rw [actAt_iff hx, ha] at h4
    have hc : (B.getD i []).contains j = true := by rw [List.contains_iff_mem]; exact hj
    simp only [hc, Bool.and_self, Bool.not_true, Bool.false_or, List.all_eq_true, List.mem_range] at h4
    have h5 := h4 k hkj
    rw [actAt_iff hy, hb] at h5
    simpa [List.contains_iff_mem] using h5
section
variable {P : Program} {nt : Nat} {ops : Array Oper} {l : List VO} {B : List (List Nat)} {call : Nat → List AV → Heap → Option (AV × Heap)} {base : Nat} {tr : Nat → St}
/-- a trace, by places -/
def GoesM (call : Nat → List AV → Heap → Option (AV × Heap)) (base : Nat) (l : List VO) (tr : Nat → St) : Prop := ∀ i o, l[i]? = some o → vdo call (tr i) (nameAt base i o (tr i).h) o = some (tr (i + 1))
theorem GoesM.keep (g : GoesM call base l tr) {i : Nat} {o : VO} (ho : l[i]? = some o) {t : Nat} (hd : o.dst ≠ some t) : (tr (i + 1)).get t = (tr i).get t := by
  obtain ⟨v, h1, _⟩ := vdo_congr (st' := tr i) (fun _ _ => rfl) rfl (g i o ho)
  rw [h1, St.get_put, if_neg hd]
  rfl
theorem GoesM.heap (g : GoesM call base l tr) {i : Nat} : ∀ {k : Nat}, i ≤ k → k ≤ l.length → (∀ j o, l[j]? = some o → i ≤ j → j < k → o.acts = false) → (tr k).h = (tr i).h
  | 0, hik, _, _ => by rw [show i = 0 by omega]
  | k + 1, hik, hk, ha => by
    by_cases e : i = k + 1
    · rw [e]
    · obtain ⟨o, ho⟩ : ∃ o, l[k]? = some o := ⟨l[k]'(by omega), List.getElem?_eq_getElem (by omega)⟩
      have h1 := ha k o ho (by omega) (by omega)
      have h2 : o.op.kind ≠ 2 := by
        intro e
        simp [VO.acts, e] at h1
      rw [vdo_still h2 (g k o ho)]
      exact GoesM.heap g (by omega) (by omega) fun j o hj h3 h4 => ha j o hj h3 (by omega)
theorem GoesM.old (g : GoesM call base l tr) {t : Nat} : ∀ {i : Nat}, i ≤ l.length → (∀ j o, l[j]? = some o → j < i → o.dst ≠ some t) → (tr i).get t = (tr 0).get t
  | 0, _, _ => rfl
  | i + 1, hi, h => by
    obtain ⟨o, ho⟩ : ∃ o, l[i]? = some o := ⟨l[i]'(by omega), List.getElem?_eq_getElem (by omega)⟩
    rw [g.keep ho (h i o ho (by omega))]
    exact GoesM.old g (by omega) fun j o hj h1 => h j o hj (by omega)
theorem GoesM.got (g : GoesM call base l tr) (hD : Mixed ops l B) {j : Nat} {y : VO} {t : Nat} (hy : l[j]? = some y) (hd : y.dst = some t) : ∀ {i : Nat}, j < i → i ≤ l.length → (tr i).get t = (tr (j + 1)).get t
  | 0, h, _ => by omega
  | i + 1, h, hi => by
    by_cases e : j = i
    · rw [e]
    · obtain ⟨o, ho⟩ : ∃ o, l[i]? = some o := ⟨l[i]'(by omega), List.getElem?_eq_getElem (by omega)⟩
      rw [g.keep ho (hD.one j i y o t hy ho e hd)]
      exact GoesM.got g hD hy hd (by omega) (by omega)
end
open Go.RowKit
section
variable {P : Program} {nt : Nat} {ops : Array Oper} {l : List VO} {B : List (List Nat)} {call : Nat → List AV → Heap → Option (AV × Heap)} {base : Nat} {tr : Nat → St} {listed : Array Bool} {s : T AV} {K : Nat}
/-- what is listed, the slots -/
structure Slots (ops : Array Oper) (l : List VO) (B : List (List Nat)) (tr : Nat → St) (listed : Array Bool) (s : T AV) : Prop where
  size : listed.size = ops.size
  closed : ∀ i, listed.getD i false = true → ∀ j ∈ B.getD i [], listed.getD j false = true
  got : ∀ (i : Nat) (o : VO) (t : Nat), l[i]? = some o → listed.getD i false = true → o.dst = some t → St.get ⟨s, (tr 0).h⟩ t = (tr (i + 1)).get t
  old : ∀ t, (∀ (i : Nat) (o : VO), l[i]? = some o → listed.getD i false = true → o.dst ≠ some t) → St.get ⟨s, (tr 0).h⟩ t = (tr 0).get t
theorem Slots.looks (hv : Slots ops l B tr listed s) (g : GoesM call base l tr) (hD : Mixed ops l B) {i : Nat} {o : VO} (ho : l[i]? = some o) (hi : listed.getD i false = false) (hB : ∀ j ∈ B.getD i [], listed.getD j false = true)
    {t : Nat} (ht : t ∈ o.looks) : St.get ⟨s, (tr 0).h⟩ t = (tr i).get t := by
  have hil : i < l.length := (List.getElem?_eq_some_iff.1 ho).1
  by_cases hex : ∃ j y, l[j]? = some y ∧ y.dst = some t ∧ j ≠ i
  · obtain ⟨j, y, hy, hd, hne⟩ := hex
    rcases hD.looks j i y o t hy ho hne hd ht with ⟨h1, h2⟩ | ⟨h1, h2⟩
    · rw [hv.got j y t hy (hB j h2) hd, g.got hD hy hd h1 (by omega)]
    · have hnj : listed.getD j false ≠ true := fun e => by
        have := hv.closed j e i h2
        rw [hi] at this; cases this
      have e1 : St.get ⟨s, (tr 0).h⟩ t = (tr 0).get t := hv.old t fun k z hz hk hdz => by
        by_cases e : k = j
        · subst e; exact hnj hk
        · exact hD.one k j z y t hz hy e hdz hd
      have e2 : (tr i).get t = (tr 0).get t := g.old (by omega) fun k z hz hk hdz => by
        by_cases e : k = j
        · omega
        · exact hD.one k j z y t hz hy e hdz hd
      rw [e1, e2]
  · have hno : ∀ j y, l[j]? = some y → j ≠ i → y.dst ≠ some t := fun j y hy hne hd => hex ⟨j, y, hy, hd, hne⟩
    have e1 : St.get ⟨s, (tr 0).h⟩ t = (tr 0).get t := hv.old t fun k z hz hk => hno k z hz fun e => by
      subst e
      rw [hi] at hk; cases hk
    have e2 : (tr i).get t = (tr 0).get t := g.old (by omega) fun k z hz hk => hno k z hz (by omega)
    rw [e1, e2]
/-- what is listed next -/
theorem Slots.next (hv : Slots ops l B tr listed s) (hD : Mixed ops l B) {i : Nat} {o : VO} (ho : l[i]? = some o) (hn : i < ops.size) (hB : ∀ j ∈ B.getD i [], listed.getD j false = true)
    {v : AV} (hval : ∀ d, o.dst = some d → v = (tr (i + 1)).get d) (h' : Heap) :
    Slots ops l B tr (listed.setIfInBounds i true) (St.put ⟨s, h'⟩ o.dst v).s := by
  have hlt : i < listed.size := by rw [hv.size]; exact hn
  have hget : ∀ t, St.get ⟨(St.put ⟨s, h'⟩ o.dst v).s, (tr 0).h⟩ t = if o.dst = some t then v else St.get ⟨s, (tr 0).h⟩ t := by
    intro t
    have := St.get_put ⟨s, h'⟩ o.dst v t
    exact this
  refine ⟨by simp [hv.size], fun j hj k hk => ?_, fun j y t hy hj hd => ?_, fun t hno => ?_⟩
  · rw [set_getD _ hlt] at hj ⊢
    by_cases e : k = i
    · rw [if_pos e]
    · rw [if_neg e]
      by_cases e' : j = i
      · subst e'; exact hB k hk
      · rw [if_neg e'] at hj
        exact hv.closed j hj k hk
  · rw [hget]
    by_cases e : j = i
    · subst e
      rw [ho] at hy
      cases hy
      rw [if_pos hd, hval t hd]
    · rw [set_getD _ hlt, if_neg e] at hj
      rw [if_neg (hD.one j i y o t hy ho e hd), hv.got j y t hy hj hd]
  · rw [hget, if_neg (hno i o ho (by rw [set_getD _ hlt, if_pos rfl]))]
    refine hv.old t fun j y hy hj => hno j y hy ?_
    rw [set_getD _ hlt]
    by_cases e : j = i
    · rw [if_pos e]
    · rw [if_neg e]; exact hj
/-- Where a mixed region stands: the first places whose acts are all listed; of the new blocks behind them, those that are listed wait. -/
structure Stands (l : List VO) (listed : Array Bool) (K : Nat) : Prop where
  pre : ∀ (j : Nat) (o : VO), l[j]? = some o → o.acts = true → j < K → listed.getD j false = true
  post : ∀ (j : Nat) (o : VO), l[j]? = some o → o.acts = true → K ≤ j → listed.getD j false = true → o.op.fresh = true
  head : ∀ (j : Nat) (o : VO), l[j]? = some o → o.acts = true → K ≤ j → (∀ (i : Nat) (x : VO), l[i]? = some x → x.acts = true → K ≤ i → j ≤ i) → listed.getD j false = false
  bound : K = 0 ∨ ∃ o, l[K - 1]? = some o ∧ o.acts = true
  le : K ≤ l.length
/-- the memory of a mixed region: the new blocks that wait, those that are not yet -/
structure Waits (l : List VO) (base : Nat) (tr : Nat → St) (listed : Array Bool) (K : Nat) (w0 : World) (φ : Env) (w : World) : Prop where
  dead : ∀ (j : Nat) (o : VO), l[j]? = some o → o.op.fresh = true → K ≤ j → (tr K).h.get (base + j) = some .dead
  wait : ∀ (j : Nat) (o : VO), l[j]? = some o → o.op.fresh = true → K ≤ j → listed.getD j false = true → (tr (j + 1)).h = (tr j).h ∨ BR φ w (base + j) ((tr (j + 1)).h.get (base + j))
  own : ∀ (j : Nat) (o : VO), l[j]? = some o → o.op.fresh = true → K ≤ j → listed.getD j false = true → ∀ p, φ (base + j) = some p → w0.heap.size ≤ p.1 ∧
    (∀ b q, live ((tr K).h.get b) = true → φ b = some q → q.1 ≠ p.1) ∧
    (∀ (i : Nat) (x : VO) q, l[i]? = some x → x.op.fresh = true → K ≤ i → listed.getD i false = true → i ≠ j → φ (base + i) = some q → q.1 ≠ p.1)
  none : ∀ (j : Nat) (o : VO), l[j]? = some o → o.op.fresh = true → listed.getD j false = false → φ (base + j) = none
end
open Go.RowKit
section
variable {l : List VO} {base : Nat} {tr : Nat → St} {listed : Array Bool} {K : Nat} {w0 : World} {φ φ' : Env} {w w' : World}
/-- a block stands for the same, where its own is left alone -/
theorem BR.keep {b : Nat} {x : Option Blk} (h : BR φ w b x) (u : Upd φ w φ' w') (hb : φ' b = φ b) (hs : ∀ p, φ b = some p → w'.heap[p.1]? = w.heap[p.1]?) : BR φ' w' b x := by
  cases x with
  | none => exact hb.trans h
  | some x =>
    cases x with
    | dead => trivial
    | cells l e ver =>
      obtain ⟨B, o, e', n, h1, h2, h3, h4, h5⟩ := h
      have hs := hs _ h1
      exact ⟨B, o, e', n, u.ext _ _ h1, u.shape _ _ h2, h3.upd u hs, h4.keep hs, h5⟩
    | map es ver =>
      obtain ⟨B, o, vs, clock, h1, h2, h3, h4, h5⟩ := h
      have hs := hs _ h1
      exact ⟨B, o, vs, clock, u.ext _ _ h1, hs.trans h2, h3.upd u, h4.upd u, h5⟩
    | loop r =>
      obtain ⟨B, o, rec, h1, h2, h3⟩ := h
      have hs := hs _ h1
      exact ⟨B, o, rec, u.ext _ _ h1, hs.trans h2, h3.upd u⟩
    | kf m =>
      obtain ⟨B, Bm, om, e, h1, h2, h3⟩ := h
      exact ⟨B, Bm, om, e, u.ext _ _ h1, (hs _ h1).trans h2, u.ext _ _ h3⟩
theorem fresh_acts {o : VO} (h : o.op.fresh = true) : o.acts = true := by
  unfold VO.acts
  cases ho : o.op <;> rw [ho] at h <;> simp only [VOp.fresh] at h <;> first | (cases h; done) | rfl
theorem Waits.step {K' : Nat} {listed' : Array Bool} (hw : Waits l base tr listed K w0 φ w) (hr : HR φ w (tr K).h) (u : UpdH φ w (tr K).h φ' w' (tr K').h) (hK : K ≤ K')
    (hl : ∀ (j : Nat) (o : VO), l[j]? = some o → o.op.fresh = true → K' ≤ j → listed'.getD j false = listed.getD j false)
    (hp : ∀ (j : Nat) (o : VO), l[j]? = some o → o.op.fresh = true → j < K' → listed'.getD j false = true) : Waits l base tr listed' K' w0 φ' w' := by
  have same : ∀ (j : Nat) (o : VO), l[j]? = some o → o.op.fresh = true → K' ≤ j → φ' (base + j) = φ (base + j) := fun j o hj hf hk => by
    have hd := hw.dead j o hj hf (by omega)
    exact (u.deadL (base + j) (by rw [hd]; simp) (by rw [hd]; rfl)).2.2
  refine ⟨fun j o hj hf hk => ?_, fun j o hj hf hk hlj => ?_, fun j o hj hf hk hlj p hpj => ?_, fun j o hj hf hlj => ?_⟩
  · have hd := hw.dead j o hj hf (by omega)
    obtain ⟨a1, a2, _⟩ := u.deadL (base + j) (by rw [hd]; simp) (by rw [hd]; rfl)
    rcases not_live (by rw [a2]; simp) with h | h
    · exact absurd h a1
    · exact h
  · rw [hl j o hj hf hk] at hlj
    refine (hw.wait j o hj hf (by omega) hlj).imp id fun hbr => hbr.keep u.toUpd (same j o hj hf hk) fun p hpj => ?_
    obtain ⟨_, h2, _⟩ := hw.own j o hj hf (by omega) hlj p hpj
    exact u.keepL _ (hr.lt _ _ hpj) fun b q hb hq => h2 b q hb hq
  · rw [hl j o hj hf hk] at hlj
    rw [same j o hj hf hk] at hpj
    obtain ⟨h1, h2, h3⟩ := hw.own j o hj hf (by omega) hlj p hpj
    refine ⟨h1, fun b q hb hq e => ?_, fun i x q hi hx hki hli hne hq => ?_⟩
    · rcases u.newL b q.1 q.2 hb hq with ⟨b0, o0, e0, e1⟩ | e0
      · exact h2 b0 _ e0 e1 e
      · have := hr.lt _ _ hpj
        omega
    · rw [hl i x hi hx hki] at hli
      rw [same i x hi hx hki] at hq
      exact h3 i x q hi hx (by omega) hli hne hq
  · rcases Nat.lt_or_ge j K' with h | h
    · rw [hp j o hj hf h] at hlj; cases hlj
    · rw [same j o hj hf h]
      rw [hl j o hj hf h] at hlj
      exact hw.none j o hj hf hlj
end
open Go.RowKit
section
variable {ops : Array Oper} {B : List (List Nat)} {l : List VO} {call : Nat → List AV → Heap → Option (AV × Heap)} {base : Nat} {tr : Nat → St} {listed : Array Bool} {K : Nat} {w0 : World} {φ : Env} {w : World}
/-- what a new block's place does to memory -/
theorem GoesM.fresh (g : GoesM call base l tr) {j : Nat} {o : VO} (hj : l[j]? = some o) (hf : o.op.fresh = true) : (tr (j + 1)).h = (tr j).h ∨ ∃ x, (tr (j + 1)).h = (tr j).h.mk' (base + j) x := by
  have h := g j o hj
  have hn : nameAt base j o (tr j).h = base + j := by unfold nameAt; rw [hf]; rfl
  rw [hn] at h
  unfold vdo at h
  cases hw : wanted (tr j) o.guard with
  | false =>
    rw [hw] at h
    have : (tr j).put o.dst .undef = tr (j + 1) := by simpa using h
    rw [← this, St.put_h]
    exact .inl rfl
  | true =>
    rw [hw, cond_true] at h
    cases hv : vop (tr j) (base + j) o.op with
    | fail => rw [hv] at h; cases h
    | enter f args =>
      rw [hv] at h
      exfalso
      cases ho : o.op <;> rw [ho] at hf hv <;> simp only [VOp.fresh] at hf <;> try (cases hf; done)
      all_goals
        simp only [vop] at hv
        first
          | (cases hv; done)
          | ((repeat' (split at hv)) <;> cases hv)
    | val v h1 =>
      rw [hv] at h
      obtain ⟨x, hx, _, _⟩ := vop_fresh (s := (tr j).s) (h := (tr j).h) hf hv
      have : St.put ⟨(tr j).s, h1⟩ o.dst v = tr (j + 1) := by simpa using h
      rw [← this, St.put_h]
      exact .inr ⟨x, hx⟩
theorem absorb_hr (hw : Waits l base tr listed K w0 φ w) (hr : HR φ w (tr K).h) (g : GoesM call base l tr) {j : Nat} {o : VO} (hj : l[j]? = some o) (hf : o.op.fresh = true) (hK : K ≤ j) (hl : listed.getD j false = true) (hh : (tr j).h = (tr K).h) : HR φ w (tr (j + 1)).h := by
  rcases g.fresh hj hf with h | ⟨x, h⟩
  · rw [h, hh]; exact hr
  · rw [hh] at h
    have hwt := hw.wait j o hj hf hK hl
    have hown := hw.own j o hj hf hK hl
    have hwt : BR φ w (base + j) (some x) := by
      rcases hwt with e | e
      · have e1 := congrArg (fun y : Heap => y.get (base + j)) e
        simp only [h, hh, Heap.get_mk, if_true, hw.dead j o hj hf hK] at e1
        rw [e1]; trivial
      · rw [h, Heap.get_mk, if_pos rfl] at e; exact e
    rw [h]
    refine ⟨fun b => ?_, hr.lt, fun b b' p p' h1 h2 hp hp' he => ?_, fun b hb => ?_⟩
    · rw [Heap.get_mk]
      by_cases e : b = base + j
      · rw [if_pos e, e]; exact hwt
      · rw [if_neg e]; exact hr.blk b
    · rw [Heap.get_mk] at h1 h2
      by_cases e : b = base + j
      · by_cases e' : b' = base + j
        · rw [e, e']
        · rw [if_neg e'] at h2
          rw [e] at hp
          exact absurd he.symm ((hown p hp).2.1 b' p' h2 hp')
      · rw [if_neg e] at h1
        by_cases e' : b' = base + j
        · rw [e'] at hp'
          exact absurd he ((hown p' hp').2.1 b p h1 hp)
        · rw [if_neg e'] at h2
          exact hr.inj b b' p p' h1 h2 hp hp' he
    · have hb' : max (tr K).h.next (base + j + 1) ≤ b := hb
      rw [Heap.get_mk, if_neg (by omega)]
      exact hr.next b (by omega)
theorem absorb_upd {φ0 : Env} {H0 : Heap} (hw : Waits l base tr listed K w0 φ w) (u : UpdH φ0 w0 H0 φ w (tr K).h) (g : GoesM call base l tr) {j : Nat} {o : VO} (hj : l[j]? = some o) (hf : o.op.fresh = true) (hK : K ≤ j) (hl : listed.getD j false = true) (hh : (tr j).h = (tr K).h)
    (h0 : H0.get (base + j) = none) : UpdH φ0 w0 H0 φ w (tr (j + 1)).h := by
  rcases g.fresh hj hf with h | ⟨x, h⟩
  · rw [h, hh]; exact u
  · rw [hh] at h
    have hown := hw.own j o hj hf hK hl
    rw [h]
    refine { toUpd := u.toUpd, keepL := u.keepL, deadL := fun b h1 h2 => ?_, newL := fun b B o' h1 h2 => ?_, stay := fun b h1 => ?_ }
    · have e : b ≠ base + j := fun e => h1 (by rw [e, h0])
      rw [Heap.get_mk, if_neg e]
      exact u.deadL b h1 h2
    · rw [Heap.get_mk] at h1
      by_cases e : b = base + j
      · rw [e] at h2
        exact .inr (hown _ h2).1
      · rw [if_neg e] at h1
        exact u.newL b B o' h1 h2
    · rw [Heap.get_mk]
      by_cases e : b = base + j
      · rw [if_pos e]; simp
      · rw [if_neg e]; exact u.stay b h1
/-- behind it the others wait -/
theorem absorb_waits (hw : Waits l base tr listed K w0 φ w) (g : GoesM call base l tr) {j : Nat} {o : VO} (hj : l[j]? = some o) (hf : o.op.fresh = true) (hK : K ≤ j) (hl : listed.getD j false = true) (hh : (tr j).h = (tr K).h) : Waits l base tr listed (j + 1) w0 φ w := by
  have hget : ∀ b, b ≠ base + j → (tr (j + 1)).h.get b = (tr K).h.get b := by
    intro b hb
    rcases g.fresh hj hf with h | ⟨x, h⟩
    · rw [h, hh]
    · rw [h, hh, Heap.get_mk, if_neg hb]
  refine ⟨fun i x hi hx hki => ?_, fun i x hi hx hki hli => hw.wait i x hi hx (by omega) hli, fun i x hi hx hki hli p hp => ?_, hw.none⟩
  · rw [hget _ (by omega)]; exact hw.dead i x hi hx (by omega)
  · obtain ⟨h1, h2, h3⟩ := hw.own i x hi hx (by omega) hli p hp
    refine ⟨h1, fun b q hb hq => ?_, fun i' x' q hi' hx' hki' hli' hne hq => h3 i' x' q hi' hx' (by omega) hli' hne hq⟩
    by_cases e : b = base + j
    · rw [e] at hq
      exact h3 j o q hj hf hK hl (by omega) hq
    · rw [hget b e] at hb
      exact h2 b q hb hq
end
open Go.RowKit
section
variable {l : List VO} {call : Nat → List AV → Heap → Option (AV × Heap)} {base : Nat} {tr : Nat → St} {listed : Array Bool} {w0 : World} {φ : Env} {w : World}
theorem GoesM.calm (g : GoesM call base l tr) {i k : Nat} (hik : i ≤ k) (hk : k ≤ l.length) (ha : ∀ j o, l[j]? = some o → i ≤ j → j < k → o.acts = false) : (tr k).h = (tr i).h := g.heap hik hk ha
theorem absorb_all (g : GoesM call base l tr) {φ0 : Env} {H0 : Heap} (h0 : ∀ (j : Nat) (o : VO), l[j]? = some o → o.op.fresh = true → H0.get (base + j) = none) : ∀ (n K : Nat), l.length - K = n →
    (∀ (j : Nat) (o : VO), l[j]? = some o → o.acts = true → j < K → listed.getD j false = true) →
    (∀ (j : Nat) (o : VO), l[j]? = some o → o.acts = true → K ≤ j → listed.getD j false = true → o.op.fresh = true) →
    (K = 0 ∨ ∃ o, l[K - 1]? = some o ∧ o.acts = true) → K ≤ l.length → Waits l base tr listed K w0 φ w → HR φ w (tr K).h → UpdH φ0 w0 H0 φ w (tr K).h →
    ∃ K', Stands l listed K' ∧ Waits l base tr listed K' w0 φ w ∧ HR φ w (tr K').h ∧ UpdH φ0 w0 H0 φ w (tr K').h := by
  intro n
  induction n using Nat.strongRecOn with
  | _ n ih =>
    intro K hn hpre hpost hbound hle hw hr hu
    by_cases hex : ∃ j o, l[j]? = some o ∧ o.acts = true ∧ K ≤ j
    · -- the first act
      obtain ⟨j, o, hj, ha, hK, hmin⟩ : ∃ j o, l[j]? = some o ∧ o.acts = true ∧ K ≤ j ∧ ∀ (i : Nat) (x : VO), l[i]? = some x → x.acts = true → K ≤ i → j ≤ i := by
        obtain ⟨j, o, hj, ha, hK⟩ := hex
        induction j using Nat.strongRecOn generalizing o with
        | _ j ihj =>
          by_cases hm : ∃ i x, l[i]? = some x ∧ x.acts = true ∧ K ≤ i ∧ i < j
          · obtain ⟨i, x, h1, h2, h3, h4⟩ := hm
            exact ihj i h4 x h1 h2 h3
          · exact ⟨j, o, hj, ha, hK, fun i x h1 h2 h3 => by
              rcases Nat.lt_or_ge i j with h | h
              · exact absurd ⟨i, x, h1, h2, h3, h⟩ hm
              · exact h⟩
      have hjl : j < l.length := (List.getElem?_eq_some_iff.1 hj).1
      cases hl : listed.getD j false with
      | false =>
        refine ⟨K, ⟨hpre, hpost, fun i x hi hx hki hm => ?_, hbound, hle⟩, hw, hr, hu⟩
        have h1 := hm j o hj ha hK
        have h2 := hmin i x hi hx hki
        have : i = j := by omega
        rw [this]; exact hl
      | true =>
        have hf := hpost j o hj ha hK hl
        have hh : (tr j).h = (tr K).h := g.calm hK (by omega) fun i x hi h1 h2 => by
          cases hx : x.acts with
          | false => rfl
          | true => have := hmin i x hi hx h1; omega
        refine ih (l.length - (j + 1)) (by omega) (j + 1) rfl (fun i x hi hx hlt => ?_) (fun i x hi hx hge hli => hpost i x hi hx (by omega) hli) (.inr ⟨o, by simpa using hj, ha⟩) hjl (absorb_waits hw g hj hf hK hl hh) (absorb_hr hw hr g hj hf hK hl hh) (absorb_upd hw hu g hj hf hK hl hh (h0 j o hj hf))
        rcases Nat.lt_or_ge i K with h | h
        · exact hpre i x hi hx h
        · have := hmin i x hi hx h
          have : i = j := by omega
          rw [this]; exact hl
    · exact ⟨K, ⟨hpre, hpost, fun i x hi hx hki _ => absurd ⟨i, x, hi, hx, hki⟩ hex, hbound, hle⟩, hw, hr, hu⟩
end
end Go.Proofs.Ytlemediphmnffaa.VM
namespace Go.Proofs.Ytlemediphmnffaa.VM
open Go.RowKit
section
variable {P : Program} {nt : Nat} {ops : Array Oper} {l : List VO} {B : List (List Nat)} {call : Nat → List AV → Heap → Option (AV × Heap)} {tr : Nat → St} {listed : Array Bool} {s : T AV} {K : Nat} {ρ : Option Nat}
/-- the check of a look that has no place in the order -/
def Loose (call : Nat → List AV → Heap → Option (AV × Heap)) (l : List VO) (B : List (List Nat)) (tr : Nat → St) : Prop :=
  ∀ (i : Nat) (o : VO), l[i]? = some o → o.op.kind = 1 → ∀ k ∈ looseKs l B i, ∃ s1, vdo call ⟨(tr i).s, (tr k).h⟩ (tr k).h.next o = some s1 ∧ ∀ d, o.dst = some d → s1.get d = (tr (i + 1)).get d
theorem Inv.step (hv : Inv ops l B tr listed s K) (g : Goes call l tr) (hL : Loose call l B tr) (hD : Drawn ops l B) {i : Nat} {o : VO} (ho : l[i]? = some o) (hi : listed.getD i false = false) (hB : ∀ j ∈ B.getD i [], listed.getD j false = true) :
    ∃ v K', vdo call ⟨s, (tr K).h⟩ (tr K).h.next o = some (St.put ⟨s, (tr K').h⟩ o.dst v) ∧ (∀ d, o.dst = some d → v = (tr (i + 1)).get d) ∧ ((o.acts = true ∧ K' = i + 1) ∨ (o.acts = false ∧ K' = K)) := by
  have hil : i < l.length := (List.getElem?_eq_some_iff.1 ho).1
  have hlook : ∀ h, ∀ t ∈ o.looks, (tr i).get t = St.get ⟨s, h⟩ t := fun h t ht => (hv.looks g hD ho hi hB ht).symm
  have hgo := g i o ho
  have hdone : ∀ {v : AV} {x : St}, tr (i + 1) = St.put x o.dst v → ∀ d, o.dst = some d → v = (tr (i + 1)).get d := by
    intro v x hx d hd
    rw [hx, St.get_put, if_pos hd]
  -- where memory is the same
  have same : (tr K).h = (tr i).h → ∃ v, vdo call ⟨s, (tr K).h⟩ (tr K).h.next o = some (St.put ⟨s, (tr (i + 1)).h⟩ o.dst v) ∧ ∀ d, o.dst = some d → v = (tr (i + 1)).get d := by
    intro hh
    obtain ⟨v, h1, h2⟩ := vdo_congr (st' := ⟨s, (tr K).h⟩) (hlook _) hh.symm hgo
    exact ⟨v, by rw [hh] at h2 ⊢; exact h2, hdone h1⟩
  have act_listed : ∀ {j : Nat} {y : VO}, l[j]? = some y → y.acts = true → j < K → listed.getD j false = true := fun hy ha h => (hv.acts _ _ hy ha).2 h
  cases hact : o.acts with
  | true =>
    have hh : (tr K).h = (tr i).h := by
      by_cases hKi : K ≤ i
      · refine (g.heap hKi (by omega) fun j y hy h1 h2 => ?_).symm
        cases hay : y.acts with
        | false => rfl
        | true =>
          have := hB j (hD.acts j i y o hy ho hay hact h2)
          have := (hv.acts j y hy hay).1 this
          omega
      · rcases hv.bound with h0 | ⟨y, hy, hay⟩
        · omega
        · have h1 := act_listed hy hay (by omega)
          by_cases e : K - 1 = i
          · rw [e, hi] at h1; cases h1
          · have := hv.closed _ h1 i (hD.acts i (K - 1) o y ho hy hact hay (by omega))
            rw [hi] at this; cases this
    obtain ⟨v, h1, h2⟩ := same hh
    exact ⟨v, i + 1, h1, h2, .inl ⟨rfl, rfl⟩⟩
  | false =>
    have hk2 : o.op.kind ≠ 2 := by
      intro e
      simp [VO.acts, e] at hact
    have hst : (tr (i + 1)).h = (tr i).h := vdo_still hk2 hgo
    by_cases hh : (tr K).h = (tr i).h
    · obtain ⟨v, h1, h2⟩ := same hh
      exact ⟨v, K, by rw [h1, hst, hh], h2, .inr ⟨rfl, rfl⟩⟩
    · by_cases hk0 : o.op.kind = 0
      · obtain ⟨v, h1, h2⟩ := vdo_congr (st' := ⟨s, (tr i).h⟩) (hlook _) rfl hgo
        obtain ⟨v2, h3, h4⟩ := vdo_quiet hk0 h2 (tr K).h (tr K).h.next
        refine ⟨v2, K, h4, fun d hd => ?_, .inr ⟨rfl, rfl⟩⟩
        rw [← hdone h1 d hd]
        have e1 := congrArg (fun x : St => x.get d) h3
        simp only [St.get_put, if_pos hd] at e1
        exact e1.symm
      · have hk1 : o.op.kind = 1 := by
          have : o.op.kind = 0 ∨ o.op.kind = 1 ∨ o.op.kind = 2 := by
            cases o.op <;> simp [VOp.kind]
            · rename_i c x; cases c <;> simp
            · rename_i b x; cases b <;> simp
          omega
        have hmem : K ∈ looseKs l B i := by
          unfold looseKs
          rw [List.mem_filter]
          refine ⟨List.mem_range.2 (by have := hv.le; omega), ?_⟩
          rw [Bool.and_eq_true, Bool.and_eq_true, List.all_eq_true, List.any_eq_true]
          have actAt_true : ∀ {j : Nat}, actAt l j = true → ∃ y, l[j]? = some y ∧ y.acts = true := by
            intro j h
            unfold actAt at h
            split at h
            · rename_i y hy; exact ⟨y, hy, h⟩
            · cases h
          refine ⟨⟨?_, fun j hj => ?_⟩, ?_⟩
          · rcases hv.bound with h0 | ⟨y, hy, hay⟩
            · simp [h0]
            · simp [actAt, hy, hay]
          · cases ha : actAt l j with
            | false => rfl
            | true =>
              obtain ⟨y, hy, hay⟩ := actAt_true ha
              have hiff := hv.acts j y hy hay
              simp only [Bool.not_true, Bool.false_or, Bool.and_eq_true, Bool.or_eq_true, Bool.not_eq_true', Nat.blt_eq, Nat.ble_eq]
              constructor
              · by_cases hm : j ∈ B.getD i []
                · exact .inr (hiff.1 (hB j hm))
                · left
                  simpa using hm
              · by_cases hm : i ∈ B.getD j []
                · right
                  rcases Nat.lt_or_ge j K with h | h
                  · have := hv.closed j (hiff.2 h) i hm
                    rw [hi] at this; cases this
                  · exact h
                · left
                  simpa using hm
          · apply Classical.byContradiction
            intro hno
            apply hh
            have hnone : ∀ j y, l[j]? = some y → ((K ≤ j ∧ j < i) ∨ (i ≤ j ∧ j < K)) → y.acts = false := by
              intro j y hy hb
              cases hay : y.acts with
              | false => rfl
              | true =>
                exfalso
                apply hno
                refine ⟨j, List.mem_range.2 (List.getElem?_eq_some_iff.1 hy).1, ?_⟩
                simp only [actAt, hy, hay, Bool.true_and, Bool.or_eq_true, Bool.and_eq_true, Nat.ble_eq, Nat.blt_eq]
                exact hb
            rcases Nat.le_total K i with hle | hle
            · exact (g.heap hle (by omega) fun j y hy h1 h2 => hnone j y hy (.inl ⟨h1, h2⟩)).symm
            · exact g.heap hle hv.le fun j y hy h1 h2 => hnone j y hy (.inr ⟨h1, h2⟩)
        obtain ⟨s1, h1, h2⟩ := hL i o ho hk1 K hmem
        obtain ⟨v, h3, h4⟩ := vdo_congr (st := ⟨(tr i).s, (tr K).h⟩) (st' := ⟨s, (tr K).h⟩) (fun t ht => hlook (tr K).h t ht) rfl h1
        have hs1 : s1.h = (tr K).h := vdo_still (st := ⟨(tr i).s, (tr K).h⟩) hk2 h1
        refine ⟨v, K, by rw [h4, hs1], fun d hd => ?_, .inr ⟨rfl, rfl⟩⟩
        rw [← h2 d hd, h3, St.get_put, if_pos hd]
theorem ready_spec {md : Region.Mode} {i : Nat} (hs : listed.size = ops.size) : i ∈ Region.ready md ops listed ↔ i < ops.size ∧ listed.getD i false = false ∧ ∃ o, ops[i]? = some o ∧ ∀ e ∈ o.after.toList, Region.binds md e = true → listed.getD e.on false = true := by
  unfold Region.ready
  rw [List.mem_filter, List.mem_range]
  constructor
  · rintro ⟨h1, h2⟩
    rw [Bool.and_eq_true] at h2
    refine ⟨h1, ?_, ?_⟩
    · have := h2.1
      rw [Array.getD_eq_getD_getElem?, Array.getElem?_eq_getElem (by omega)] at this ⊢
      simpa using this
    · have h3 := h2.2
      rw [Array.getElem?_eq_getElem h1] at h3 ⊢
      refine ⟨_, rfl, fun e he hb => ?_⟩
      simp only [Option.map_some, Option.getD_some, Array.all_eq_true'] at h3
      have := h3 e (by simpa using he)
      simpa [hb] using this
  · rintro ⟨h1, h2, o, h3, h4⟩
    refine ⟨h1, ?_⟩
    rw [Bool.and_eq_true]
    constructor
    · rw [Array.getD_eq_getD_getElem?, Array.getElem?_eq_getElem (by omega)] at h2 ⊢
      simpa using h2
    · rw [h3]
      simp only [Option.map_some, Option.getD_some, Array.all_eq_true']
      intro e he
      cases hb : Region.binds md e with
      | false => rfl
      | true => simpa [hb] using h4 e (by simpa using he) hb
theorem mem_edges {o : Oper} {x : Nat} : x ∈ edges o ↔ ∃ e ∈ o.after.toList, Region.binds .any e = true ∧ e.on = x := by
  simp only [edges, List.mem_map, List.mem_filter]
  constructor
  · rintro ⟨e, ⟨h1, h2⟩, h3⟩; exact ⟨e, h1, h2, h3⟩
  · rintro ⟨e, h1, h2, h3⟩; exact ⟨e, ⟨h1, h2⟩, h3⟩
theorem all_listed (hs : listed.size = ops.size) (hD : Drawn ops l B) (hr : Region.ready .any ops listed = []) : ∀ i, i < ops.size → listed.getD i false = true := by
  intro i
  induction i using Nat.strongRecOn with
  | _ i ih =>
    intro hi
    apply Classical.byContradiction
    intro hn
    have : i ∈ Region.ready .any ops listed := by
      rw [ready_spec hs]
      refine ⟨hi, by simpa using hn, ops[i], Array.getElem?_eq_getElem hi, fun e he hb => ?_⟩
      have hlt := hD.first i ops[i] (Array.getElem?_eq_getElem hi) e.on (mem_edges.2 ⟨e, he, hb, rfl⟩)
      exact ih e.on hlt (by omega)
    rw [hr] at this
    cases this
def cnt (listed : Array Bool) (n : Nat) : Nat := (List.range n).countP fun i => !listed.getD i false
theorem cnt_lt : ∀ (k : List Nat) (p q : Nat → Bool) (i : Nat), (∀ x, q x = true → p x = true) → i ∈ k → p i = true → q i = false → k.countP q < k.countP p
  | [], _, _, i, _, h, _, _ => by cases h
  | x :: k, p, q, i, hm, hi, hp, hq => by
    rw [List.countP_cons, List.countP_cons]
    have hle : k.countP q ≤ k.countP p := List.countP_mono_left fun x _ h => hm x h
    rcases List.mem_cons.1 hi with rfl | hi'
    · rw [hp, hq]; simp; omega
    · have := cnt_lt k p q i hm hi' hp hq
      by_cases hqx : q x = true
      · rw [if_pos hqx, if_pos (hm x hqx)]; omega
      · rw [if_neg hqx]; omega
theorem any_ok (hcall : CallOk P call) (hl : cOpers P nt ops = some l) (g : Goes call l tr) (hL : Loose call l B tr) (hD : Drawn ops l B) {Q : Exit → Act → World → Prop} {φ0 : Env} {w0 : World} {H0 : Heap} {a0 : Act}
    (hQ : ∀ φ' a' w', SR φ' w' nt (tr ops.size) a' → HR φ' w' (tr ops.size).h → UpdH φ0 w0 H0 φ' w' (tr ops.size).h → a'.defers = a0.defers → Q .normal a' w') :
    ∀ (fuel : Nat) {listed : Array Bool} {s : T AV} {K : Nat} {φ : Env} {w : World} {a : Act}, Inv ops l B tr listed s K → SR φ w nt ⟨s, (tr K).h⟩ a → HR φ w (tr K).h → UpdH φ0 w0 H0 φ w (tr K).h → a.defers = a0.defers → cnt listed ops.size ≤ fuel → wpAnyIn (fen ρ) 0 P .any ops Q fuel listed a w := by
  have hrel := rel_all hl
  have hlen : l.length = ops.size := by
    have : ∀ {is : List Nat} {vs : List VO}, Rel P nt ops is vs → is.length = vs.length := by
      intro is vs h
      induction h with
      | nil => rfl
      | cons _ _ _ ih => simp [ih]
    rw [← this hrel, List.length_range]
  have hat : ∀ i, i < ops.size → ∃ o vo, ops[i]? = some o ∧ l[i]? = some vo ∧ cOper P nt ops o = some vo := by
    have : ∀ {is : List Nat} {vs : List VO}, Rel P nt ops is vs → ∀ (j i : Nat), is[j]? = some i → ∃ o vo, ops[i]? = some o ∧ vs[j]? = some vo ∧ cOper P nt ops o = some vo := by
      intro is vs h
      induction h with
      | nil => intro j i h; simp at h
      | cons h1 h2 _ ih =>
        intro j i h
        cases j with
        | zero => simp at h; subst h; exact ⟨_, _, h1, rfl, h2⟩
        | succ j => simpa using ih j i (by simpa using h)
    intro i hi
    exact this hrel i i (by simp [hi])
  have done : ∀ {listed : Array Bool} {s : T AV} {K : Nat} {φ : Env} {w : World} {a : Act}, Inv ops l B tr listed s K → SR φ w nt ⟨s, (tr K).h⟩ a → HR φ w (tr K).h → UpdH φ0 w0 H0 φ w (tr K).h → a.defers = a0.defers → Region.ready .any ops listed = [] → Q .normal a w := by
    intro listed s K φ w a hv hs hr hu hd hready
    have hall := all_listed hv.size hD hready
    have hh : (tr ops.size).h = (tr K).h := by
      have hKle := hv.le
      refine g.heap (by omega) (by omega) fun j y hy h1 h2 => ?_
      cases hay : y.acts with
      | false => rfl
      | true =>
        have := (hv.acts j y hy hay).1 (hall j h2)
        omega
    have hg : ∀ t, (tr ops.size).get t = St.get ⟨s, (tr K).h⟩ t := by
      intro t
      show _ = St.get ⟨s, (tr 0).h⟩ t
      by_cases hex : ∃ (j : Nat) (y : VO), l[j]? = some y ∧ y.dst = some t
      · obtain ⟨j, y, hy, hdy⟩ := hex
        have hj : j < l.length := (List.getElem?_eq_some_iff.1 hy).1
        rw [g.got hD hy hdy (by omega) (by omega), hv.got j y t hy (hall j (by omega)) hdy]
      · rw [g.old (by omega) fun j y hy _ hdy => hex ⟨j, y, hy, hdy⟩, hv.old t fun j y hy _ hdy => hex ⟨j, y, hy, hdy⟩]
    exact hQ φ a w ⟨hs.size, fun t => by rw [hg]; exact hs.get t⟩ (by rw [hh]; exact hr) (by rw [hh]; exact hu) hd
  intro fuel
  induction fuel with
  | zero =>
    intro listed s K φ w a hv hs hr hu hd hc
    have hready : Region.ready .any ops listed = [] := by
      cases hrd : Region.ready .any ops listed with
      | nil => rfl
      | cons i is =>
        exfalso
        have hi : i ∈ Region.ready .any ops listed := by rw [hrd]; exact .head _
        obtain ⟨h1, h2, _⟩ := (ready_spec hv.size).1 hi
        have : 0 < cnt listed ops.size := List.countP_pos_iff.2 ⟨i, List.mem_range.2 h1, by rw [h2]; rfl⟩
        omega
    exact ⟨hready, done hv hs hr hu hd hready⟩
  | succ fuel ih =>
    intro listed s K φ w a hv hs hr hu hd hc
    refine ⟨fun hready => done hv hs hr hu hd hready, fun i hi => ?_⟩
    obtain ⟨h1, h2, o', ho', hedge⟩ := (ready_spec hv.size).1 hi
    obtain ⟨o, vo, ho, hvo, hco⟩ := hat i h1
    rw [ho] at ho'
    have eo : o = o' := Option.some.inj ho'
    subst eo
    have hB : ∀ j ∈ B.getD i [], listed.getD j false = true := by
      intro j hj
      obtain ⟨e, he, h⟩ := hD.close i o ho j hj
      obtain ⟨e', he1, he2, rfl⟩ := mem_edges.1 he
      have hle := hedge e' he1 he2
      rcases h with rfl | h
      · exact hle
      · exact hv.closed _ hle j h
    obtain ⟨v, K', e1, e2, e3⟩ := hv.step g hL hD hvo h2 hB
    have hv' := hv.next hD hvo h1 h2 hB e2 e3 (tr K').h
    unfold wpOpIn
    rw [ho]
    simp only
    refine vdo_ok hcall hco hs hr (hr.next _ (Nat.le_refl _)) e1 fun φ' a' w' hs' hr' hu' hd' => ?_
    rw [St.put_h] at hr' hu'
    refine ih hv' ?_ hr' (hu.trans hu') (hd'.trans hd) ?_
    · exact ⟨hs'.size, hs'.get⟩
    · have : cnt (listed.setIfInBounds i true) ops.size < cnt listed ops.size := by
        refine cnt_lt _ _ _ i (fun x hx => ?_) (List.mem_range.2 h1) (by rw [h2]; rfl) ?_
        · rw [set_getD _ (by rw [hv.size]; exact h1)] at hx
          by_cases e : x = i
          · rw [if_pos e] at hx; cases hx
          · rw [if_neg e] at hx; exact hx
        · rw [set_getD _ (by rw [hv.size]; exact h1), if_pos rfl]; rfl
      omega
end
open Go.RowKit
section
variable {ops : Array Oper} {l : List VO} {B : List (List Nat)} {call : Nat → List AV → Heap → Option (AV × Heap)} {base : Nat} {tr : Nat → St} {listed : Array Bool} {s : T AV} {K : Nat}
theorem name_calm {i : Nat} {o : VO} {h : Heap} (hf : o.op.fresh = false) : nameAt base i o h = h.next := by unfold nameAt; rw [hf]; rfl
/-- the first act behind K that is there at all -/
theorem first_act {P : Nat → Prop} : ∀ j, P j → ∃ i, P i ∧ i ≤ j ∧ ∀ k, P k → i ≤ k := by
  intro j
  induction j using Nat.strongRecOn with
  | _ j ih =>
    intro hj
    by_cases h : ∃ i, P i ∧ i < j
    · obtain ⟨i, h1, h2⟩ := h
      obtain ⟨k, a, b, c⟩ := ih i h2 h1
      exact ⟨k, a, by omega, c⟩
    · exact ⟨j, hj, Nat.le_refl _, fun k hk => by
        rcases Nat.lt_or_ge k j with h' | h'
        · exact absurd ⟨k, hk, h'⟩ h
        · exact h'⟩
theorem Stands.none_between (hs : Stands l listed K) {i : Nat} (h : ∀ (x : Nat) (y : VO), l[x]? = some y → y.acts = true → x < i → listed.getD x false = true) : ∀ (x : Nat) (y : VO), l[x]? = some y → K ≤ x → x < i → y.acts = false := by
  intro x y hx h1 h2
  cases ha : y.acts with
  | false => rfl
  | true =>
    exfalso
    obtain ⟨f, ⟨hKf, z, hz, hza⟩, hfx, hmin⟩ := first_act (P := fun f => K ≤ f ∧ ∃ z, l[f]? = some z ∧ z.acts = true) x ⟨h1, y, hx, ha⟩
    have h3 := hs.head f z hz hza hKf fun i' x' h4 h5 h6 => hmin i' ⟨h6, x', h4, h5⟩
    rw [h f z hz hza (by omega)] at h3
    cases h3
theorem Stands.step (hs : Stands l listed K) (hv : Slots ops l B tr listed s) (g : GoesM call base l tr) (hL : Loose call l B tr) (hD : Mixed ops l B) {i : Nat} {o : VO} (ho : l[i]? = some o) (hf : o.op.fresh = false) (hi : listed.getD i false = false) (hB : ∀ j ∈ B.getD i [], listed.getD j false = true) :
    ∃ v K', vdo call ⟨s, (tr K).h⟩ (tr K).h.next o = some (St.put ⟨s, (tr K').h⟩ o.dst v) ∧ (∀ d, o.dst = some d → v = (tr (i + 1)).get d) ∧ ((o.acts = true ∧ K' = i + 1 ∧ K ≤ i ∧ ∀ (x : Nat) (y : VO), l[x]? = some y → y.acts = true → x < i → listed.getD x false = true) ∨ (o.acts = false ∧ K' = K)) := by
  have hil : i < l.length := (List.getElem?_eq_some_iff.1 ho).1
  have hlook : ∀ h, ∀ t ∈ o.looks, (tr i).get t = St.get ⟨s, h⟩ t := fun h t ht => (hv.looks g hD ho hi hB ht).symm
  have hgo := g i o ho
  rw [name_calm hf] at hgo
  have hdone : ∀ {v : AV} {x : St}, tr (i + 1) = St.put x o.dst v → ∀ d, o.dst = some d → v = (tr (i + 1)).get d := by
    intro v x hx d hd
    rw [hx, St.get_put, if_pos hd]
  -- where memory is the same
  have same : (tr K).h = (tr i).h → ∃ v, vdo call ⟨s, (tr K).h⟩ (tr K).h.next o = some (St.put ⟨s, (tr (i + 1)).h⟩ o.dst v) ∧ ∀ d, o.dst = some d → v = (tr (i + 1)).get d := by
    intro hh
    obtain ⟨v, h1, h2⟩ := vdo_congr (st' := ⟨s, (tr K).h⟩) (hlook _) hh.symm hgo
    exact ⟨v, by rw [hh] at h2 ⊢; exact h2, hdone h1⟩
  cases hact : o.acts with
  | true =>
    have hall : ∀ (x : Nat) (y : VO), l[x]? = some y → y.acts = true → x < i → listed.getD x false = true := fun x y hx hy hlt => by
      rcases hD.acts x i y o hx ho hy hact hlt with h | h
      · exact hB x h
      · rw [hf] at h; cases h
    have hKi : K ≤ i := by
      rcases Nat.lt_or_ge i K with h | h
      · have := hs.pre i o ho hact h
        rw [hi] at this; cases this
      · exact h
    have hh : (tr K).h = (tr i).h := (g.heap hKi (by omega) fun j y hy h1 h2 => hs.none_between hall j y hy h1 h2).symm
    obtain ⟨v, h1, h2⟩ := same hh
    exact ⟨v, i + 1, h1, h2, .inl ⟨rfl, rfl, hKi, hall⟩⟩
  | false =>
    have hk2 : o.op.kind ≠ 2 := by
      intro e
      simp [VO.acts, e] at hact
    have hst : (tr (i + 1)).h = (tr i).h := vdo_still hk2 hgo
    by_cases hh : (tr K).h = (tr i).h
    · obtain ⟨v, h1, h2⟩ := same hh
      exact ⟨v, K, by rw [h1, hst, hh], h2, .inr ⟨rfl, rfl⟩⟩
    · by_cases hk0 : o.op.kind = 0
      · obtain ⟨v, h1, h2⟩ := vdo_congr (st' := ⟨s, (tr i).h⟩) (hlook _) rfl hgo
        obtain ⟨v2, h3, h4⟩ := vdo_quiet hk0 h2 (tr K).h (tr K).h.next
        refine ⟨v2, K, h4, fun d hd => ?_, .inr ⟨rfl, rfl⟩⟩
        rw [← hdone h1 d hd]
        have e1 := congrArg (fun x : St => x.get d) h3
        simp only [St.get_put, if_pos hd] at e1
        exact e1.symm
      · have hk1 : o.op.kind = 1 := by
          have : o.op.kind = 0 ∨ o.op.kind = 1 ∨ o.op.kind = 2 := by
            cases o.op <;> simp [VOp.kind]
            · rename_i c x; cases c <;> simp
            · rename_i b x; cases b <;> simp
          omega
        have hmem : K ∈ looseKs l B i := by
          unfold looseKs
          rw [List.mem_filter]
          refine ⟨List.mem_range.2 (by have := hs.le; omega), ?_⟩
          rw [Bool.and_eq_true, Bool.and_eq_true, List.all_eq_true, List.any_eq_true]
          have actAt_true : ∀ {j : Nat}, actAt l j = true → ∃ y, l[j]? = some y ∧ y.acts = true := by
            intro j h
            unfold actAt at h
            split at h
            · rename_i y hy; exact ⟨y, hy, h⟩
            · cases h
          refine ⟨⟨?_, fun j hj => ?_⟩, ?_⟩
          · rcases hs.bound with h0 | ⟨y, hy, hay⟩
            · simp [h0]
            · simp [actAt, hy, hay]
          · cases ha : actAt l j with
            | false => rfl
            | true =>
              obtain ⟨y, hy, hay⟩ := actAt_true ha
              simp only [Bool.not_true, Bool.false_or, Bool.and_eq_true, Bool.or_eq_true, Bool.not_eq_true', Nat.blt_eq, Nat.ble_eq]
              constructor
              · by_cases hm : j ∈ B.getD i []
                · right
                  rcases Nat.lt_or_ge j K with h | h
                  · exact h
                  · exfalso
                    obtain ⟨f, ⟨hKf, z, hz, hza⟩, hfx, hmin⟩ := first_act (P := fun f => K ≤ f ∧ ∃ z, l[f]? = some z ∧ z.acts = true) j ⟨h, y, hy, hay⟩
                    have h3 := hs.head f z hz hza hKf fun i' x' h4 h5 h6 => hmin i' ⟨h6, x', h4, h5⟩
                    have h4 : f ∈ B.getD i [] := by
                      by_cases e : f = j
                      · rw [e]; exact hm
                      · exact hD.behind i j f o y z ho hk1 hy hay hm hz hza (by omega)
                    rw [hB f h4] at h3
                    cases h3
                · left
                  simpa using hm
              · by_cases hm : i ∈ B.getD j []
                · right
                  rcases Nat.lt_or_ge j K with h | h
                  · have := hv.closed j (hs.pre j y hy hay h) i hm
                    rw [hi] at this; cases this
                  · exact h
                · left
                  simpa using hm
          · apply Classical.byContradiction
            intro hno
            apply hh
            have hnone : ∀ j y, l[j]? = some y → ((K ≤ j ∧ j < i) ∨ (i ≤ j ∧ j < K)) → y.acts = false := by
              intro j y hy hb
              cases hay : y.acts with
              | false => rfl
              | true =>
                exfalso
                apply hno
                refine ⟨j, List.mem_range.2 (List.getElem?_eq_some_iff.1 hy).1, ?_⟩
                simp only [actAt, hy, hay, Bool.true_and, Bool.or_eq_true, Bool.and_eq_true, Nat.ble_eq, Nat.blt_eq]
                exact hb
            rcases Nat.le_total K i with hle | hle
            · exact (g.heap hle (by omega) fun j y hy h1 h2 => hnone j y hy (.inl ⟨h1, h2⟩)).symm
            · exact g.heap hle hs.le fun j y hy h1 h2 => hnone j y hy (.inr ⟨h1, h2⟩)
        obtain ⟨s1, h1, h2⟩ := hL i o ho hk1 K hmem
        obtain ⟨v, h3, h4⟩ := vdo_congr (st := ⟨(tr i).s, (tr K).h⟩) (st' := ⟨s, (tr K).h⟩) (fun t ht => hlook (tr K).h t ht) rfl h1
        have hs1 : s1.h = (tr K).h := vdo_still (st := ⟨(tr i).s, (tr K).h⟩) hk2 h1
        refine ⟨v, K, by rw [h4, hs1], fun d hd => ?_, .inr ⟨rfl, rfl⟩⟩
        rw [← h2 d hd, h3, St.get_put, if_pos hd]
end
open Go.RowKit
section
variable {call : Nat → List AV → Heap → Option (AV × Heap)}
theorem fresh_enter {op : VOp} (hf : op.fresh = true) {st : St} {nm f : Nat} {args : List AV} : vop st nm op ≠ .enter f args := by
  intro hv
  cases op <;> simp only [VOp.fresh] at hf <;> try (cases hf; done)
  all_goals
    simp only [vop] at hv
    first
      | (cases hv; done)
      | ((repeat' (split at hv)) <;> cases hv)
theorem vdo_fresh {s : T AV} {H : Heap} {nm : Nat} {o : VO} {st' : St} (hf : o.op.fresh = true) (h : vdo call ⟨s, H⟩ nm o = some st') :
    (st' = St.put ⟨s, H⟩ o.dst .undef ∧ ∀ H', vdo call ⟨s, H'⟩ nm o = some (St.put ⟨s, H'⟩ o.dst .undef)) ∨
    (∃ v x, live (some x) = true ∧ st' = St.put ⟨s, H.mk' nm x⟩ o.dst v ∧ ∀ H', vdo call ⟨s, H'⟩ nm o = some (St.put ⟨s, H'.mk' nm x⟩ o.dst v)) := by
  have hw' : ∀ H', wanted ⟨s, H'⟩ o.guard = wanted ⟨s, H⟩ o.guard := fun H' => wanted_congr fun t _ => rfl
  unfold vdo at h ⊢
  cases hw : wanted ⟨s, H⟩ o.guard with
  | false =>
    rw [hw] at h
    left
    refine ⟨?_, fun H' => by rw [hw', hw]; rfl⟩
    have : St.put ⟨s, H⟩ o.dst .undef = st' := by simpa using h
    exact this.symm
  | true =>
    rw [hw, cond_true] at h
    right
    cases hv : vop ⟨s, H⟩ nm o.op with
    | fail => rw [hv] at h; cases h
    | enter f args => exact absurd hv (fresh_enter hf)
    | val v h1 =>
      rw [hv] at h
      obtain ⟨x, rfl, hx, hall⟩ := vop_fresh hf hv
      have : St.put ⟨s, H.mk' nm x⟩ o.dst v = st' := by simpa using h
      exact ⟨v, x, hx, this.symm, fun H' => by rw [hw', hw, cond_true, hall H']⟩
end
open Go.RowKit
section
variable {φ φ' : Env} {w w' : World} {H : Heap} {nm : Nat}
/-- back to the name kept ahead -/
theorem wait_hr {x : Blk} (hd : H.get nm = some .dead) (hn : ∀ b, H.next ≤ b → H.get b = none) (hr : HR φ' w' ((H.del nm).mk' nm x)) : HR φ' w' H := by
  have hk := kill_ok (b := nm) hr ⟨x, by rw [Heap.get_mk, if_pos rfl]⟩
  refine hk.ext (fun b => ?_) hn
  rw [Heap.get_put]
  by_cases e : b = nm
  · rw [if_pos e, e]; exact hd
  · rw [if_neg e, Heap.get_mk, if_neg e, Heap.get_del, if_neg e]
theorem wait_hr0 (hd : H.get nm = some .dead) (hn : ∀ b, H.next ≤ b → H.get b = none) (hr : HR φ' w' (H.del nm)) : HR φ' w' H := by
  refine ⟨fun b => ?_, hr.lt, fun b b' p p' h1 h2 => ?_, hn⟩
  · by_cases e : b = nm
    · rw [e, hd]; trivial
    · have := hr.blk b
      rw [Heap.get_del, if_neg e] at this
      exact this
  · have L : ∀ {d : Nat}, live (H.get d) = true → live ((H.del nm).get d) = true := by
      intro d h
      rw [Heap.get_del]
      by_cases e : d = nm
      · rw [e, hd] at h; cases h
      · rw [if_neg e]; exact h
    exact hr.inj b b' p p' (L h1) (L h2)
/-- its own block is new -/
theorem wait_new {x : Blk} (hx : live (some x) = true) (hr : HR φ' w' ((H.del nm).mk' nm x)) (u : UpdH φ w (H.del nm) φ' w' ((H.del nm).mk' nm x)) {p : Nat × Nat} (hp : φ' nm = some p) : w.heap.size ≤ p.1 := by
  rcases u.newL nm p.1 p.2 (by rw [Heap.get_mk, if_pos rfl]; exact hx) hp with ⟨b0, o0, h1, h2⟩ | h
  · exfalso
    have hne : b0 ≠ nm := fun e => by rw [e, Heap.get_del, if_pos rfl] at h1; cases h1
    have := hr.inj b0 nm (p.1, o0) p (by rw [Heap.get_mk, if_neg hne]; exact h1) (by rw [Heap.get_mk, if_pos rfl]; exact hx) (u.ext _ _ h2) hp rfl
    exact hne this
  · exact h
end
open Go.RowKit
section
variable {ops : Array Oper} {l : List VO} {base : Nat} {tr : Nat → St} {listed : Array Bool} {K : Nat} {w0 : World} {φ φ' : Env} {w w' : World}
theorem Waits.fresh (hw : Waits l base tr listed K w0 φ w) (hr : HR φ w (tr K).h) {i : Nat} {o : VO} (ho : l[i]? = some o) (hf : o.op.fresh = true) (hi : i < listed.size) (hK : K ≤ i) (hpre : ∀ (j : Nat) (x : VO), l[j]? = some x → x.op.fresh = true → j < K → listed.getD j false = true) {H1 : Heap} (u : UpdH φ w ((tr K).h.del (base + i)) φ' w' H1)
    (h0 : w0.heap.size ≤ w.heap.size) (hb : (tr (i + 1)).h = (tr i).h ∨ BR φ' w' (base + i) ((tr (i + 1)).h.get (base + i))) (hn : ∀ p, φ' (base + i) = some p → w.heap.size ≤ p.1) : Waits l base tr (listed.setIfInBounds i true) K w0 φ' w' := by
  have same : ∀ (j : Nat) (x : VO), l[j]? = some x → x.op.fresh = true → K ≤ j → j ≠ i → φ' (base + j) = φ (base + j) := fun j x hj hx hk hne => by
    have hd := hw.dead j x hj hx hk
    refine (u.deadL (base + j) ?_ ?_).2.2
    · rw [Heap.get_del, if_neg (by omega), hd]; simp
    · rw [Heap.get_del, if_neg (by omega), hd]; rfl
  have liveL : ∀ {b : Nat}, live (((tr K).h.del (base + i)).get b) = true → live ((tr K).h.get b) = true := by
    intro b h
    rw [Heap.get_del] at h
    by_cases e : b = base + i
    · rw [if_pos e] at h; cases h
    · rw [if_neg e] at h; exact h
  refine ⟨hw.dead, fun j x hj hx hk hl => ?_, fun j x hj hx hk hl p hp => ?_, fun j x hj hx hl => ?_⟩
  · by_cases e : j = i
    · rw [e]; exact hb
    · rw [set_getD _ hi, if_neg e] at hl
      refine (hw.wait j x hj hx hk hl).imp id fun hbr => hbr.keep u.toUpd (same j x hj hx hk e) fun p hp => ?_
      obtain ⟨_, h2, _⟩ := hw.own j x hj hx hk hl p hp
      exact u.keepL _ (hr.lt _ _ hp) fun b q hb hq => h2 b q (liveL hb) hq
  · -- whose block it is
    have old : ∀ b q, live ((tr K).h.get b) = true → φ' b = some q → φ b = some q := by
      intro b q hb' hq
      obtain ⟨q0, hq0⟩ := live_named hr hb'
      rw [u.ext _ _ hq0] at hq
      rw [hq0, hq]
    by_cases e : j = i
    · subst e
      refine ⟨Nat.le_trans h0 (hn p hp), fun b q hb' hq he => ?_, fun i' x' q hi' hx' hk' hl' hne hq he => ?_⟩
      · have := hr.lt _ _ (old b q hb' hq)
        have := hn p hp
        omega
      · rw [same i' x' hi' hx' hk' hne] at hq
        have := hr.lt _ _ hq
        have := hn p hp
        omega
    · rw [set_getD _ hi, if_neg e] at hl
      rw [same j x hj hx hk e] at hp
      obtain ⟨h1, h2, h3⟩ := hw.own j x hj hx hk hl p hp
      refine ⟨h1, fun b q hb' hq => h2 b q hb' (old b q hb' hq), fun i' x' q hi' hx' hk' hl' hne hq he => ?_⟩
      by_cases e' : i' = i
      · rw [e'] at hq
        have := hn q hq
        have := hr.lt _ _ hp
        omega
      · rw [set_getD _ hi, if_neg e'] at hl'
        rw [same i' x' hi' hx' hk' e'] at hq
        exact h3 i' x' q hi' hx' hk' hl' hne hq he
  · by_cases e : j = i
    · rw [e, set_getD _ hi, if_pos rfl] at hl; cases hl
    · rw [set_getD _ hi, if_neg e] at hl
      rcases Nat.lt_or_ge j K with h | h
      · rw [hpre j x hj hx h] at hl; cases hl
      · rw [same j x hj hx h e]
        exact hw.none j x hj hx hl
end
open Go.RowKit
section
variable {P : Program} {nt : Nat} {ops : Array Oper} {l : List VO} {B : List (List Nat)} {call : Nat → List AV → Heap → Option (AV × Heap)} {base : Nat} {tr : Nat → St} {listed : Array Bool} {s : T AV} {K : Nat} {ρ : Option Nat}
theorem all_listedM (hs : listed.size = ops.size) (hD : Mixed ops l B) (hr : Region.ready .any ops listed = []) : ∀ i, i < ops.size → listed.getD i false = true := by
  intro i
  induction i using Nat.strongRecOn with
  | _ i ih =>
    intro hi
    apply Classical.byContradiction
    intro hn
    have : i ∈ Region.ready .any ops listed := by
      rw [ready_spec hs]
      refine ⟨hi, by simpa using hn, ops[i], Array.getElem?_eq_getElem hi, fun e he hb => ?_⟩
      have hlt := hD.first i ops[i] (Array.getElem?_eq_getElem hi) e.on (mem_edges.2 ⟨e, he, hb, rfl⟩)
      exact ih e.on hlt (by omega)
    rw [hr] at this
    cases this
theorem mixed_any (hcall : CallOk P call) (hl : cOpers P nt ops = some l) (g : GoesM call base l tr) (hL : Loose call l B tr) (hD : Mixed ops l B) {Q : Exit → Act → World → Prop} {φ0 : Env} {w0 : World} {H0 : Heap} {a0 : Act} (h0 : ∀ (j : Nat) (o : VO), l[j]? = some o → o.op.fresh = true → H0.get (base + j) = none)
    (hQ : ∀ φ' a' w', SR φ' w' nt (tr ops.size) a' → HR φ' w' (tr ops.size).h → UpdH φ0 w0 H0 φ' w' (tr ops.size).h → a'.defers = a0.defers → Q .normal a' w') :
    ∀ (fuel : Nat) {listed : Array Bool} {s : T AV} {K : Nat} {φ : Env} {w : World} {a : Act}, Slots ops l B tr listed s → Stands l listed K → Waits l base tr listed K w0 φ w → w0.heap.size ≤ w.heap.size → SR φ w nt ⟨s, (tr K).h⟩ a → HR φ w (tr K).h → UpdH φ0 w0 H0 φ w (tr K).h → a.defers = a0.defers → cnt listed ops.size ≤ fuel → wpAnyIn (fen ρ) 0 P .any ops Q fuel listed a w := by
  have hrel := rel_all hl
  have hlen : l.length = ops.size := by
    have : ∀ {is : List Nat} {vs : List VO}, Rel P nt ops is vs → is.length = vs.length := by
      intro is vs h
      induction h with
      | nil => rfl
      | cons _ _ _ ih => simp [ih]
    rw [← this hrel, List.length_range]
  have hat : ∀ i, i < ops.size → ∃ o vo, ops[i]? = some o ∧ l[i]? = some vo ∧ cOper P nt ops o = some vo := by
    have : ∀ {is : List Nat} {vs : List VO}, Rel P nt ops is vs → ∀ (j i : Nat), is[j]? = some i → ∃ o vo, ops[i]? = some o ∧ vs[j]? = some vo ∧ cOper P nt ops o = some vo := by
      intro is vs h
      induction h with
      | nil => intro j i h; simp at h
      | cons h1 h2 _ ih =>
        intro j i h
        cases j with
        | zero => simp at h; subst h; exact ⟨_, _, h1, rfl, h2⟩
        | succ j => simpa using ih j i (by simpa using h)
    intro i hi
    exact this hrel i i (by simp [hi])
  have done : ∀ {listed : Array Bool} {s : T AV} {K : Nat} {φ : Env} {w : World} {a : Act}, Slots ops l B tr listed s → Stands l listed K → Waits l base tr listed K w0 φ w → w0.heap.size ≤ w.heap.size → SR φ w nt ⟨s, (tr K).h⟩ a → HR φ w (tr K).h → UpdH φ0 w0 H0 φ w (tr K).h → a.defers = a0.defers → Region.ready .any ops listed = [] → Q .normal a w := by
    intro listed s K φ w a hv hst hw hsz hs hr hu hd hready
    have hall := all_listedM hv.size hD hready
    have hh : (tr ops.size).h = (tr K).h := by
      have hKle := hst.le
      exact g.heap (by omega) (by omega) fun j y hy h1 h2 => hst.none_between (i := ops.size) (fun x y hx _ hlt => hall x hlt) j y hy h1 h2
    have hg : ∀ t, (tr ops.size).get t = St.get ⟨s, (tr K).h⟩ t := by
      intro t
      show _ = St.get ⟨s, (tr 0).h⟩ t
      by_cases hex : ∃ (j : Nat) (y : VO), l[j]? = some y ∧ y.dst = some t
      · obtain ⟨j, y, hy, hdy⟩ := hex
        have hj : j < l.length := (List.getElem?_eq_some_iff.1 hy).1
        rw [g.got hD hy hdy (by omega) (by omega), hv.got j y t hy (hall j (by omega)) hdy]
      · rw [g.old (by omega) fun j y hy _ hdy => hex ⟨j, y, hy, hdy⟩, hv.old t fun j y hy _ hdy => hex ⟨j, y, hy, hdy⟩]
    exact hQ φ a w ⟨hs.size, fun t => by rw [hg]; exact hs.get t⟩ (by rw [hh]; exact hr) (by rw [hh]; exact hu) hd
  intro fuel
  induction fuel with
  | zero =>
    intro listed s K φ w a hv hst hw hsz hs hr hu hd hc
    have hready : Region.ready .any ops listed = [] := by
      cases hrd : Region.ready .any ops listed with
      | nil => rfl
      | cons i is =>
        exfalso
        have hi : i ∈ Region.ready .any ops listed := by rw [hrd]; exact .head _
        obtain ⟨h1, h2, _⟩ := (ready_spec hv.size).1 hi
        have : 0 < cnt listed ops.size := List.countP_pos_iff.2 ⟨i, List.mem_range.2 h1, by rw [h2]; rfl⟩
        omega
    exact ⟨hready, done hv hst hw hsz hs hr hu hd hready⟩
  | succ fuel ih =>
    intro listed s K φ w a hv hst hw hsz hs hr hu hd hc
    refine ⟨fun hready => done hv hst hw hsz hs hr hu hd hready, fun i hi => ?_⟩
    obtain ⟨h1, h2, o', ho', hedge⟩ := (ready_spec hv.size).1 hi
    obtain ⟨o, vo, ho, hvo, hco⟩ := hat i h1
    rw [ho] at ho'
    have eo : o = o' := Option.some.inj ho'
    subst eo
    have hB : ∀ j ∈ B.getD i [], listed.getD j false = true := by
      intro j hj
      obtain ⟨e, he, h⟩ := hD.close i o ho j hj
      obtain ⟨e', he1, he2, rfl⟩ := mem_edges.1 he
      have hle := hedge e' he1 he2
      rcases h with rfl | h
      · exact hle
      · exact hv.closed _ hle j h
    cases hf : vo.op.fresh with
    | false =>
      obtain ⟨v, K', e1, e2, e3⟩ := hst.step hv g hL hD hvo hf h2 hB
      have hv' := hv.next hD hvo h1 hB e2 (tr K').h
      unfold wpOpIn
      rw [ho]
      simp only
      refine vdo_ok hcall hco hs hr (hr.next _ (Nat.le_refl _)) e1 fun φ' a' w' hs' hr' hu' hd' => ?_
      rw [St.put_h] at hr' hu'
      have hil : i < l.length := (List.getElem?_eq_some_iff.1 hvo).1
      have hset : ∀ j, (listed.setIfInBounds i true).getD j false = if j = i then true else listed.getD j false := set_getD _ (by rw [hv.size]; exact h1)
      have hne : ∀ (j : Nat) (x : VO), l[j]? = some x → x.op.fresh = true → j ≠ i := fun j x hj hx e => by
        rw [e, hvo] at hj; cases hj; rw [hf] at hx; cases hx
      have hKK : K ≤ K' := by rcases e3 with ⟨_, rfl, h, _⟩ | ⟨_, rfl⟩ <;> omega
      have hpre : ∀ (j : Nat) (x : VO), l[j]? = some x → x.acts = true → j < K' → (listed.setIfInBounds i true).getD j false = true := fun j x hj hx hlt => by
        rw [hset]
        by_cases e : j = i
        · rw [if_pos e]
        · rw [if_neg e]
          rcases e3 with ⟨_, rfl, _, h⟩ | ⟨_, rfl⟩
          · exact h j x hj hx (by omega)
          · exact hst.pre j x hj hx hlt
      have hw' := Waits.step (K' := K') (listed' := listed.setIfInBounds i true) hw hr hu' hKK (fun j x hj hx _ => by rw [hset, if_neg (hne j x hj hx)]) (fun j x hj hx hlt => hpre j x hj (fresh_acts hx) hlt)
      obtain ⟨K2, q1, q2, q3, q4⟩ := absorb_all g h0 _ K' rfl hpre (fun j x hj hx hge hlj => by
        rw [hset] at hlj
        by_cases e : j = i
        · exfalso
          rcases e3 with ⟨_, rfl, _, _⟩ | ⟨hn, rfl⟩
          · omega
          · rw [e, hvo] at hj; cases hj; rw [hn] at hx; cases hx
        · rw [if_neg e] at hlj
          exact hst.post j x hj hx (by omega) hlj) (by
        rcases e3 with ⟨ha, rfl, _, _⟩ | ⟨_, rfl⟩
        · exact .inr ⟨vo, by simpa using hvo, ha⟩
        · exact hst.bound) (by
        rcases e3 with ⟨ha, rfl, _, _⟩ | ⟨_, rfl⟩
        · exact hil
        · exact hst.le) hw' hr' (hu.trans hu')
      refine ih hv' q1 q2 (Nat.le_trans hsz hu'.size) ⟨hs'.size, hs'.get⟩ q3 q4 (hd'.trans hd) ?_
      have : cnt (listed.setIfInBounds i true) ops.size < cnt listed ops.size := by
        refine cnt_lt _ _ _ i (fun x hx => ?_) (List.mem_range.2 h1) (by rw [h2]; rfl) ?_
        · rw [hset] at hx
          by_cases e : x = i
          · rw [if_pos e] at hx; cases hx
          · rw [if_neg e] at hx; exact hx
        · rw [hset, if_pos rfl]; rfl
      omega
    | true =>
      have hil : i < l.length := (List.getElem?_eq_some_iff.1 hvo).1
      have hact := fresh_acts hf
      have hKi : K ≤ i := by
        rcases Nat.lt_or_ge i K with h | h
        · have := hst.pre i vo hvo hact h
          rw [h2] at this; cases this
        · exact h
      have hdead := hw.dead i vo hvo hf hKi
      have hno := hw.none i vo hvo hf h2
      have hgo := g i vo hvo
      rw [show nameAt base i vo (tr i).h = base + i by unfold nameAt; rw [hf]; rfl] at hgo
      obtain ⟨v, t1, t2⟩ := vdo_congr (st' := ⟨s, (tr i).h⟩) (fun t ht => (hv.looks g hD hvo h2 hB ht).symm) rfl hgo
      have hval : ∀ d, vo.dst = some d → v = (tr (i + 1)).get d := fun d hd => by rw [t1, St.get_put, if_pos hd]
      have hset : ∀ j, (listed.setIfInBounds i true).getD j false = if j = i then true else listed.getD j false := set_getD _ (by rw [hv.size]; exact h1)
      have hrd := hr.del hno
      unfold wpOpIn
      rw [ho]
      simp only
      have hv' := fun h' => hv.next hD hvo h1 hB hval h'
      have fin : ∀ {φ' : Env} {a' : Act} {w' : World} {H1 : Heap}, SR φ' w' nt (St.put ⟨s, H1⟩ vo.dst v) a' → HR φ' w' (tr K).h → UpdH φ w ((tr K).h.del (base + i)) φ' w' H1 → UpdH φ0 w0 H0 φ' w' (tr K).h →
          ((tr (i + 1)).h = (tr i).h ∨ BR φ' w' (base + i) ((tr (i + 1)).h.get (base + i))) → (∀ p, φ' (base + i) = some p → w.heap.size ≤ p.1) → a'.defers = a.defers → wpAnyIn (fen ρ) 0 P .any ops Q fuel (listed.setIfInBounds i true) a' w' := by
        intro φ' a' w' H1 hs' hr' hu' hu0 hb hn hd'
        have hw' := hw.fresh hr hvo hf (by rw [hv.size]; exact h1) hKi (fun j x hj hx hlt => hst.pre j x hj (fresh_acts hx) hlt) hu' hsz hb hn
        obtain ⟨K2, q1, q2, q3, q4⟩ := absorb_all g h0 _ K rfl (fun j x hj hx hlt => by
          rw [hset]
          by_cases e : j = i
          · rw [if_pos e]
          · rw [if_neg e]; exact hst.pre j x hj hx hlt) (fun j x hj hx hge hlj => by
          rw [hset] at hlj
          by_cases e : j = i
          · rw [e, hvo] at hj; cases hj; exact hf
          · rw [if_neg e] at hlj; exact hst.post j x hj hx hge hlj) hst.bound hst.le hw' hr' hu0
        refine ih (hv' H1) q1 q2 (Nat.le_trans hsz hu'.size) ⟨hs'.size, hs'.get⟩ q3 q4 (hd'.trans hd) ?_
        have : cnt (listed.setIfInBounds i true) ops.size < cnt listed ops.size := by
          refine cnt_lt _ _ _ i (fun x hx => ?_) (List.mem_range.2 h1) (by rw [h2]; rfl) ?_
          · rw [hset] at hx
            by_cases e : x = i
            · rw [if_pos e] at hx; cases hx
            · rw [if_neg e] at hx; exact hx
          · rw [hset, if_pos rfl]; rfl
        omega
      have huD : UpdH φ0 w0 H0 φ w ((tr K).h.del (base + i)) := hu.fewer (fun b hb => by
        rw [Heap.get_del] at hb
        by_cases e : b = base + i
        · rw [if_pos e] at hb; cases hb
        · rw [if_neg e] at hb; exact hb) (fun b hb => by
        rw [Heap.get_del, if_neg (fun e => hb (by rw [e]; exact h0 i vo hvo hf))]
        exact hu.stay b hb)
      have back : ∀ {φ' : Env} {w' : World} {H1 : Heap}, (∀ b, b ≠ base + i → H1.get b = (tr K).h.get b) → UpdH φ w ((tr K).h.del (base + i)) φ' w' H1 → UpdH φ0 w0 H0 φ' w' (tr K).h := fun hH u => (huD.trans u).fewer (fun b hb => by
        have e : b ≠ base + i := fun e => by rw [e, hdead] at hb; cases hb
        rw [hH b e]; exact hb) (fun b hb => hu.stay b hb)
      have hslot : ∀ {h h' : Heap} {v2 : AV}, St.put ⟨s, h⟩ vo.dst v = St.put ⟨s, h'⟩ vo.dst v2 → ∀ H1 : Heap, St.put ⟨s, H1⟩ vo.dst v2 = St.put ⟨s, H1⟩ vo.dst v := by
        intro h h' v2 e H1
        have es := congrArg St.s e
        cases hd : vo.dst with
        | none => rfl
        | some d =>
          rw [hd] at es
          exact congrArg (fun x => (⟨x, H1⟩ : St)) es.symm
      rcases vdo_fresh hf t2 with ⟨c1, c2⟩ | ⟨v2, x, hx, c1, c2⟩
      · have hh : (tr (i + 1)).h = (tr i).h := by have := congrArg St.h c1; rw [St.put_h, St.put_h] at this; exact this
        refine vdo_ok hcall hco (st := ⟨s, (tr K).h.del (base + i)⟩) ⟨hs.size, hs.get⟩ hrd (by rw [Heap.get_del, if_pos rfl]) (c2 _) fun φ' a' w' hs' hr' hu' hd' => ?_
        rw [St.put_h] at hr' hu'
        rw [hslot c1] at hs'
        exact fin hs' (wait_hr0 hdead hr.next hr') hu' (back (fun b hb => by rw [Heap.get_del, if_neg hb]) hu') (.inl hh) (fun p hp => by
          have := hr'.blk (base + i)
          rw [Heap.get_del, if_pos rfl] at this
          rw [show φ' (base + i) = none from this] at hp; cases hp) hd'
      · have hh : (tr (i + 1)).h = (tr i).h.mk' (base + i) x := by have := congrArg St.h c1; rw [St.put_h, St.put_h] at this; exact this
        refine vdo_ok hcall hco (st := ⟨s, (tr K).h.del (base + i)⟩) ⟨hs.size, hs.get⟩ hrd (by rw [Heap.get_del, if_pos rfl]) (c2 _) fun φ' a' w' hs' hr' hu' hd' => ?_
        rw [St.put_h] at hr' hu'
        rw [hslot c1] at hs'
        exact fin hs' (wait_hr hdead hr.next hr') hu' (back (fun b hb => by rw [Heap.get_mk, if_neg hb, Heap.get_del, if_neg hb]) hu') (.inr (by
          rw [hh, Heap.get_mk, if_pos rfl]
          have := hr'.blk (base + i)
          rwa [Heap.get_mk, if_pos rfl] at this)) (fun p hp => wait_new hx hr' hu' hp) hd'
end
open Go.RowKit
section
variable {P : Program} {ops : Array Oper} {l : List VO} {call : Nat → List AV → Heap → Option (AV × Heap)}
theorem rel_len {nt : Nat} : ∀ {is : List Nat} {vs : List VO}, Rel P nt ops is vs → is.length = vs.length := by
  intro is vs h
  induction h with
  | nil => rfl
  | cons _ _ _ ih => simp [ih]
/-- the looks of a trace -/
theorem loose_of {B : List (List Nat)} {trl : List St} {st : St} (hlo : looseOk call l trl (looseOf l B) = true) (t3 : ∀ i o, l[i]? = some o → o.op.kind = 1 → ∃ a b, trl[i]? = some a ∧ trl[i + 1]? = some b) : Loose call l B (fun i => trl.getD i st) := by
  intro i o ho hk k hkm
  have hmem : (i, looseKs l B i) ∈ looseOf l B := by
    unfold looseOf
    rw [List.mem_filterMap]
    refine ⟨(o, i), by rw [List.mem_zipIdx_iff_getElem?]; exact ho, ?_⟩
    simp only [hk, T.beq_dec, decide_true, if_true]
    cases hks : looseKs l B i with
    | nil => rw [hks] at hkm; cases hkm
    | cons => rfl
  unfold looseOk at hlo
  rw [List.all_eq_true] at hlo
  have := hlo _ hmem
  rw [List.all_eq_true] at this
  have := this k hkm
  obtain ⟨x, y, h1, h2⟩ := t3 i o ho hk
  simp only [ho, h1, h2] at this
  split at this
  · rename_i o1 si sk sj g1 g2 g3 g4
    cases g1
    cases g2
    cases g4
    split at this
    · rename_i s' hs'
      refine ⟨s', ?_, fun d hd => ?_⟩
      · simp only [List.getD_eq_getElem?_getD, h1, g3, Option.getD_some]
        exact hs'
      · rw [hd] at this
        simp only [List.getD_eq_getElem?_getD, h2, Option.getD_some]
        exact AV.eqb_eq this
    · cases this
  · cases this
theorem reserve_next {base : Nat} : ∀ (l : List VO) (k : Nat) {h : Heap}, (∀ b, h.next ≤ b → h.get b = none) → ∀ b, (reserve base l k h).next ≤ b → (reserve base l k h).get b = none
  | [], _, _, hn => hn
  | x :: l, k, h, hn => by
    rw [reserve]
    refine reserve_next l (k + 1) fun b hb => ?_
    cases hx : x.op.fresh with
    | false => rw [hx, cond_false] at hb; rw [cond_false]; exact hn b hb
    | true =>
      rw [hx, cond_true] at hb
      have hb' : max h.next (base + k + 1) ≤ b := hb
      rw [cond_true, Heap.get_mk, if_neg (by omega)]
      exact hn b (by omega)
/-- names kept ahead -/
theorem reserve_old {k : Nat} {h : Heap} (hn : ∀ b, h.next ≤ b → h.get b = none) {b : Nat} (hb : h.get b ≠ none) : (reserve h.next l k h).get b = h.get b := by
  rw [reserve_get, if_neg]
  rintro ⟨i, o, _, _, rfl⟩
  exact hb (hn _ (by omega))
theorem reserve_live {k : Nat} {h : Heap} {b : Nat} {base : Nat} (hl : live ((reserve base l k h).get b) = true) : (reserve base l k h).get b = h.get b := by
  rw [reserve_get] at hl ⊢
  split at hl
  · cases hl
  · rename_i e; rw [if_neg e]
theorem reserve_hr {φ : Env} {w : World} {k : Nat} {h : Heap} (hr : HR φ w h) : HR φ w (reserve h.next l k h) := by
  refine ⟨fun b => ?_, hr.lt, fun b b' p p' h1 h2 => ?_, reserve_next l k hr.next⟩
  · rw [reserve_get]
    split
    · trivial
    · exact hr.blk b
  · rw [reserve_live h1] at h1
    rw [reserve_live h2] at h2
    exact hr.inj b b' p p' h1 h2
theorem reserve_updH {φ : Env} {w : World} {k : Nat} {h : Heap} (hr : HR φ w h) : UpdH φ w h φ w (reserve h.next l k h) :=
  { toUpd := Upd.refl _ _, keepL := fun _ _ _ => rfl
    deadL := fun b h1 h2 => by rw [reserve_old hr.next h1]; exact ⟨h1, h2, rfl⟩
    newL := fun b B o h1 h2 => .inl ⟨b, o, by rw [reserve_live h1] at h1; exact h1, h2⟩
    stay := fun b hb => by rw [reserve_old hr.next hb]; exact hb }
end
section
variable {P : Program}
theorem nothing_listed {n i : Nat} : (Array.replicate n false).getD i false = false := by
  simp [Array.getD_eq_getD_getElem?, Array.getElem?_replicate]
  split <;> simp
theorem drawn_ok (hm : P.follows .mixedOrders = true) : DrawnOk P := by
  intro ρ nt id ops vc hc call rec hcall φ w st st' a ex Q hs hr h hQ
  simp only [cCode] at hc
  obtain ⟨l, hl, hc⟩ := Option.map_eq_some_iff.1 hc
  have hlen : l.length = ops.size := by rw [← rel_len (rel_all hl), List.length_range]
  cases hchk : drawnChk ops.toList l (before ops) with
  | false =>
    rw [hchk, cond_false] at hc
    cases hchm : mixedChk ops.toList l (before ops) with
    | false => rw [hchm, cond_false] at hc; cases hc; cases h
    | true =>
      rw [hchm, cond_true] at hc
      cases hc
      have hD := mixed_spec hchm
      simp only [vstep] at h
      split at h
      · rename_i trl htr
        cases hlo : looseOk call l trl (looseOf l (before ops)) with
        | false => rw [hlo] at h; cases h
        | true =>
          rw [hlo, cond_true] at h
          obtain ⟨stn, hlast, hh⟩ := Option.map_eq_some_iff.1 h
          cases hh
          obtain ⟨t1, t2, t3⟩ := mtrace_spec htr
          have tr0 : trl.getD 0 st = ⟨st.s, reserve st.h.next l 0 st.h⟩ := by rw [List.getD_eq_getElem?_getD, t2]; rfl
          have trn : trl.getD ops.size st = st' := by
            rw [List.getLast?_eq_getElem?, t1] at hlast
            rw [List.getD_eq_getElem?_getD, ← hlen]
            simp at hlast
            rw [hlast]; rfl
          have g : GoesM call st.h.next l (fun i => trl.getD i st) := by
            intro i o ho
            obtain ⟨x, y, h1, h2, h3⟩ := t3 i o ho
            rw [Nat.zero_add] at h3
            simp only [List.getD_eq_getElem?_getD, h1, h2, Option.getD_some]
            exact h3
          have hL : Loose call l (before ops) (fun i => trl.getD i st) := loose_of hlo fun i o ho _ => by
            obtain ⟨x, y, h1, h2, _⟩ := t3 i o ho
            exact ⟨x, y, h1, h2⟩
          apply wpIn_region_any hm
          have hr0 := reserve_hr (l := l) (k := 0) hr
          have hnone : ∀ j, st.h.get (st.h.next + j) = none := fun j => hr.next _ (by omega)
          refine mixed_any (s := st.s) (K := 0) (φ := φ) (w0 := w.drew) hcall hl g hL hD (φ0 := φ) (H0 := st.h) (a0 := a) (fun j _ _ _ => hnone j) (by simp only [trn]; exact fun φ' a' w' h1 h2 h3 h4 => hQ φ' a' w' h1 h2 ((updH_drew _).trans h3) h4) ops.size ?_ ?_ ?_ (Nat.le_refl _) ?_ ?_ ?_ rfl ?_
          · refine ⟨by simp, fun i h => ?_, fun i o t _ h => ?_, fun t _ => by simp only [tr0]⟩
            · rw [nothing_listed] at h; cases h
            · rw [nothing_listed] at h; cases h
          · exact ⟨fun j _ _ _ h => absurd h (Nat.not_lt_zero _), fun j _ _ _ _ h => (by rw [nothing_listed] at h; cases h), fun j _ _ _ _ _ => nothing_listed, .inl rfl, Nat.zero_le _⟩
          · refine ⟨fun j o hj hf _ => ?_, fun j o _ _ _ h => (by rw [nothing_listed] at h; cases h), fun j o _ _ _ h => (by rw [nothing_listed] at h; cases h), fun j o _ _ _ => ?_⟩
            · simp only [tr0]
              rw [reserve_get, if_pos ⟨j, o, hj, hf, by omega⟩]
            · have := hr.blk (st.h.next + j)
              rw [hnone j] at this
              exact this
          · simp only [tr0]
            exact ⟨(hs.upd upd_drew).size, (hs.upd upd_drew).get⟩
          · simp only [tr0]
            exact hr_drew hr0
          · simp only [tr0]
            exact (reserve_updH (hr_drew hr))
          · unfold cnt
            exact Nat.le_trans List.countP_le_length (by simp)
      · cases h
  | true =>
    rw [hchk, cond_true] at hc
    cases hc
    have hD := drawn_spec hchk
    simp only [vstep] at h
    split at h
    · rename_i trl htr
      cases hlo : looseOk call l trl (looseOf l (before ops)) with
      | false => rw [hlo] at h; cases h
      | true =>
        rw [hlo, cond_true] at h
        obtain ⟨stn, hlast, hh⟩ := Option.map_eq_some_iff.1 h
        cases hh
        obtain ⟨t1, t2, t3⟩ := vtrace_spec htr
        have tr0 : trl.getD 0 st = st := by rw [List.getD_eq_getElem?_getD, t2]; rfl
        have trn : trl.getD ops.size st = st' := by
          rw [List.getLast?_eq_getElem?, t1] at hlast
          rw [List.getD_eq_getElem?_getD, ← hlen]
          simp at hlast
          rw [hlast]; rfl
        have g : Goes call l (fun i => trl.getD i st) := by
          intro i o ho
          obtain ⟨x, y, h1, h2, h3⟩ := t3 i o ho
          simp only [List.getD_eq_getElem?_getD, h1, h2, Option.getD_some]
          exact h3
        have hL : Loose call l (before ops) (fun i => trl.getD i st) := loose_of hlo fun i o ho _ => by
          obtain ⟨x, y, h1, h2, _⟩ := t3 i o ho
          exact ⟨x, y, h1, h2⟩
        apply wpIn_region_any hm
        refine any_ok (s := st.s) (K := 0) (φ := φ) hcall hl g hL hD (φ0 := φ) (w0 := w) (H0 := st.h) (a0 := a) (by simp only [trn]; exact hQ) ops.size ?_ ?_ ?_ ?_ rfl ?_
        · refine ⟨by simp, fun i h => ?_, fun i o t _ h => ?_, fun t _ => by simp only [tr0], fun j o _ _ => ?_, .inl rfl, Nat.zero_le _⟩
          · simp [Array.getD_eq_getD_getElem?, Array.getElem?_replicate] at h
            split at h <;> simp at h
          · simp [Array.getD_eq_getD_getElem?, Array.getElem?_replicate] at h
            split at h <;> simp at h
          · simp [Array.getD_eq_getD_getElem?, Array.getElem?_replicate]
            split <;> simp
        · simp only [tr0]
          exact hs.upd upd_drew
        · simp only [tr0]
          exact hr_drew hr
        · simp only [tr0]
          exact updH_drew _
        · unfold cnt
          exact Nat.le_trans List.countP_le_length (by simp)
    · cases h
end
open Go.RowKit
/-- no name yet -/
def none0 : Env := fun _ => none
theorem hr_empty (w : World) : HR none0 w ⟨0, .e⟩ :=
  ⟨fun _ => rfl, fun _ _ h => (by cases h), fun _ _ _ _ h => (by cases h), fun _ _ => rfl⟩
theorem Upd.below {w w' : World} {φ' : Env} (u : Upd none0 w φ' w') : Below w.heap.size w w' :=
  ⟨u.os, u.tape, u.output, u.size, fun k hk => u.keep k hk fun _ _ h => (by cases h)⟩
/-- a table out of a list of functions with their places -/
def tableOf : List (Nat × VFun) → Nat → Option VFun
  | [], _ => none
  | p :: l, f => bif Nat.beq p.1 f then some p.2 else tableOf l f
theorem table_ok {P : Program} : ∀ {l : List (Nat × VFun)}, (∀ p ∈ l, p.1 < YB ∧ ∃ fn, P.funcs[p.1]? = some fn ∧ cFun P fn = some p.2 ∧ fn.name ≠ "runtime.NumGoroutine") → TableOk P (tableOf l)
  | [], _ => fun f vf h => by cases h
  | p :: l, h => fun f vf hf => by
    simp only [tableOf, T.beq_dec] at hf
    by_cases e : p.1 = f
    · subst e
      rw [decide_eq_true rfl, cond_true] at hf
      cases hf
      exact h p (.head _)
    · rw [decide_eq_false e, cond_false] at hf
      exact table_ok (fun q hq => h q (.tail _ hq)) f vf hf
end Go.Proofs.Ytlemediphmnffaa.VM
namespace Go.Proofs.Ytlemediphmnffaa.VM
open Go.RowKit
section
variable {φ φ' : Env} {w w' : World} {H : Heap}
theorem put_other (w : World) (B : Nat) (o : Obj) {k : Nat} (h : k ≠ B) : (w.putObj B o).heap[k]? = w.heap[k]? := World.putObj_heap_other h
/-- a loop's record, written over -/
theorem loop_write (hr : HR φ w H) {b : Nat} {r : LoopB} (hg : H.get b = some (.loop r)) {B o : Nat} (hb : φ b = some (B, o)) {rec : Loop} (hh : w.heap[B]? = some (.loop rec)) {r' : LoopB} {rec' : Loop} (hx : LoopR φ w r' rec') :
    HR φ (w.putObj B (.loop rec')) (H.put b (.loop r')) ∧ UpdH φ w H φ (w.putObj B (.loop rec')) (H.put b (.loop r')) := by
  have hlt : B < w.heap.size := (Array.getElem?_eq_some_iff.1 hh).1
  have s1 : (w.putObj B (.loop rec')).heap[B]? = some (.loop rec') := World.putObj_heap_same hlt
  have s2 : ∀ B', B' ≠ B → (w.putObj B (.loop rec')).heap[B']? = w.heap[B']? := fun B' h => put_other w B _ h
  have u : Upd φ w φ (w.putObj B (.loop rec')) := by
    refine ⟨rfl, rfl, rfl, by simp, fun _ _ h => h, fun _ _ _ h => .inl ⟨_, _, h⟩, fun B' _ hn => s2 B' (fun e => hn _ _ hb e.symm), fun B' x hx => ?_, dr_le (Nat.le_refl _)⟩
    by_cases e : B' = B
    · subst e
      simp [World.shape?, hh] at hx
    · simpa only [World.shape?, s2 B' e] using hx
  refine ⟨⟨fun c => ?_, fun c p hc => ?_, fun c c' p p' hl hl' hp hp' he => ?_, fun c hc => ?_⟩, updH_put hb (by rw [hg]; rfl) u (fun B' _ hne => s2 B' hne) _⟩
  · rw [Heap.get_put]
    by_cases e : c = b
    · rw [if_pos e, e]
      exact ⟨B, o, rec', hb, s1, hx.upd u⟩
    · rw [if_neg e]
      by_cases hl : live (H.get c) = true
      · refine BR.upd hr u hl fun p hp => s2 p.1 fun eB => ?_
        exact e (hr.inj c b p (B, o) hl (by rw [hg]; rfl) hp hb eB)
      · rcases not_live hl with h | h
        · have := hr.blk c
          rw [h] at this ⊢
          exact this
        · rw [h]; trivial
  · have := hr.lt c p hc
    simpa using this
  · refine hr.inj c c' p p' ?_ ?_ hp hp' he
    · rw [Heap.get_put] at hl
      by_cases e : c = b
      · rw [e, hg]; rfl
      · rwa [if_neg e] at hl
    · rw [Heap.get_put] at hl'
      by_cases e : c' = b
      · rw [e, hg]; rfl
      · rwa [if_neg e] at hl'
  · rw [Heap.get_put]
    have hc' : H.next ≤ c := hc
    have e : c ≠ b := fun e => by
      have := hr.next c hc'
      rw [e, hg] at this; cases this
    rw [if_neg e]
    exact hr.next c hc'
theorem cell_off {D : Nat} {x : Option (List Deferred)} (hD : w.heap[D]? = some (.deferred x)) (o : Obj) {B off : Nat} {u : Value} (hc : w.cell? ⟨B, off, none⟩ = some u) : (w.putObj D o).cell? ⟨B, off, none⟩ = some u := by
  have hne : B ≠ D := by
    intro e
    subst e
    simp [World.cell?, hD] at hc
  rw [cell_of_heap (put_other w D o hne)]
  exact hc
theorem shape_off {D : Nat} {x y : Option (List Deferred)} (hD : w.heap[D]? = some (.deferred x)) {B : Nat} {s : TypeId × Nat} (h : w.shape? B = some s) : (w.putObj D (.deferred y)).shape? B = some s := by
  have hne : B ≠ D := by
    intro e
    subst e
    simp [World.shape?, hD] at h
  simpa only [World.shape?, put_other w D _ hne] using h
mutual
theorem VR.off {D : Nat} {x : Option (List Deferred)} (hD : w.heap[D]? = some (.deferred x)) (y : Option (List Deferred)) : ∀ {v : AV} {u : Value}, VR φ w v u → VR φ (w.putObj D (.deferred y)) v u
  | _, _, .undef h => .undef h
  | _, _, .bool b => .bool b
  | _, _, .int k n => .int k n
  | _, _, .str s => .str s
  | _, _, .ptr h => .ptr h
  | _, _, .nilp => .nilp
  | _, _, .sl h hc hl hs hr => .sl h hc hl (shape_off hD hs) hr
  | _, _, .sl0 a => .sl0 a
  | _, _, .nils => .nils
  | _, _, .map h => .map h
  | _, _, .nilm => .nilm
  | _, _, .fn hf h => .fn hf (h.off hD y)
  | _, _, .yld h => .yld h
  | _, _, .nilf => .nilf
  | _, _, .agg h => .agg (h.off hD y)
  | _, _, .tup h => .tup (h.off hD y)
  | _, _, .rs hl hB hlt h => .rs hl hB (by simpa using hlt) (h.off hD y)
  | _, _, .rs0 a c => .rs0 a c
  | _, _, .rp hB hlt h => .rp hB (by simpa using hlt) (h.off hD y)
theorem VRs.off {D : Nat} {x : Option (List Deferred)} (hD : w.heap[D]? = some (.deferred x)) (y : Option (List Deferred)) : ∀ {l : List AV} {vs : List Value}, VRs φ w l vs → VRs φ (w.putObj D (.deferred y)) l vs
  | _, _, .nil => .nil
  | _, _, .cons h t => .cons (h.off hD y) (t.off hD y)
theorem VRm.off {D : Nat} {x : Option (List Deferred)} (hD : w.heap[D]? = some (.deferred x)) (y : Option (List Deferred)) : ∀ {l : List AV} {B off : Nat}, VRm φ w l B off → VRm φ (w.putObj D (.deferred y)) l B off
  | _, _, _, .nil => .nil
  | _, _, _, .cons hc h t => .cons (cell_off hD _ hc) (h.off hD y) (t.off hD y)
end
theorem HR.off {D : Nat} {x : Option (List Deferred)} (hr : HR φ w H) (hD : w.heap[D]? = some (.deferred x)) (hn : ∀ b p, φ b = some p → p.1 ≠ D) (y : Option (List Deferred)) : HR φ (w.putObj D (.deferred y)) H := by
  have keep : ∀ b p, φ b = some p → (w.putObj D (.deferred y)).heap[p.1]? = w.heap[p.1]? := fun b p hp => put_other w D _ (hn b p hp)
  refine ⟨fun b => ?_, fun b p hb => by simpa using hr.lt b p hb, hr.inj, hr.next⟩
  have h := hr.blk b
  cases hx : H.get b with
  | none => rw [hx] at h; exact h
  | some bk =>
    rw [hx] at h
    cases bk with
    | dead => trivial
    | cells l e ver =>
      obtain ⟨B, o, e', n, h1, h2, h3, h4, h5⟩ := h
      exact ⟨B, o, e', n, h1, shape_off hD h2, h3.off hD y, h4.keep (keep _ _ h1), h5⟩
    | map es ver =>
      obtain ⟨B, o, vs, clock, h1, h2, h3, h4, h5⟩ := h
      exact ⟨B, o, vs, clock, h1, (keep _ _ h1).trans h2, h3.off hD y, h4.off hD y, h5⟩
    | loop r =>
      obtain ⟨B, o, rec, h1, h2, h3⟩ := h
      exact ⟨B, o, rec, h1, (keep _ _ h1).trans h2, ⟨h3.code, fun t => (h3.get t).off hD y, h3.ps, h3.state, h3.pend⟩⟩
    | kf m =>
      obtain ⟨B, Bm, om, e, h1, h2, h3⟩ := h
      exact ⟨B, Bm, om, e, h1, (keep _ _ h1).trans h2, h3⟩
theorem UpdH.off {φ0 : Env} {w0 : World} {H0 : Heap} {D : Nat} {x : Option (List Deferred)} (u : UpdH φ0 w0 H0 φ w H) (hD : w.heap[D]? = some (.deferred x)) (hle : w0.heap.size ≤ D) (y : Option (List Deferred)) : UpdH φ0 w0 H0 φ (w.putObj D (.deferred y)) H :=
  { os := u.os, tape := u.tape, output := u.output, size := by simpa using u.size, ext := u.ext, new := u.new
    keep := fun B hB hn => (put_other w D _ (by omega)).trans (u.keep B hB hn)
    shape := fun B s hs => shape_off hD (u.shape B s hs)
    drawn := u.drawn
    keepL := fun B hB hn => (put_other w D _ (by omega)).trans (u.keepL B hB hn)
    deadL := u.deadL, newL := u.newL, stay := u.stay }
/-- marks among what is put off: blocks of their own, from n on, nothing in them -/
def Marks (n : Nat) (φ : Env) (w : World) : List Deferred → Prop
  | [] => True
  | d :: ds => ∃ D, d = { target := .collected D, args := #[] } ∧ n ≤ D ∧ w.heap[D]? = some (.deferred (some [])) ∧ (∀ b p, φ b = some p → p.1 ≠ D) ∧ (∀ d' ∈ ds, d' ≠ { target := .collected D, args := #[] }) ∧ Marks n φ w ds
theorem Marks.upd {n : Nat} (u : Upd φ w φ' w') : ∀ {ds : List Deferred}, Marks n φ w ds → Marks n φ' w' ds
  | [], _ => trivial
  | _ :: _, ⟨D, h1, h2, h3, h4, h5, h6⟩ => ⟨D, h1, h2, (u.keep D (Array.getElem?_eq_some_iff.1 h3).1 h4).trans h3, named_new u h4 (Array.getElem?_eq_some_iff.1 h3).1, h5, Marks.upd u h6⟩
theorem Marks.lt {n : Nat} : ∀ {ds : List Deferred}, Marks n φ w ds → ∀ d ∈ ds, ∃ D, d = { target := .collected D, args := #[] } ∧ D < w.heap.size
  | _ :: _, ⟨D, h1, _, h3, _, _, h6⟩, d, hd => by
    rcases List.mem_cons.1 hd with rfl | hd
    · exact ⟨D, h1, (Array.getElem?_eq_some_iff.1 h3).1⟩
    · exact Marks.lt h6 d hd
theorem Marks.off {n D : Nat} {o : Obj} : ∀ {ds : List Deferred}, Marks n φ w ds → (∀ d' ∈ ds, d' ≠ { target := .collected D, args := #[] }) → Marks n φ (w.putObj D o) ds
  | [], _, _ => trivial
  | _ :: _, ⟨E, h1, h2, h3, h4, h5, h6⟩, hn => ⟨E, h1, h2, (put_other w D _ (fun e => hn _ (.head _) (by rw [h1, e]))).trans h3, h4, h5, Marks.off h6 fun d hd => hn d (.tail _ hd)⟩
/-- what was put off stays so -/
structure MK (φ : Env) (w : World) (a : Act) (φ' : Env) (w' : World) (a' : Act) : Prop where
  size : w.heap.size ≤ w'.heap.size
  go : ∀ n, n ≤ w.heap.size → Marks n φ w a.defers → Marks n φ' w' a'.defers
theorem MK.of {a a' : Act} (u : Upd φ w φ' w') (e : a'.defers = a.defers) : MK φ w a φ' w' a' := ⟨u.size, fun _ _ h => e ▸ h.upd u⟩
theorem MK.trans {φ1 φ2 : Env} {w1 w2 : World} {a a1 a2 : Act} (h : MK φ w a φ1 w1 a1) (k : MK φ1 w1 a1 φ2 w2 a2) : MK φ w a φ2 w2 a2 :=
  ⟨Nat.le_trans h.size k.size, fun n hn m => k.go n (Nat.le_trans hn h.size) (h.go n hn m)⟩
/-- a function's end -/
theorem leaves_marks {P : Program} {nt : Nat} {st : St} {fn : Func} {R : Ending → World → Prop} {φ0 : Env} {w0 : World} {H0 : Heap} {φ : Env} : ∀ {ds : List Deferred} {a : Act} {w : World}, SR φ w nt st a → HR φ w st.h → UpdH φ0 w0 H0 φ w st.h → Marks w0.heap.size φ w ds →
    (∀ w', SR φ w' nt st a → HR φ w' st.h → UpdH φ0 w0 H0 φ w' st.h → ∃ v, (Go.results fn a.tmps).run P w' = .ok v w' ∧ R (.returned v) w') → LeavesInM Fence.wide 0 P fn a.tmps R ds .returning w
  | [], a, w, hs, hr, hu, _, k => k w hs hr hu
  | _ :: _, a, w, hs, hr, hu, ⟨D, h1, h2, h3, h4, h5, h6⟩, k =>
    ⟨by simp, .inl ⟨D, _, by rw [h1], run_takeDeferred h3, leaves_marks ⟨hs.size, fun t => (hs.get t).off h3 none⟩ (hr.off h3 h4 none) (hu.off h3 h2 none) (h6.off h5) k⟩⟩
end
section
variable {φ φ' : Env} {w w' : World} {H H1 H2 : Heap}
/-- two memories that hold the same cells under the same names -/
def SameH (H1 H2 : Heap) : Prop := H2.next = H1.next ∧ ∀ c, H2.get c = H1.get c ∨ ∃ l e v e' v', H1.get c = some (.cells l e v) ∧ H2.get c = some (.cells l e' v')
theorem SameH.live (s : SameH H1 H2) (c : Nat) : live (H2.get c) = live (H1.get c) ∧ (H2.get c = none ↔ H1.get c = none) := by
  rcases s.2 c with e | ⟨l, e, v, e', v', g1, g2⟩
  · rw [e]; exact ⟨rfl, Iff.rfl⟩
  · rw [g1, g2]; exact ⟨rfl, by simp⟩
theorem HR.congr (hr : HR φ w H1) (s : SameH H1 H2) : HR φ w H2 := by
  refine ⟨fun c => ?_, hr.lt, fun b b' p p' h1 h2 => hr.inj b b' p p' (by rw [← (s.live b).1]; exact h1) (by rw [← (s.live b').1]; exact h2), fun b hb => ((s.live b).2).2 (hr.next b (by rw [← s.1]; exact hb))⟩
  have := hr.blk c
  rcases s.2 c with e | ⟨l, e, v, e', v', g1, g2⟩
  · rw [e]; exact this
  · rw [g1] at this; rw [g2]; exact this
theorem UpdH.congr (u : UpdH φ w H φ' w' H1) (s : SameH H1 H2) : UpdH φ w H φ' w' H2 :=
  { toUpd := u.toUpd
    keepL := u.keepL
    deadL := fun b h1 h2 => by
      obtain ⟨a, c, d⟩ := u.deadL b h1 h2
      exact ⟨fun e => a ((s.live b).2.1 e), by rw [(s.live b).1]; exact c, d⟩
    newL := fun b B o h1 h2 => u.newL b B o (by rw [← (s.live b).1]; exact h1) h2
    stay := fun b h1 e => u.stay b h1 ((s.live b).2.1 e) }
end
end Go.Proofs.Ytlemediphmnffaa.VM
namespace Go.Proofs.Ytlemediphmnffaa.VM
open Go.RowKit
def Cl (P : Program) (f : Nat) (args : List AV) (h : Heap) (Q : AV → Heap → Prop) : Prop := ∃ v h', OK P f args h v h' ∧ Q v h'
theorem Cl.mono {P : Program} {f : Nat} {args : List AV} {h : Heap} {Q R : AV → Heap → Prop} (c : Cl P f args h Q) (k : ∀ v h', Q v h' → R v h') : Cl P f args h R :=
  let ⟨v, h', a, b⟩ := c
  ⟨v, h', a, k v h' b⟩
theorem OK.cl {P : Program} {f : Nat} {args : List AV} {h h' : Heap} {v : AV} (o : OK P f args h v h') {Q : AV → Heap → Prop} (q : Q v h') : Cl P f args h Q := ⟨v, h', o, q⟩
def sg (s : T AV) (t : Nat) : AV := (s.get t).getD .undef
def ev (s : T AV) : Opd → AV
  | .t n => sg s n
  | .c v => v
def setd (s : T AV) (d : Option Nat) (v : AV) : T AV := match d with
  | some d => s.set d v
  | none => s
theorem eval_eq (s : T AV) (h : Heap) (x : Opd) : x.eval ⟨s, h⟩ = ev s x := by cases x <;> rfl
theorem stget_eq (s : T AV) (h : Heap) (t : Nat) : St.get ⟨s, h⟩ t = sg s t := rfl
theorem put_eq (s : T AV) (h : Heap) (d : Option Nat) (v : AV) : St.put ⟨s, h⟩ d v = ⟨setd s d v, h⟩ := by cases d <;> rfl
theorem sg_set (s : T AV) (i : Nat) (v : AV) (j : Nat) : sg (s.set i v) j = if j = i then v else sg s j := by
  unfold sg
  rw [T.get_set]
  split <;> rfl
theorem sg_e (j : Nat) : sg .e j = .undef := rfl
section
variable (P : Program)
mutual
/-- operations, one behind the other -/
def EvO : List VO → T AV → Heap → (T AV → Heap → Prop) → Prop
  | [], s, h, Q => Q s h
  | o :: l, s, h, Q => bif wanted ⟨s, h⟩ o.guard then
      (match vop ⟨s, h⟩ h.next o.op with
      | .val v h' => EvO l (setd s o.dst v) h' Q
      | .fail => False
      | .enter f args => Cl P f args h fun v h' => EvO l (setd s o.dst v) h' Q)
    else EvO l (setd s o.dst .undef) h Q
end
/-- what is left behind an operation -/
def Nx (d : Option Nat) (l : List VO) (s : T AV) (h : Heap) (Q : T AV → Heap → Prop) : Out → Prop
  | .val v h' => EvO P l (setd s d v) h' Q
  | .fail => False
  | .enter f args => Cl P f args h fun v h' => EvO P l (setd s d v) h' Q
def Af (d : Option Nat) (l : List VO) (s : T AV) (Q : T AV → Heap → Prop) : AV → Heap → Prop := fun v h' => EvO P l (setd s d v) h' Q
def DetO (l : List VO) (st st' : St) : Prop := ∀ (ρ : Option Nat) (nt : Nat) (ops : Array Oper) (is rest : List Nat), Rel P nt ops is l → ∀ (φ : Env) (w : World) (a : Act) (R : Exit → Act → World → Prop), SR φ w nt st a → HR φ w st.h →
  (∀ φ' a' w', SR φ' w' nt st' a' → HR φ' w' st'.h → UpdH φ w st.h φ' w' st'.h → a'.defers = a.defers → wpOpsIn (fen ρ) 0 P ops R rest a' w') → wpOpsIn (fen ρ) 0 P ops R (is ++ rest) a w
/-- no loop over a function in it -/
def VCode.flat : VCode → Bool
  | .rangeFn .. => false
  | .rangeM _ _ _ _ _ _ _ _ _ b => b.flat
  | .seq a b => a.flat && b.flat
  | .cond _ a b => a.flat && b.flat
  | .block _ b => b.flat
  | .loop b => b.flat
  | _ => true
def Det (c : VCode) (st : St) (ex : Ex) (st' : St) : Prop := ∀ (ρ : Option Nat), (ρ = none ∨ c.flat = true) → ∀ (nt : Nat) (code : Code), cCode P nt code = some c → ∀ (φ : Env) (w : World) (a : Act) (R : Exit → Act → World → Prop), SR φ w nt st a → HR φ w st.h →
  (∀ φ' a' w', SR φ' w' nt st' a' → HR φ' w' st'.h → UpdH φ w st.h φ' w' st'.h → MK φ w a φ' w' a' → R ex.out a' w') → code.wpIn (fen ρ) 0 P R a w
/-- the end of such a loop's first region, and the loop -/
def DetM (it : Nat) (x : Opd) (out nx mr nxt pr : Nat) (as : List VO) (body : VCode) (st : St) (ex : Ex) (st' : St) : Prop := ∀ (ρ : Option Nat), (ρ = none ∨ body.flat = true) → ∀ (nt : Nat) (ops : Array Oper) (i : Nat) (o : Oper) (code2 : Code), ops[i]? = some o → cOper P nt ops o = some ⟨some it, none, .range x⟩ →
  cCode P nt code2 = some (.block out (.loop (rgBody it out nx mr nxt pr as body))) → ∀ (φ : Env) (w : World) (a : Act) (R : Exit → Act → World → Prop), SR φ w nt st a → HR φ w st.h →
  (∀ φ' a' w', SR φ' w' nt st' a' → HR φ' w' st'.h → UpdH φ w st.h φ' w' st'.h → MK φ w a φ' w' a' → R ex.out a' w') → wpOpsIn (fen ρ) 0 P ops (Exit.then (code2.wpIn (fen ρ) 0 P R) R) [i] a w
def DetL (c : VCode) (st : St) (ex : Ex) (st' : St) : Prop := ∀ (ρ : Option Nat), (ρ = none ∨ c.flat = true) → ∀ (nt : Nat) (code : Code), cCode P nt code = some c → ∀ (φ : Env) (w : World) (a : Act) (R : Exit → Act → World → Prop), SR φ w nt st a → HR φ w st.h →
  (∀ φ' a' w', SR φ' w' nt st' a' → HR φ' w' st'.h → UpdH φ w st.h φ' w' st'.h → MK φ w a φ' w' a' → R ex.out a' w') → LoopWp ρ P code R a w
/-- a loop, from a round's start on -/
def Lp (b : VCode) (s : T AV) (h : Heap) (Q : Ex → T AV → Heap → Prop) : Prop := ∃ ex s' h', DetL P b ⟨s, h⟩ ex ⟨s', h'⟩ ∧ Q ex s' h'
/-- a region whose order is drawn -/
def EvD (l : List VO) (loose : List (Nat × List Nat)) (s : T AV) (h : Heap) (Q : T AV → Heap → Prop) : Prop :=
  ∃ X : Told, CallOk P X ∧ ∃ tr s' h', vtrace X l ⟨s, h⟩ = some tr ∧ looseOk X l tr loose = true ∧ tr.getLast? = some ⟨s', h'⟩ ∧ Q s' h'
/-- the functions that operations call, if each is named and called once -/
def callsOf : List VO → Option (List Nat)
  | [] => some []
  | o :: l => match o.op with
    | .callv .. => none
    | .call f _ => match callsOf l with
      | some k => if k.contains f then none else some (f :: k)
      | none => none
    | _ => callsOf l
/-- a region whose order is drawn: are its calls told apart by their functions, and no look loose? -/
def quietR (l : List VO) (loose : List (Nat × List Nat)) : Bool := loose.isEmpty && (callsOf l).isSome
def EvR (l : List VO) (loose : List (Nat × List Nat)) (s : T AV) (h : Heap) (Q : T AV → Heap → Prop) : Prop := if quietR l loose = true then EvO P l s h Q else EvD P l loose s h Q
/-- the name of a block that an operation makes, in a region with new blocks out of their row -/
def nmA (base i : Nat) (op : VOp) (h : Heap) : Nat := bif op.fresh then base + i else h.next
/-- operations of such a region, one behind the other -/
def EvM (base : Nat) : List VO → Nat → T AV → Heap → (T AV → Heap → Prop) → Prop
  | [], _, s, h, Q => Q s h
  | o :: l, i, s, h, Q => bif wanted ⟨s, h⟩ o.guard then
      (match vop ⟨s, h⟩ (nmA base i o.op h) o.op with
      | .val v h' => EvM base l (i + 1) (setd s o.dst v) h' Q
      | .fail => False
      | .enter f args => Cl P f args h fun v h' => EvM base l (i + 1) (setd s o.dst v) h' Q)
    else EvM base l (i + 1) (setd s o.dst .undef) h Q
def EvMD (l : List VO) (loose : List (Nat × List Nat)) (s : T AV) (h : Heap) (Q : T AV → Heap → Prop) : Prop :=
  ∃ X : Told, CallOk P X ∧ ∃ tr s' h', mtrace X h.next l 0 ⟨s, reserve h.next l 0 h⟩ = some tr ∧ looseOk X l tr loose = true ∧ tr.getLast? = some ⟨s', h'⟩ ∧ Q s' h'
def EvMR (l : List VO) (loose : List (Nat × List Nat)) (s : T AV) (h : Heap) (Q : T AV → Heap → Prop) : Prop := if quietR l loose = true then EvM P h.next l 0 s (reserve h.next l 0 h) Q else EvMD P l loose s h Q
/-- behind a loop over a function: how its last round was left -/
def LoopEnd (nm : Nat) (s : T AV) (h : Heap) (Q : Ex → T AV → Heap → Prop) : Prop := match h.get nm with
  | some (.loop r) => (match r.pend with
    | none => r.state = 0 ∧ Q .normal s (h.put nm .dead)
    | some (.exit i) => r.state = 2 ∧ Q (.exit i) s (h.put nm .dead)
    | some .ret => r.state = 2 ∧ Q .ret s (h.put nm .dead)
    | some .normal => False)
  | _ => False
def RgV (ps : List Nat) (asg b : VCode) (s : T AV) (h : Heap) (Q : Ex → T AV → Heap → Prop) : AV → Prop
  | .fn f caps => f < YB ∧ Cl P f (.yld h.next :: caps) (h.mk' h.next (.loop ⟨P, s, ps, asg, b, 0, none⟩)) fun _ h2 => LoopEnd h.next s h2 Q
  | _ => False
def Ev : VCode → T AV → Heap → (Ex → T AV → Heap → Prop) → Prop
  | .bad, _, _, _ => False
  | .rangeFn g ps asg b, s, h, Q => RgV P ps asg b s h Q (ev s g)
  | .rangeM l it x out nx mr nxt pr as body, s, h, Q => EvO P l s h fun s1 h1 => ∃ ex s' h', DetM P it x out nx mr nxt pr as body ⟨s1, h1⟩ ex ⟨s', h'⟩ ∧ Q ex s' h'
  | .skip, s, h, Q => Q .normal s h
  | .ops l, s, h, Q => EvO P l s h (Q .normal)
  | .drawn l loose, s, h, Q => EvR P l loose s h (Q .normal)
  | .mixed l loose, s, h, Q => EvMR P l loose s h (Q .normal)
  | .seq a b, s, h, Q => Ev a s h fun ex s' h' => match ex with
    | .normal => Ev b s' h' Q
    | ex => Q ex s' h'
  | .cond c a b, s, h, Q => match ev s c with
    | .bool true => Ev a s h Q
    | .bool false => Ev b s h Q
    | _ => False
  | .block id b, s, h, Q => Ev b s h fun ex s' h' => match ex with
    | .exit i => if i = id then Q .normal s' h' else Q (.exit i) s' h'
    | ex => Q ex s' h'
  | .loop b, s, h, Q => Lp P b s h Q
  | .exit id, s, h, Q => Q (.exit id) s h
  | .ret, s, h, Q => Q .ret s h
/-- what is left to do -/
inductive Fr where
  | seq (b : VCode)
  | blk (id : Nat)
  | lp (b : VCode)
def Un : List Fr → (Ex → T AV → Heap → Prop) → Ex → T AV → Heap → Prop
  | [], Q, ex, s, h => Q ex s h
  | .seq b :: k, Q, ex, s, h => match ex with
    | .normal => Ev P b s h (Un k Q)
    | ex => Un k Q ex s h
  | .blk id :: k, Q, ex, s, h => match ex with
    | .exit i => if i = id then Un k Q .normal s h else Un k Q (.exit i) s h
    | ex => Un k Q ex s h
  | .lp b :: k, Q, ex, s, h => match ex with
    | .normal => Lp P b s h (Un k Q)
    | ex => Un k Q ex s h
end
section
variable {P : Program}
theorem vdo_told {ρ : Option Nat} {X : Told} (hX : CallOk P X) {nt : Nat} {ops : Array Oper} {φ : Env} {w : World} {st st' : St} {a : Act} {o : Oper} {vo : VO} (ho : cOper P nt ops o = some vo) (hs : SR φ w nt st a) (hr : HR φ w st.h)
    (h : vdo X st st.h.next vo = some st') {K : Act → World → Prop} {Q : Exit → Act → World → Prop}
    (hK : ∀ φ' a' w', SR φ' w' nt st' a' → HR φ' w' st'.h → UpdH φ w st.h φ' w' st'.h → a'.defers = a.defers → K a' w') :
    if Region.wanted o (yielded ops a.tmps) then o.wpIn (fen ρ) 0 P a w K Q else (∀ f, o.about P w a.eval = some f → (fen ρ).fn f) ∧ K (a.put o.dst undef) w :=
  vdo_ok hX ho hs hr (hr.next _ (Nat.le_refl _)) h hK
theorem DetO.cons {X : Told} (hX : CallOk P X) {o : VO} {l : List VO} {st st1 st' : St} (h : vdo X st st.h.next o = some st1) (t : DetO P l st1 st') : DetO P (o :: l) st st' := by
  intro ρ nt ops is rest hrel φ w a R hs hr hQ
  cases hrel with
  | cons h1 h2 hrel =>
    simp only [List.cons_append, wpOpsIn, h1]
    refine vdo_told hX h2 hs hr h fun φ1 a1 w1 hs1 hr1 hu1 hd1 => ?_
    exact t ρ nt ops _ rest hrel φ1 w1 a1 R hs1 hr1 fun φ2 a2 w2 hs2 hr2 hu2 hd2 => hQ φ2 a2 w2 hs2 hr2 (hu1.trans hu2) (hd2.trans hd1)
theorem DetO.nil {st : St} : DetO P [] st st := by
  intro ρ nt ops is rest hrel φ w a R hs hr hQ
  cases hrel
  exact hQ φ a w hs hr (UpdH.refl _ _ _) rfl
open Classical in
/-- one call told -/
noncomputable def told1 (f : Nat) (args : List AV) (h : Heap) (r : AV × Heap) : Told := fun f' args' h' => if f' = f ∧ args' = args ∧ h' = h then some r else none
theorem told1_ok {f : Nat} {args : List AV} {h : Heap} {v : AV} {h' : Heap} (o : OK P f args h v h') : CallOk P (told1 f args h (v, h')) := by
  intro f1 args1 h1 v1 h2 e
  unfold told1 at e
  split at e
  · rename_i c
    obtain ⟨rfl, rfl, rfl⟩ := c
    cases e
    exact o
  · cases e
theorem told1_eq {f : Nat} {args : List AV} {h : Heap} {r : AV × Heap} : told1 f args h r f args h = some r := if_pos ⟨rfl, rfl, rfl⟩
theorem EvO.det : ∀ {l : List VO} {s : T AV} {h : Heap} {Q : T AV → Heap → Prop}, EvO P l s h Q → ∃ s' h', DetO P l ⟨s, h⟩ ⟨s', h'⟩ ∧ Q s' h'
  | [], s, h, Q, e => ⟨s, h, .nil, e⟩
  | o :: l, s, h, Q, e => by
    rw [EvO] at e
    cases hw : wanted ⟨s, h⟩ o.guard with
    | false =>
      rw [hw, cond_false] at e
      obtain ⟨s', h', d, q⟩ := EvO.det e
      exact ⟨s', h', .cons (X := fun _ _ _ => none) nothing_told (st1 := ⟨setd s o.dst .undef, h⟩) (by rw [vdo, hw, cond_false, put_eq]) d, q⟩
    | true =>
      rw [hw, cond_true] at e
      cases hv : vop ⟨s, h⟩ h.next o.op with
      | val v h1 =>
        rw [hv] at e
        obtain ⟨s', h', d, q⟩ := EvO.det e
        exact ⟨s', h', .cons (X := fun _ _ _ => none) nothing_told (st1 := ⟨setd s o.dst v, h1⟩) (by simp only [vdo, hw, cond_true, hv, put_eq]) d, q⟩
      | fail => rw [hv] at e; exact e.elim
      | enter f args =>
        rw [hv] at e
        obtain ⟨v, h1, hok, e⟩ := e
        obtain ⟨s', h', d, q⟩ := EvO.det e
        exact ⟨s', h', .cons (told1_ok hok) (st1 := ⟨setd s o.dst v, h1⟩) (by simp only [vdo, hw, cond_true, hv, told1_eq, put_eq]) d, q⟩
open Classical in
/-- told otherwise -/
noncomputable def toldOr (f : Nat) (args : List AV) (h : Heap) (r : AV × Heap) (X : Told) : Told := fun f' args' h' => if f' = f ∧ args' = args ∧ h' = h then some r else X f' args' h'
theorem toldOr_ok {f : Nat} {args : List AV} {h : Heap} {v : AV} {h' : Heap} (o : OK P f args h v h') {X : Told} (hX : CallOk P X) : CallOk P (toldOr f args h (v, h') X) := by
  intro f1 args1 h1 v1 h2 e
  unfold toldOr at e
  split at e
  · rename_i c
    obtain ⟨rfl, rfl, rfl⟩ := c
    cases e
    exact o
  · exact hX f1 args1 h1 v1 h2 e
theorem vdo_other {X Y : Told} {st : St} {nm : Nat} {o : VO} (h : ∀ f args, vop st nm o.op = .enter f args → X f args st.h = Y f args st.h) : vdo X st nm o = vdo Y st nm o := by
  unfold vdo
  cases wanted st o.guard with
  | false => rfl
  | true =>
    simp only [cond_true]
    cases hv : vop st nm o.op with
    | enter f args => simp only [h f args hv]
    | _ => rfl
theorem vop_enter_call {st : St} {nm : Nat} {op : VOp} {f : Nat} {args : List AV} (h : vop st nm op = .enter f args) : (∃ l, op = .call f l) ∨ ∃ x l, op = .callv x l := by
  cases op with
  | call g l => simp only [vop] at h; cases h; exact .inl ⟨_, rfl⟩
  | callv x l => exact .inr ⟨_, _, rfl⟩
  | _ =>
    exfalso
    simp only [vop] at h
    repeat' first
      | (cases h; done)
      | split at h
      | (simp only [valO, valH] at h)
      | (unfold atomV at h)
      | (unfold cond at h)
/-- operations whose calls are told apart by their functions: one that tells them all -/
theorem EvO.told : ∀ {l : List VO} {ks : List Nat} {s : T AV} {h : Heap} {Q : T AV → Heap → Prop}, callsOf l = some ks → EvO P l s h Q →
    ∃ X : Told, CallOk P X ∧ (∀ f args h r, X f args h = some r → f ∈ ks) ∧ ∃ tr s' h', vtrace X l ⟨s, h⟩ = some tr ∧ tr.getLast? = some ⟨s', h'⟩ ∧ Q s' h'
  | [], ks, s, h, Q, hk, e => ⟨fun _ _ _ => none, nothing_told, fun _ _ _ _ e => (by cases e), [⟨s, h⟩], s, h, rfl, rfl, e⟩
  | o :: l, ks, s, h, Q, hk, e => by
    have last : ∀ {tr : List St} {x y : St}, tr.getLast? = some y → (x :: tr).getLast? = some y := by
      intro tr x y hy
      cases tr with
      | nil => cases hy
      | cons a b => simpa [List.getLast?_cons_cons] using hy
    rw [EvO] at e
    cases hw : wanted ⟨s, h⟩ o.guard with
    | false =>
      rw [hw, cond_false] at e
      have hk' : ∃ ks', callsOf l = some ks' ∧ ∀ f ∈ ks', f ∈ ks := by
        rw [callsOf] at hk
        split at hk
        · cases hk
        · split at hk
          · rename_i k hc
            split at hk
            · cases hk
            · cases hk; exact ⟨k, hc, fun f hf => .tail _ hf⟩
          · cases hk
        · exact ⟨ks, hk, fun _ h => h⟩
      obtain ⟨ks', hk', hs⟩ := hk'
      obtain ⟨X, hX, hd, tr, s', h', e1, e2, q⟩ := EvO.told hk' e
      refine ⟨X, hX, fun f a _ r e => hs _ (hd f a _ r e), ⟨s, h⟩ :: tr, s', h', ?_, last e2, q⟩
      simp only [vtrace, vdo, hw, cond_false, put_eq, e1, Option.map_some]
    | true =>
      rw [hw, cond_true] at e
      cases hv : vop ⟨s, h⟩ h.next o.op with
      | fail => rw [hv] at e; exact e.elim
      | val v h1 =>
        rw [hv] at e
        have hk' : ∃ ks', callsOf l = some ks' ∧ ∀ f ∈ ks', f ∈ ks := by
          rw [callsOf] at hk
          split at hk
          · cases hk
          · split at hk
            · rename_i k hc
              split at hk
              · cases hk
              · cases hk; exact ⟨k, hc, fun f hf => .tail _ hf⟩
            · cases hk
          · exact ⟨ks, hk, fun _ h => h⟩
        obtain ⟨ks', hk', hs⟩ := hk'
        obtain ⟨X, hX, hd, tr, s', h', e1, e2, q⟩ := EvO.told hk' e
        refine ⟨X, hX, fun f a _ r e => hs _ (hd f a _ r e), ⟨s, h⟩ :: tr, s', h', ?_, last e2, q⟩
        simp only [vtrace, vdo, hw, cond_true, hv, put_eq, e1, Option.map_some]
      | enter f args =>
        rw [hv] at e
        obtain ⟨v, h1, hok, e⟩ := e
        rcases vop_enter_call hv with ⟨al, ho⟩ | ⟨x, al, ho⟩
        · rw [callsOf, ho] at hk
          simp only at hk
          split at hk
          · rename_i k hc
            split at hk
            · cases hk
            · rename_i hn
              cases hk
              obtain ⟨X, hX, hd, tr, s', h', e1, e2, q⟩ := EvO.told hc e
              refine ⟨toldOr f args h (v, h1) X, toldOr_ok hok hX, ?_, ⟨s, h⟩ :: tr, s', h', ?_, last e2, q⟩
              · intro f' a' hh r e
                unfold toldOr at e
                split at e
                · rename_i c; rw [c.1]; exact .head _
                · exact .tail _ (hd _ _ _ _ e)
              · have hsame : ∀ (l' : List VO), (∀ ks', callsOf l' = some ks' → f ∉ ks') → (callsOf l').isSome = true → ∀ st, vtrace (toldOr f args h (v, h1) X) l' st = vtrace X l' st := by
                  intro l'
                  induction l' with
                  | nil => intros; rfl
                  | cons o' l' ih =>
                    intro hn' hsome st
                    have h2 : (callsOf l').isSome = true ∧ (∀ ks', callsOf l' = some ks' → f ∉ ks') ∧ ∀ g al, o'.op = .call g al → g ≠ f := by
                      rw [callsOf] at hn' hsome
                      split at hsome
                      · cases hsome
                      · rename_i g al hg
                        rw [hg] at hn'
                        split at hsome
                        · rename_i k' hk'
                          split at hsome
                          · cases hsome
                          · rename_i hc'
                            simp only [hk'] at hn'
                            rw [if_neg hc'] at hn'
                            have := hn' _ rfl
                            refine ⟨by rw [hk']; rfl, fun ks' e => ?_, fun g' al' e => ?_⟩
                            · rw [hk'] at e; cases e
                              exact fun hm => this (.tail _ hm)
                            · rw [hg] at e
                              cases e
                              intro e'
                              subst e'
                              exact this (.head _)
                        · cases hsome
                      · rename_i h3 h4
                        refine ⟨hsome, fun ks' e => ?_, fun g al e => absurd e (h4 _ _)⟩
                        refine hn' ks' ?_
                        split
                        · rename_i e'; exact absurd e' (h3 _ _)
                        · rename_i e'; exact absurd e' (h4 _ _)
                        · exact e
                    have hnv : ∀ x al, o'.op ≠ .callv x al := by
                      intro x al e
                      rw [callsOf, e] at hsome
                      cases hsome
                    simp only [vtrace]
                    have hst : vdo (toldOr f args h (v, h1) X) st st.h.next o' = vdo X st st.h.next o' := by
                      refine vdo_other fun g a hg => ?_
                      rcases vop_enter_call hg with ⟨al, e⟩ | ⟨x, al, e⟩
                      · have := h2.2.2 g al e
                        unfold toldOr
                        rw [if_neg (fun c => this c.1)]
                      · exact absurd e (hnv _ _)
                    rw [hst]
                    cases vdo X st st.h.next o' with
                    | none => rfl
                    | some st' => simp only [ih h2.2.1 h2.1]
                have h3 := hsame l (fun ks' e => by rw [hc] at e; cases e; simpa using hn) (by rw [hc]; rfl) ⟨setd s o.dst v, h1⟩
                have h4 : vdo (toldOr f args h (v, h1) X) ⟨s, h⟩ h.next o = some ⟨setd s o.dst v, h1⟩ := by
                  have h5 : toldOr f args h (v, h1) X f args h = some (v, h1) := if_pos ⟨rfl, rfl, rfl⟩
                  simp only [vdo, hw, cond_true, hv, h5, put_eq]
                simp only [vtrace, h4, h3, e1, Option.map_some]
          · cases hk
        · rw [callsOf, ho] at hk
          cases hk
theorem EvR.drawn {l : List VO} {loose : List (Nat × List Nat)} {s : T AV} {h : Heap} {Q : T AV → Heap → Prop} (e : EvR P l loose s h Q) : EvD P l loose s h Q := by
  unfold EvR at e
  split at e
  · rename_i hq
    unfold quietR at hq
    rw [Bool.and_eq_true] at hq
    obtain ⟨ks, hk⟩ := Option.isSome_iff_exists.1 hq.2
    obtain ⟨X, hX, _, tr, s', h', e1, e2, q⟩ := EvO.told hk e
    have hl : loose = [] := by simpa using hq.1
    subst hl
    exact ⟨X, hX, tr, s', h', e1, rfl, e2, q⟩
  · exact e
theorem nameAt_eq {base i : Nat} {o : VO} {h : Heap} : nameAt base i o h = nmA base i o.op h := rfl
/-- operations whose calls are told apart by their functions: one that tells them all -/
theorem EvM.told {base : Nat} : ∀ {l : List VO} {i : Nat} {ks : List Nat} {s : T AV} {h : Heap} {Q : T AV → Heap → Prop}, callsOf l = some ks → EvM P base l i s h Q →
    ∃ X : Told, CallOk P X ∧ (∀ f args h r, X f args h = some r → f ∈ ks) ∧ ∃ tr s' h', mtrace X base l i ⟨s, h⟩ = some tr ∧ tr.getLast? = some ⟨s', h'⟩ ∧ Q s' h'
  | [], i, ks, s, h, Q, hk, e => ⟨fun _ _ _ => none, nothing_told, fun _ _ _ _ e => (by cases e), [⟨s, h⟩], s, h, rfl, rfl, e⟩
  | o :: l, i, ks, s, h, Q, hk, e => by
    have last : ∀ {tr : List St} {x y : St}, tr.getLast? = some y → (x :: tr).getLast? = some y := by
      intro tr x y hy
      cases tr with
      | nil => cases hy
      | cons a b => simpa [List.getLast?_cons_cons] using hy
    rw [EvM] at e
    cases hw : wanted ⟨s, h⟩ o.guard with
    | false =>
      rw [hw, cond_false] at e
      have hk' : ∃ ks', callsOf l = some ks' ∧ ∀ f ∈ ks', f ∈ ks := by
        rw [callsOf] at hk
        split at hk
        · cases hk
        · split at hk
          · rename_i k hc
            split at hk
            · cases hk
            · cases hk; exact ⟨k, hc, fun f hf => .tail _ hf⟩
          · cases hk
        · exact ⟨ks, hk, fun _ h => h⟩
      obtain ⟨ks', hk', hs⟩ := hk'
      obtain ⟨X, hX, hd, tr, s', h', e1, e2, q⟩ := EvM.told hk' e
      refine ⟨X, hX, fun f a _ r e => hs _ (hd f a _ r e), ⟨s, h⟩ :: tr, s', h', ?_, last e2, q⟩
      simp only [mtrace, nameAt_eq, vdo, hw, cond_false, put_eq, e1, Option.map_some]
    | true =>
      rw [hw, cond_true] at e
      cases hv : vop ⟨s, h⟩ (nmA base i o.op h) o.op with
      | fail => rw [hv] at e; exact e.elim
      | val v h1 =>
        rw [hv] at e
        have hk' : ∃ ks', callsOf l = some ks' ∧ ∀ f ∈ ks', f ∈ ks := by
          rw [callsOf] at hk
          split at hk
          · cases hk
          · split at hk
            · rename_i k hc
              split at hk
              · cases hk
              · cases hk; exact ⟨k, hc, fun f hf => .tail _ hf⟩
            · cases hk
          · exact ⟨ks, hk, fun _ h => h⟩
        obtain ⟨ks', hk', hs⟩ := hk'
        obtain ⟨X, hX, hd, tr, s', h', e1, e2, q⟩ := EvM.told hk' e
        refine ⟨X, hX, fun f a _ r e => hs _ (hd f a _ r e), ⟨s, h⟩ :: tr, s', h', ?_, last e2, q⟩
        simp only [mtrace, nameAt_eq, vdo, hw, cond_true, hv, put_eq, e1, Option.map_some]
      | enter f args =>
        rw [hv] at e
        obtain ⟨v, h1, hok, e⟩ := e
        rcases vop_enter_call hv with ⟨al, ho⟩ | ⟨x, al, ho⟩
        · rw [callsOf, ho] at hk
          simp only at hk
          split at hk
          · rename_i k hc
            split at hk
            · cases hk
            · rename_i hn
              cases hk
              obtain ⟨X, hX, hd, tr, s', h', e1, e2, q⟩ := EvM.told hc e
              refine ⟨toldOr f args h (v, h1) X, toldOr_ok hok hX, ?_, ⟨s, h⟩ :: tr, s', h', ?_, last e2, q⟩
              · intro f' a' hh r e
                unfold toldOr at e
                split at e
                · rename_i c; rw [c.1]; exact .head _
                · exact .tail _ (hd _ _ _ _ e)
              · have hsame : ∀ (l' : List VO), (∀ ks', callsOf l' = some ks' → f ∉ ks') → (callsOf l').isSome = true → ∀ i st, mtrace (toldOr f args h (v, h1) X) base l' i st = mtrace X base l' i st := by
                  intro l'
                  induction l' with
                  | nil => intros; rfl
                  | cons o' l' ih =>
                    intro hn' hsome i st
                    have h2 : (callsOf l').isSome = true ∧ (∀ ks', callsOf l' = some ks' → f ∉ ks') ∧ ∀ g al, o'.op = .call g al → g ≠ f := by
                      rw [callsOf] at hn' hsome
                      split at hsome
                      · cases hsome
                      · rename_i g al hg
                        rw [hg] at hn'
                        split at hsome
                        · rename_i k' hk'
                          split at hsome
                          · cases hsome
                          · rename_i hc'
                            simp only [hk'] at hn'
                            rw [if_neg hc'] at hn'
                            have := hn' _ rfl
                            refine ⟨by rw [hk']; rfl, fun ks' e => ?_, fun g' al' e => ?_⟩
                            · rw [hk'] at e; cases e
                              exact fun hm => this (.tail _ hm)
                            · rw [hg] at e
                              cases e
                              intro e'
                              subst e'
                              exact this (.head _)
                        · cases hsome
                      · rename_i h3 h4
                        refine ⟨hsome, fun ks' e => ?_, fun g al e => absurd e (h4 _ _)⟩
                        refine hn' ks' ?_
                        split
                        · rename_i e'; exact absurd e' (h3 _ _)
                        · rename_i e'; exact absurd e' (h4 _ _)
                        · exact e
                    have hnv : ∀ x al, o'.op ≠ .callv x al := by
                      intro x al e
                      rw [callsOf, e] at hsome
                      cases hsome
                    simp only [mtrace]
                    have hst : vdo (toldOr f args h (v, h1) X) st (nameAt base i o' st.h) o' = vdo X st (nameAt base i o' st.h) o' := by
                      refine vdo_other fun g a hg => ?_
                      rcases vop_enter_call hg with ⟨al, e⟩ | ⟨x, al, e⟩
                      · have := h2.2.2 g al e
                        unfold toldOr
                        rw [if_neg (fun c => this c.1)]
                      · exact absurd e (hnv _ _)
                    rw [hst]
                    cases vdo X st (nameAt base i o' st.h) o' with
                    | none => rfl
                    | some st' => simp only [ih h2.2.1 h2.1]
                have h3 := hsame l (fun ks' e => by rw [hc] at e; cases e; simpa using hn) (by rw [hc]; rfl) (i + 1) ⟨setd s o.dst v, h1⟩
                have h4 : vdo (toldOr f args h (v, h1) X) ⟨s, h⟩ (nmA base i o.op h) o = some ⟨setd s o.dst v, h1⟩ := by
                  have h5 : toldOr f args h (v, h1) X f args h = some (v, h1) := if_pos ⟨rfl, rfl, rfl⟩
                  simp only [vdo, hw, cond_true, hv, h5, put_eq]
                simp only [mtrace, nameAt_eq, h4, h3, e1, Option.map_some]
          · cases hk
        · rw [callsOf, ho] at hk
          cases hk
theorem EvMR.mixed {l : List VO} {loose : List (Nat × List Nat)} {s : T AV} {h : Heap} {Q : T AV → Heap → Prop} (e : EvMR P l loose s h Q) : EvMD P l loose s h Q := by
  unfold EvMR at e
  split at e
  · rename_i hq
    unfold quietR at hq
    rw [Bool.and_eq_true] at hq
    obtain ⟨ks, hk⟩ := Option.isSome_iff_exists.1 hq.2
    obtain ⟨X, hX, _, tr, s', h', e1, e2, q⟩ := EvM.told hk e
    have hl : loose = [] := by simpa using hq.1
    subst hl
    exact ⟨X, hX, tr, s', h', e1, rfl, e2, q⟩
  · exact e
theorem Lp.round {b : VCode} {s : T AV} {h : Heap} {Q : Ex → T AV → Heap → Prop} {ex : Ex} {s1 : T AV} {h1 : Heap} (d : Det P b ⟨s, h⟩ ex ⟨s1, h1⟩) (q : match ex with | .normal => Lp P b s1 h1 Q | ex => Q ex s1 h1) : Lp P b s h Q := by
  have stop : ∀ ex, ex ≠ .normal → Det P b ⟨s, h⟩ ex ⟨s1, h1⟩ → DetL P b ⟨s, h⟩ ex ⟨s1, h1⟩ := by
    intro ex hne d ρ hf nt code hc φ w a R hs hr hQ
    apply LoopWp.round
    refine d ρ hf nt code hc φ w a _ hs hr fun φ1 a1 w1 hs1 hr1 hu1 hd1 => ?_
    cases ex with
    | normal => exact absurd rfl hne
    | exit id => exact hQ φ1 a1 w1 hs1 hr1 hu1 hd1
    | ret => exact hQ φ1 a1 w1 hs1 hr1 hu1 hd1
  cases ex with
  | normal =>
    obtain ⟨ex, s', h', d', q⟩ := q
    refine ⟨ex, s', h', ?_, q⟩
    intro ρ hf nt code hc φ w a R hs hr hQ
    apply LoopWp.round
    refine d ρ hf nt code hc φ w a _ hs hr fun φ1 a1 w1 hs1 hr1 hu1 hd1 => ?_
    exact d' ρ hf nt code hc φ1 w1 a1 R hs1 hr1 fun φ2 a2 w2 hs2 hr2 hu2 hd2 => hQ φ2 a2 w2 hs2 hr2 (hu1.trans hu2) (hd1.trans hd2)
  | exit id => exact ⟨_, s1, h1, stop _ (by simp) d, q⟩
  | ret => exact ⟨_, s1, h1, stop _ (by simp) d, q⟩
/-- of which code it comes -/
def Inv0 (P : Program) (nt : Nat) (code : Code) : VCode → Prop
  | .bad => True
  | .rangeFn g ps asg b => ∃ g' ps' asg' b', code = .rangeFunc g' ps' asg' b' ∧ cOpd g' = some g ∧ cCode P nt asg' = some asg ∧ cCode P nt b' = some b ∧ ps'.toList = ps ∧ ∀ p ∈ ps, p < nt
  | .rangeM l it x out nx mr nxt pr as body => ∃ a' b', code = .seq a' b' ∧ cCode P nt a' = some (.ops (l ++ [⟨some it, none, .range x⟩])) ∧ cCode P nt b' = some (.block out (.loop (rgBody it out nx mr nxt pr as body))) ∧ nxt ≠ out
  | .skip => code = .skip
  | .ops l => ∃ id ops, code = .region id ops false ∧ cOpers P nt ops = some l
  | .drawn _ _ | .mixed _ _ => ∃ id ops, code = .region id ops true
  | .seq a b => ∃ a' b', code = .seq a' b' ∧ cCode P nt a' = some a ∧ cCode P nt b' = some b
  | .cond c a b => ∃ c' a' b', code = .cond c' a' b' ∧ cOpd c' = some c ∧ cCode P nt a' = some a ∧ cCode P nt b' = some b
  | .block id b => ∃ b', code = .block id b' ∧ cCode P nt b' = some b
  | .loop b => ∃ b', code = .loop b' ∧ cCode P nt b' = some b
  | .exit id => code = .exit id
  | .ret => code = .ret
theorem code_inv {nt : Nat} {code : Code} {c : VCode} (hc : cCode P nt code = some c) : Inv0 P nt code c := by
  cases code with
  | skip => cases hc; rfl
  | region id ops dr =>
    cases dr with
    | false =>
      simp only [cCode] at hc
      obtain ⟨l, hl, rfl⟩ := Option.map_eq_some_iff.1 hc
      exact ⟨id, ops, rfl, hl⟩
    | true =>
      simp only [cCode] at hc
      obtain ⟨l, hl, e⟩ := Option.map_eq_some_iff.1 hc
      cases hd : drawnChk ops.toList l (before ops) with
      | true => rw [hd, cond_true] at e; subst e; exact ⟨id, ops, rfl⟩
      | false =>
        rw [hd, cond_false] at e
        cases hm : mixedChk ops.toList l (before ops) with
        | true => rw [hm, cond_true] at e; subst e; exact ⟨id, ops, rfl⟩
        | false => rw [hm, cond_false] at e; subst e; trivial
  | seq a b =>
    simp only [cCode] at hc
    split at hc
    · rename_i a' b' ha hb
      cases hc
      rcases mkSeq_cases a' b' with e | ⟨l, it, xx, out, nx, mr, nxt, pr, as, body, e, e1, e2, e3⟩
      · rw [e]; exact ⟨_, _, rfl, ha, hb⟩
      · rw [e]; exact ⟨_, _, rfl, by rw [ha, e1], by rw [hb, e2], e3⟩
    · cases hc
  | cond x a b =>
    simp only [cCode] at hc
    split at hc
    · rename_i x' a' b' hx ha hb
      cases hc
      exact ⟨_, _, _, rfl, hx, ha, hb⟩
    · cases hc
  | block id b =>
    simp only [cCode] at hc
    obtain ⟨b', hb, rfl⟩ := Option.map_eq_some_iff.1 hc
    exact ⟨_, rfl, hb⟩
  | loop b =>
    simp only [cCode] at hc
    obtain ⟨b', hb, rfl⟩ := Option.map_eq_some_iff.1 hc
    exact ⟨_, rfl, hb⟩
  | exit id => cases hc; rfl
  | ret => cases hc; rfl
  | rangeFunc g ps asg b =>
    simp only [cCode] at hc
    split at hc
    · rename_i g' a' b' hg ha hb
      split at hc
      · rename_i hp
        cases hc
        refine ⟨_, _, _, _, rfl, hg, ha, hb, rfl, fun p hp' => ?_⟩
        rw [List.all_eq_true] at hp
        simpa using hp p hp'
      · cases hc
    · cases hc
  | _ => cases hc; trivial
def leave (id : Nat) : Ex → Ex
  | .exit i => if i = id then .normal else .exit i
  | ex => ex
theorem range_det {g : Opd} {ps : List Nat} {asg b : VCode} {s : T AV} {h : Heap} {Q : Ex → T AV → Heap → Prop} (e : Ev P (.rangeFn g ps asg b) s h Q) : ∃ ex s' h', Det P (.rangeFn g ps asg b) ⟨s, h⟩ ex ⟨s', h'⟩ ∧ Q ex s' h' := by
  have e : ∃ f caps, ev s g = .fn f caps ∧ f < YB ∧ Cl P f (.yld h.next :: caps) (h.mk' h.next (.loop ⟨P, s, ps, asg, b, 0, none⟩)) fun _ h2 => LoopEnd h.next s h2 Q := by
    rw [Ev] at e
    generalize ev s g = x at e
    cases x <;> first | exact ⟨_, _, rfl, e⟩ | exact e.elim
  obtain ⟨f, caps, eg, hf, v, h2, o, q⟩ := e
  obtain ⟨_, he, hcs⟩ := o.old (.inr hf)
  have hq : ∃ r ex, h2.get h.next = some (.loop r) ∧ Q ex s (h2.put h.next .dead) ∧ (r.pend = none ∧ r.state = 0 ∧ ex = .normal ∨ r.state = 2 ∧ ex ≠ .normal ∧ r.pend = some ex) := by
    unfold LoopEnd at q
    split at q
    · rename_i r hr
      split at q
      · rename_i hp; exact ⟨r, _, hr, q.2, .inl ⟨hp, q.1, rfl⟩⟩
      · rename_i i hp; exact ⟨r, _, hr, q.2, .inr ⟨q.1, by simp, hp⟩⟩
      · rename_i hp; exact ⟨r, _, hr, q.2, .inr ⟨q.1, by simp, hp⟩⟩
      · exact q.elim
    · exact q.elim
  obtain ⟨r, ex, hg, q, hex⟩ := hq
  refine ⟨ex, s, h2.put h.next .dead, ?_, q⟩
  intro ρ hρ nt code hc φ w a R hs hr hQ
  rcases hρ with rfl | hρ
  rotate_left
  · cases hρ
  obtain ⟨g', ps', asg', b', rfl, c1, c2, c3, c4, c5⟩ := code_inv hc
  have hv := opd_ok hs c1
  rw [eval_eq, eg] at hv
  generalize hu : a.eval g' = u at hv
  cases hv with
  | fn _ hcap =>
  rename_i lb _
  refine wpIn_rangeFunc fun fn _ => ?_
  -- the two blocks
  obtain ⟨rec, hrec⟩ : ∃ rec : Loop, rec = { state := .ready, pending := none, fn, tmps := a.tmps, params := ps', assign := asg', body := b', defers := w.heap.size } := ⟨_, rfl⟩
  have hu0 : UpdH φ w h φ (w.alloc (.deferred (some []))) h := UpdH.same _ h
    ⟨rfl, rfl, rfl, by simp, fun _ _ h => h, fun _ _ _ h => .inl ⟨_, _, h⟩, fun B hB _ => Below.heap_alloc _ _ _ hB, fun B x hx => shape_alloc_old _ hx, dr_le (Nat.le_refl _)⟩ fun B hB => Below.heap_alloc _ _ _ hB
  have hr0 : HR φ (w.alloc (.deferred (some []))) h := by
    refine ⟨fun c => ?_, fun c p hp => Nat.lt_of_lt_of_le (hr.lt c p hp) hu0.size, hr.inj, hr.next⟩
    by_cases hl : live (h.get c) = true
    · exact BR.upd hr hu0.toUpd hl fun p hp => Below.heap_alloc _ _ _ (hr.lt c p hp)
    · have hb := hr.blk c
      rcases not_live hl with e | e
      · rw [e] at hb ⊢; exact hb
      · rw [e]; trivial
  have hn : h.get h.next = none := hr.next _ (Nat.le_refl _)
  have hφn : φ h.next = none := by have := hr.blk h.next; rw [hn] at this; exact this
  have hu1 := updH_alloc hr0 hn (.loop rec) (.loop ⟨P, s, ps, asg, b, 0, none⟩)
  have hsz : (w.alloc (.deferred (some []))).heap.size = w.heap.size + 1 := by simp
  have hL : LoopR (φ.at h.next (w.heap.size + 1, 0)) ((w.alloc (.deferred (some []))).alloc (.loop rec)) ⟨P, s, ps, asg, b, 0, none⟩ rec := by
    refine ⟨⟨nt, by rw [hrec]; exact hs.size, c5, by rw [hrec]; exact c2, by rw [hrec]; exact c3⟩, fun t => ?_, by rw [hrec]; exact c4, by rw [hrec]; rfl, by rw [hrec]; rfl⟩
    have := ((hs.get t).upd hu0.toUpd).upd hu1.toUpd
    rw [hsz] at this
    rw [show rec.tmps = a.tmps by rw [hrec]]
    exact this
  have hr1 := hr_alloc hr0 hn (o := .loop rec) (x := .loop ⟨P, s, ps, asg, b, 0, none⟩) (by
    rw [hsz]
    refine ⟨w.heap.size + 1, 0, rec, if_pos rfl, ?_, hL⟩
    have := heap_alloc_new (w.alloc (.deferred (some []))) (.loop rec)
    rwa [hsz] at this)
  rw [hsz] at hr1 hu1
  have hargs : VRs (φ.at h.next (w.heap.size + 1, 0)) ((w.alloc (.deferred (some []))).alloc (.loop rec)) (.yld h.next :: caps) (#[Value.func (.yield (w.heap.size + 1)) #[] #[]] ++ lb).toList := by
    simp only [Array.toList_append, List.cons_append, List.nil_append]
    exact .cons (.yld (o := 0) (if_pos rfl)) ((hcap.upd hu0.toUpd).upd hu1.toUpd)
  refine ⟨w.heap.size + 1, [{ target := .collected w.heap.size, args := #[] }], (w.alloc (.deferred (some []))).alloc (.loop rec), { target := .fn (.func f) lb, args := #[.func (.yield (w.heap.size + 1)) #[] #[]] }, (w.alloc (.deferred (some []))).alloc (.loop rec), f,
    #[Value.func (.yield (w.heap.size + 1)) #[] #[]] ++ lb, (w.alloc (.deferred (some []))).alloc (.loop rec), ?_, ?_, fun _ _ => trivial, ?_, fun h => (by cases h), ?_⟩
  · rw [hrec]; exact run_enterLoop_outer _ _ _ _ _
  · simp only [resolve, hu]
    simp [Act.eval, Deferred.ofValue]
  · simp [invoke, run_callFunc he]
  · refine CallsIn.mono (callsIn_wide.2 (hcs _ _ _ hr1 hargs) : CallsIn Fence.wide 0 P f _ _ _) ?_
    rintro e w3 ⟨φ', u, rfl, _, hr3, hu3⟩
    have hb3 := hr3.blk h.next
    rw [hg] at hb3
    obtain ⟨B, o, rec3, b1, b2, b3⟩ := hb3
    have b0 := hu3.ext h.next (w.heap.size + 1, 0) (if_pos rfl)
    rw [b0] at b1
    obtain ⟨rfl, rfl⟩ : w.heap.size + 1 = B ∧ 0 = o := by simpa using b1
    have hst : rec3.state ≠ .busy := by
      rw [b3.state]
      rcases hex with ⟨_, h0, _⟩ | ⟨h0, _⟩ <;> rw [h0] <;> simp [stOf]
    refine ⟨rec3.pending, _, run_endLoop b2 hst, ?_⟩
    obtain ⟨k1, k2⟩ := loop_write hr3 hg b0 b2 (r' := { r with state := 3 }) (rec' := { rec3 with state := .exhausted }) ⟨b3.code, b3.get, b3.ps, rfl, b3.pend⟩
    have k3 := kill_ok k1 (b := h.next) ⟨_, by rw [Heap.get_put, if_pos rfl]⟩
    have k4 := updH_kill (φ := φ') (w := w3.putObj (w.heap.size + 1) (.loop { rec3 with state := .exhausted })) (H := h2.put h.next (.loop { r with state := 3 })) (b := h.next) ⟨_, by rw [Heap.get_put, if_pos rfl]⟩
    have hh : ∀ b, ((h2.put h.next (.loop { r with state := 3 })).put h.next .dead).get b = (h2.put h.next .dead).get b := fun b => by
      simp only [Heap.get_put]
      by_cases e : b = h.next
      · rw [if_pos e, if_pos e]
      · rw [if_neg e, if_neg e, if_neg e]
    have hr4 : HR φ' (w3.putObj (w.heap.size + 1) (.loop { rec3 with state := .exhausted })) (h2.put h.next .dead) := HR.congr k3 ⟨rfl, fun c => .inl (hh c).symm⟩
    have hu4 : UpdH φ w h φ' (w3.putObj (w.heap.size + 1) (.loop { rec3 with state := .exhausted })) (h2.put h.next .dead) := UpdH.congr (hu0.trans (hu1.trans (hu3.trans (k2.trans k4)))) ⟨rfl, fun c => .inl (hh c).symm⟩
    have hu5 : UpdH φ (w.alloc (.deferred (some []))) h φ' (w3.putObj (w.heap.size + 1) (.loop { rec3 with state := .exhausted })) (h2.put h.next .dead) := UpdH.congr (hu1.trans (hu3.trans (k2.trans k4))) ⟨rfl, fun c => .inl (hh c).symm⟩
    have hD : (w.alloc (.deferred (some []))).heap[w.heap.size]? = some (.deferred (some [])) := heap_alloc_new w _
    have hDn : ∀ b p, φ b = some p → p.1 ≠ w.heap.size := fun b p hp => Nat.ne_of_lt (hr.lt b p hp)
    have hmk : MK φ w a φ' (w3.putObj (w.heap.size + 1) (.loop { rec3 with state := .exhausted })) { a with defers := [{ target := .collected w.heap.size, args := #[] }] ++ a.defers } := by
      refine ⟨hu4.size, fun n hn m => ⟨w.heap.size, rfl, hn, (hu5.keep _ (by simp) hDn).trans hD, named_new hu5.toUpd hDn (by simp), fun d hd e => ?_, m.upd hu4.toUpd⟩⟩
      obtain ⟨D, e1, e2⟩ := m.lt d hd
      rw [e1] at e
      cases e
      exact absurd e2 (Nat.lt_irrefl _)
    have hR := hQ φ' { a with defers := [{ target := .collected w.heap.size, args := #[] }] ++ a.defers } _ ⟨hs.size, fun t => (hs.get t).upd hu4.toUpd⟩ hr4 hu4 hmk
    revert hR
    generalize w3.putObj (w.heap.size + 1) (.loop { rec3 with state := .exhausted }) = W4
    intro hR
    rw [b3.pend]
    rcases hex with ⟨h0, _, rfl⟩ | ⟨_, h0, h1⟩
    · rw [h0]; exact hR
    · rw [h1]
      cases ex with
      | normal => exact absurd rfl h0
      | exit id => exact wpIn_exit hR
      | ret => exact wpIn_ret hR
theorem rel_split {nt : Nat} {ops : Array Oper} {o : VO} : ∀ {l : List VO} {is : List Nat}, Rel P nt ops is (l ++ [o]) → ∃ is1 i oo, is = is1 ++ [i] ∧ Rel P nt ops is1 l ∧ ops[i]? = some oo ∧ cOper P nt ops oo = some o
  | [], is, h => by
    cases h with
    | cons h1 h2 t =>
      cases t
      exact ⟨[], _, _, rfl, .nil, h1, h2⟩
  | x :: l, is, h => by
    cases h with
    | cons h1 h2 t =>
      obtain ⟨is1, i, oo, rfl, r, g1, g2⟩ := rel_split t
      exact ⟨_ :: is1, i, oo, rfl, .cons h1 h2 r, g1, g2⟩
theorem rangeM_det {l : List VO} {it : Nat} {x : Opd} {out nx mr nxt pr : Nat} {as : List VO} {body : VCode} {s : T AV} {h : Heap} {Q : Ex → T AV → Heap → Prop} (e : Ev P (.rangeM l it x out nx mr nxt pr as body) s h Q) :
    ∃ ex s' h', Det P (.rangeM l it x out nx mr nxt pr as body) ⟨s, h⟩ ex ⟨s', h'⟩ ∧ Q ex s' h' := by
  rw [Ev] at e
  obtain ⟨s1, h1, d, ex, s', h', d2, q⟩ := EvO.det e
  refine ⟨ex, s', h', fun ρ hf nt code hc φ w a R hs hr hQ => ?_, q⟩
  obtain ⟨a', b', rfl, c1, c2, _⟩ := code_inv hc
  apply wpIn_seq
  obtain ⟨id, ops, rfl, hl⟩ := code_inv c1
  obtain ⟨is1, i, oo, ei, r, g1, g2⟩ := rel_split (rel_all hl)
  refine wpIn_region ?_
  rw [ei]
  refine d ρ nt ops is1 [i] r φ w a _ hs hr fun φ1 a1 w1 hs1 hr1 hu1 hd1 => ?_
  exact d2 ρ hf nt ops i oo b' g1 g2 c2 φ1 w1 a1 R hs1 hr1 fun φ2 a2 w2 hs2 hr2 hu2 hd2 => hQ φ2 a2 w2 hs2 hr2 (hu1.trans hu2) ((MK.of hu1.toUpd hd1).trans hd2)
theorem Ev.det (hm : P.follows .mixedOrders = true) : ∀ {c : VCode} {s : T AV} {h : Heap} {Q : Ex → T AV → Heap → Prop}, Ev P c s h Q → ∃ ex s' h', Det P c ⟨s, h⟩ ex ⟨s', h'⟩ ∧ Q ex s' h'
  | .bad, _, _, _, e => e.elim
  | .rangeFn g ps asg b, s, h, Q, e => range_det e
  | .rangeM .., s, h, Q, e => rangeM_det e
  | .skip, s, h, Q, e => ⟨.normal, s, h, fun ρ hf nt code hc φ w a R hs hr hQ => by
      obtain rfl := code_inv hc
      exact wpIn_skip (hQ φ a w hs hr (UpdH.refl _ _ _) (MK.of (Upd.refl _ _) rfl)), e⟩
  | .ops l, s, h, Q, e => by
    obtain ⟨s', h', d, q⟩ := EvO.det e
    refine ⟨.normal, s', h', fun ρ hf nt code hc φ w a R hs hr hQ => ?_, q⟩
    obtain ⟨id, ops, rfl, hl⟩ := code_inv hc
    have := d ρ nt ops _ [] (rel_all hl) φ w a R hs hr fun φ' a' w' g1 g2 g3 g4 => hQ φ' a' w' g1 g2 g3 (MK.of g3.toUpd g4)
    rw [List.append_nil] at this
    exact wpIn_region this
  | .drawn l loose, s, h, Q, e => by
    rw [Ev] at e
    obtain ⟨X, hX, tr, s', h', e1, e2, e3, q⟩ := e.drawn
    refine ⟨.normal, s', h', fun ρ hf nt code hc φ w a R hs hr hQ => ?_, q⟩
    have hv : vstep X (fun _ _ => none) (.drawn l loose) ⟨s, h⟩ = some (.normal, ⟨s', h'⟩) := by
      simp only [vstep, e1, e2, cond_true, e3, Option.map_some]
    obtain ⟨id, ops, rfl⟩ := code_inv hc
    exact drawn_ok hm ρ nt id ops _ hc X _ hX φ w _ _ a _ R hs hr hv fun φ' a' w' g1 g2 g3 g4 => hQ φ' a' w' g1 g2 g3 (MK.of g3.toUpd g4)
  | .mixed l loose, s, h, Q, e => by
    rw [Ev] at e
    obtain ⟨X, hX, tr, s', h', e1, e2, e3, q⟩ := e.mixed
    refine ⟨.normal, s', h', fun ρ hf nt code hc φ w a R hs hr hQ => ?_, q⟩
    have hv : vstep X (fun _ _ => none) (.mixed l loose) ⟨s, h⟩ = some (.normal, ⟨s', h'⟩) := by
      simp only [vstep, e1, e2, cond_true, e3, Option.map_some]
    obtain ⟨id, ops, rfl⟩ := code_inv hc
    exact drawn_ok hm ρ nt id ops _ hc X _ hX φ w _ _ a _ R hs hr hv fun φ' a' w' g1 g2 g3 g4 => hQ φ' a' w' g1 g2 g3 (MK.of g3.toUpd g4)
  | .seq a b, s, h, Q, e => by
    rw [Ev] at e
    obtain ⟨ex, s1, h1, d, q⟩ := Ev.det hm e
    have pass : ∀ ex, ex ≠ .normal → Det P a ⟨s, h⟩ ex ⟨s1, h1⟩ → Det P (.seq a b) ⟨s, h⟩ ex ⟨s1, h1⟩ := by
      intro ex hne d ρ hf nt code hc φ w a R hs hr hQ
      obtain ⟨a', b', rfl, hx, hy⟩ := code_inv hc
      apply wpIn_seq
      refine d ρ (hf.imp id fun e => (Bool.and_eq_true _ _ ▸ e : _ ∧ _).1) nt _ hx φ w a _ hs hr fun φ1 a1 w1 hs1 hr1 hu1 hd1 => ?_
      cases ex with
      | normal => exact absurd rfl hne
      | exit id => exact hQ φ1 a1 w1 hs1 hr1 hu1 hd1
      | ret => exact hQ φ1 a1 w1 hs1 hr1 hu1 hd1
    cases ex with
    | normal =>
      obtain ⟨ex, s', h', d', q⟩ := Ev.det hm q
      refine ⟨ex, s', h', fun ρ hf nt code hc φ w a R hs hr hQ => ?_, q⟩
      obtain ⟨a', b', rfl, hx, hy⟩ := code_inv hc
      apply wpIn_seq
      refine d ρ (hf.imp id fun e => (Bool.and_eq_true _ _ ▸ e : _ ∧ _).1) nt _ hx φ w a _ hs hr fun φ1 a1 w1 hs1 hr1 hu1 hd1 => ?_
      exact d' ρ (hf.imp id fun e => (Bool.and_eq_true _ _ ▸ e : _ ∧ _).2) nt _ hy φ1 w1 a1 R hs1 hr1 fun φ2 a2 w2 hs2 hr2 hu2 hd2 => hQ φ2 a2 w2 hs2 hr2 (hu1.trans hu2) (hd1.trans hd2)
    | exit id => exact ⟨_, s1, h1, pass _ (by simp) d, q⟩
    | ret => exact ⟨_, s1, h1, pass _ (by simp) d, q⟩
  | .cond c x y, s, h, Q, e => by
    have go : ∀ b, ev s c = .bool b → (∃ ex s' h', Det P (bif b then x else y) ⟨s, h⟩ ex ⟨s', h'⟩ ∧ Q ex s' h') → ∃ ex s' h', Det P (.cond c x y) ⟨s, h⟩ ex ⟨s', h'⟩ ∧ Q ex s' h' := by
      rintro b hb ⟨ex, s', h', d, q⟩
      refine ⟨ex, s', h', fun ρ hf nt code hc φ w a R hs hr hQ => ?_, q⟩
      obtain ⟨c', a', b', rfl, hx, hy, hz⟩ := code_inv hc
      have hv := opd_ok hs hx
      rw [eval_eq, hb] at hv
      generalize hu : a.eval _ = u at hv
      cases hv
      cases b with
      | true => exact wpIn_cond_true hu (d ρ (hf.imp id fun e => (Bool.and_eq_true _ _ ▸ e : _ ∧ _).1) nt _ hy φ w a R hs hr hQ)
      | false => exact wpIn_cond_false hu (d ρ (hf.imp id fun e => (Bool.and_eq_true _ _ ▸ e : _ ∧ _).2) nt _ hz φ w a R hs hr hQ)
    rw [Ev] at e
    split at e
    · rename_i hb; exact go true hb (Ev.det hm e)
    · rename_i hb; exact go false hb (Ev.det hm e)
    · exact e.elim
  | .block id b, s, h, Q, e => by
    rw [Ev] at e
    obtain ⟨ex, s1, h1, d, q⟩ := Ev.det hm e
    have go : ∀ ex', leave id ex = ex' → Det P (.block id b) ⟨s, h⟩ ex' ⟨s1, h1⟩ := by
      rintro ex' rfl ρ hf nt code hc φ w a R hs hr hQ
      obtain ⟨b', rfl, hb⟩ := code_inv hc
      apply wpIn_block
      refine d ρ hf nt _ hb φ w a _ hs hr fun φ1 a1 w1 hs1 hr1 hu1 hd1 => ?_
      have := hQ φ1 a1 w1 hs1 hr1 hu1 hd1
      cases ex with
      | normal => exact this
      | exit i =>
        show if i = id then R .normal a1 w1 else R (.exit i) a1 w1
        by_cases e : i = id
        · rw [if_pos e]; simp only [leave, if_pos e] at this; exact this
        · rw [if_neg e]; simp only [leave, if_neg e] at this; exact this
      | ret => exact this
    refine ⟨_, s1, h1, go _ rfl, ?_⟩
    cases ex with
    | normal => exact q
    | exit i =>
      simp only [leave] at q ⊢
      by_cases e : i = id
      · rw [if_pos e] at q ⊢; exact q
      · rw [if_neg e] at q ⊢; exact q
    | ret => exact q
  | .loop b, s, h, Q, e => by
    obtain ⟨ex, s', h', d, q⟩ := e
    refine ⟨ex, s', h', fun ρ hf nt code hc φ w a R hs hr hQ => ?_, q⟩
    obtain ⟨b', rfl, hb⟩ := code_inv hc
    exact (d ρ hf nt _ hb φ w a R hs hr hQ).wp
  | .exit id, s, h, Q, e => ⟨.exit id, s, h, fun ρ hf nt code hc φ w a R hs hr hQ => by
      obtain rfl := code_inv hc
      exact wpIn_exit (hQ φ a w hs hr (UpdH.refl _ _ _) (MK.of (Upd.refl _ _) rfl)), e⟩
  | .ret, s, h, Q, e => ⟨.ret, s, h, fun ρ hf nt code hc φ w a R hs hr hQ => by
      obtain rfl := code_inv hc
      exact wpIn_ret (hQ φ a w hs hr (UpdH.refl _ _ _) (MK.of (Upd.refl _ _) rfl)), e⟩
/-- a loop's round -/
theorem Lp.go (hm : P.follows .mixedOrders = true) {b : VCode} {s : T AV} {h : Heap} {k : List Fr} {Q : Ex → T AV → Heap → Prop} (e : Ev P b s h (Un P (.lp b :: k) Q)) : Lp P b s h (Un P k Q) := by
  obtain ⟨ex, s1, h1, d, q⟩ := Ev.det hm e
  refine Lp.round d ?_
  cases ex with
  | normal => exact q
  | exit i => exact q
  | ret => exact q
theorem ev_seq {a b : VCode} {s : T AV} {h : Heap} {k : List Fr} {Q : Ex → T AV → Heap → Prop} : Ev P (.seq a b) s h (Un P k Q) = Ev P a s h (Un P (.seq b :: k) Q) := by
  rw [Ev]
  congr 1
theorem ev_block {id : Nat} {b : VCode} {s : T AV} {h : Heap} {k : List Fr} {Q : Ex → T AV → Heap → Prop} : Ev P (.block id b) s h (Un P k Q) = Ev P b s h (Un P (.blk id :: k) Q) := by
  rw [Ev]
  congr 1
/-- what a function's end comes to -/
def Fin (res : List VRes) (Q : AV → Heap → Prop) : Ex → T AV → Heap → Prop := fun ex s h => match ex with
  | .exit _ => False
  | _ => match VM.results ⟨s, h⟩ res with
    | some v => Q v h
    | none => False
theorem Cl.enter (hm : P.follows .mixedOrders = true) {f : Nat} {fn : Func} {vf : VFun} (hf : P.funcs[f]? = some fn) (hc : cFun P fn = some vf) (hn : fn.name ≠ "runtime.NumGoroutine") (hlt : f < YB) {args : List AV} (hl : args.length = vf.nargs) {h : Heap} {Q : AV → Heap → Prop}
    (e : Ev P vf.body (argsT args 0 .e) h (Un P [] (Fin vf.res Q))) : Cl P f args h Q := by
  obtain ⟨ex, s', h', d, q⟩ := Ev.det hm e
  have hx : (ex = .normal ∨ ex = .ret) ∧ ∃ v, VM.results ⟨s', h'⟩ vf.res = some v ∧ Q v h' := by
    simp only [Un, Fin] at q
    cases ex with
    | exit i => exact q.elim
    | normal =>
      simp only at q
      split at q
      · rename_i v hv; exact ⟨.inl rfl, v, hv, q⟩
      · exact q.elim
    | ret =>
      simp only at q
      split at q
      · rename_i v hv; exact ⟨.inr rfl, v, hv, q⟩
      · exact q.elim
  obtain ⟨hex, v, hv, q⟩ := hx
  refine ⟨v, h', ?_, q⟩
  unfold cFun at hc
  split at hc
  · cases hc
  rename_i c hb
  split at hc
  rotate_left
  · cases hc
  rename_i vc vr hc1 hvr
  split at hc
  rotate_left
  · cases hc
  rename_i hle
  cases hc
  refine .inl ⟨hlt, ⟨fn, hf, by rw [hb]; rfl, hn⟩, fun φ w us hr hus => callsIn_wide.1 (callsIn_of_wp_marks (n := 0) hf hb trivial ?_)⟩
  have hs0 := start_ok (φ := φ) (w := w) hus (nt := fn.ntmps) (by rw [hl]; exact hle) h
  refine d none (.inl rfl) fn.ntmps c hc1 φ w _ _ hs0 hr fun φ1 a1 w1 hs1 hr1 hu1 hk1 => ?_
  have fin : LeavesInM Fence.wide 0 P fn a1.tmps (fun e w' => ∃ φ' u, e = .returned u ∧ VR φ' w' v u ∧ HR φ' w' h' ∧ UpdH φ w h φ' w' h') a1.defers .returning w1 :=
    leaves_marks hs1 hr1 hu1 (hk1.go _ (Nat.le_refl _) trivial) fun w' g1 g2 g3 =>
      let ⟨u, r1, r2⟩ := results_ok g1 g2 hvr hv
      ⟨u, r1, φ1, u, rfl, r2, g2, g3⟩
  rcases hex with rfl | rfl
  · exact fin
  · exact fin
end
end Go.Proofs.Ytlemediphmnffaa.VM
namespace Go.Proofs.Ytlemediphmnffaa.VM
open Go.RowKit
mutual
/-- A value with what it reaches, told without memory. 'r': may it reach memory that is told already? -/
inductive Fz (r : Bool) (h : Heap) : AV → AV → Prop
  | undef : Fz r h .undef .undef
  | bool (b : Bool) : Fz r h (.bool b) (.bool b)
  | int (k : IntKind) (n : Int) : Fz r h (.int k n) (.int k n)
  | str (s : List Nat) : Fz r h (.str s) (.str s)
  | nilp : Fz r h .nilp .nilp
  | nils : Fz r h .nils .nils
  | nilm : Fz r h .nilm .nilm
  | nilf : Fz r h .nilf .nilf
  | sl {b off len cap sz : Nat} {l cs cs' : List AV} {e : TypeId} {ver : Nat} (hl : 0 < len) (hg : h.get b = some (.cells l e ver)) (hc : cut l off (len * sz) = some cs) (t : Fzs r h cs cs') : Fz r h (.sl b off len cap sz) (.rs cs' len)
  | sl0 {b off cap sz : Nat} : Fz r h (.sl b off 0 cap sz) (.rs [] 0)
  | ptr {b off : Nat} {l cs' : List AV} {e : TypeId} {ver : Nat} (hg : h.get b = some (.cells l e ver)) (t : Fzs r h (l.drop off) cs') : Fz r h (.ptr b off) (.rp cs')
  | agg {l l' : List AV} (t : Fzs r h l l') : Fz r h (.agg l) (.agg l')
  | tup {l l' : List AV} (t : Fzs r h l l') : Fz r h (.tup l) (.tup l')
  | fn {f : Nat} {l l' : List AV} (t : Fzs r h l l') : Fz r h (.fn f l) (.fn f l')
  | rs0 {l : List AV} : Fz r h (.rs l 0) (.rs [] 0)
  | rs {l l' : List AV} {len : Nat} (hr : r = true) (t : Fzs r h l l') : Fz r h (.rs l len) (.rs l' len)
  | rp {l l' : List AV} (hr : r = true) (t : Fzs r h l l') : Fz r h (.rp l) (.rp l')
inductive Fzs (r : Bool) (h : Heap) : List AV → List AV → Prop
  | nil : Fzs r h [] []
  | cons {x y : AV} {l k : List AV} (f : Fz r h x y) (t : Fzs r h l k) : Fzs r h (x :: l) (y :: k)
end
section
variable {r : Bool} {h : Heap} {φ ψ : Env} {w : World}
theorem VRm.cut {l cs : List AV} {B off i n : Nat} (h : VRm φ w l B off) (e : VM.cut l i n = some cs) : VRm φ w cs B (off + i) := by
  obtain ⟨rfl, _⟩ := cut_spec e
  exact (h.drop i).take n
mutual
theorem Fz.vr (hr : HR φ w h) (hψ : ∀ b B o, φ b = some (B, o) → ∀ c p, ψ c = some p → p.1 ≠ B) (hrs : r = true → ∀ c, ψ c = none) : ∀ {x y : AV} {u : Value}, Fz r h x y → VR φ w x u → VR ψ w y u
  | _, _, _, .undef, .undef h => .undef h
  | _, _, _, .bool _, .bool b => .bool b
  | _, _, _, .int _ _, .int k n => .int k n
  | _, _, _, .str _, .str s => .str s
  | _, _, _, .nilp, .nilp => .nilp
  | _, _, _, .nils, .nils => .nils
  | _, _, _, .nilm, .nilm => .nilm
  | _, _, _, .nilf, .nilf => .nilf
  | _, _, _, .sl hl hg hc t, .sl hb hcap hlen hs hsz => by
    obtain ⟨B', o', e', n, q1, q2, q3, q4, q5⟩ := hr.cells hg
    rw [hb] at q1
    cases q1
    exact .rs (by omega) (hψ _ _ _ hb) (hr.lt _ _ hb) (Fzs.vrm hr hψ hrs t (q3.cut hc))
  | _, _, _, .sl hl _ _ _, .sl0 a => absurd hl (by omega)
  | _, _, _, .sl0, .sl _ _ _ _ _ => .rs0 _ _
  | _, _, _, .sl0, .sl0 a => .rs0 _ _
  | _, _, _, .ptr hg t, .ptr hb => by
    obtain ⟨B', o', e', n, q1, q2, q3, q4, q5⟩ := hr.cells hg
    rw [hb] at q1
    cases q1
    exact .rp (hψ _ _ _ hb) (hr.lt _ _ hb) (Fzs.vrm hr hψ hrs t (q3.drop _))
  | _, _, _, .agg t, .agg hv => .agg (Fzs.vrs hr hψ hrs t hv)
  | _, _, _, .tup t, .tup hv => .tup (Fzs.vrs hr hψ hrs t hv)
  | _, _, _, .fn t, .fn hf hv => .fn hf (Fzs.vrs hr hψ hrs t hv)
  | _, _, _, .rs0, .rs _ _ _ _ => .rs0 _ _
  | _, _, _, .rs0, .rs0 _ _ => .rs0 _ _
  | _, _, _, .rs hR t, .rs hl hB hlt hm => .rs hl (fun b p hb => by rw [hrs hR] at hb; cases hb) hlt (Fzs.vrm hr hψ hrs t hm)
  | _, _, _, .rs hR t, .rs0 a c => by cases t; exact .rs0 _ _
  | _, _, _, .rp hR t, .rp hB hlt hm => .rp (fun b p hb => by rw [hrs hR] at hb; cases hb) hlt (Fzs.vrm hr hψ hrs t hm)
theorem Fzs.vrs (hr : HR φ w h) (hψ : ∀ b B o, φ b = some (B, o) → ∀ c p, ψ c = some p → p.1 ≠ B) (hrs : r = true → ∀ c, ψ c = none) : ∀ {x y : List AV} {u : List Value}, Fzs r h x y → VRs φ w x u → VRs ψ w y u
  | _, _, _, .nil, .nil => .nil
  | _, _, _, .cons f t, .cons hv tv => .cons (Fz.vr hr hψ hrs f hv) (Fzs.vrs hr hψ hrs t tv)
theorem Fzs.vrm (hr : HR φ w h) (hψ : ∀ b B o, φ b = some (B, o) → ∀ c p, ψ c = some p → p.1 ≠ B) (hrs : r = true → ∀ c, ψ c = none) : ∀ {x y : List AV} {B off : Nat}, Fzs r h x y → VRm φ w x B off → VRm ψ w y B off
  | _, _, _, _, .nil, .nil => .nil
  | _, _, _, _, .cons f t, .cons hc hv tv => .cons hc (Fz.vr hr hψ hrs f hv) (Fzs.vrm hr hψ hrs t tv)
end
end
section
variable {P : Program}
/-- what stays stays -/
theorem HR.same {φ : Env} {w w' : World} {h : Heap} {φ' : Env} (hr : HR φ w h) (u : Upd none0 w φ' w') : HR φ w' h ∧ UpdH φ w h φ w' h := by
  have hk : ∀ B, B < w.heap.size → w'.heap[B]? = w.heap[B]? := fun B hB => u.keep B hB fun _ _ e => by cases e
  have hu : Upd φ w φ w' := ⟨u.os, u.tape, u.output, u.size, fun _ _ e => e, fun _ _ _ e => .inl ⟨_, _, e⟩, fun B hB _ => hk B hB, u.shape, u.drawn⟩
  refine ⟨⟨fun b => ?_, fun b p e => Nat.lt_of_lt_of_le (hr.lt b p e) u.size, hr.inj, hr.next⟩, UpdH.same _ _ hu hk⟩
  cases hl : live (h.get b) with
  | true => exact BR.upd hr hu hl fun p hp => hk _ (hr.lt _ _ hp)
  | false =>
    have := hr.blk b
    cases hg : h.get b with
    | none => rw [hg] at this; exact this
    | some o =>
      cases o with
      | dead => trivial
      | _ => rw [hg] at hl; cases hl
/-- A call that was shown in an empty memory, its arguments told as values, is one in every memory, which it leaves. -/
theorem OK.pure {f : Nat} {args args' : List AV} {h h0 : Heap} {v v' : AV} (ha : Fzs true h args args') (o : OK P f args' ⟨0, .e⟩ v h0) (hv : Fz false h0 v v') : OK P f args h v' h := by
  obtain ⟨hlt, he, o⟩ := o.old (.inl fun r e => by cases e)
  refine .inl ⟨hlt, he, fun φ w us hr hus => ?_⟩
  have hus' : VRs none0 w args' us.toList := Fzs.vrs hr (fun _ _ _ _ c p e => by cases e) (fun _ _ => rfl) ha hus
  refine Calls.mono (o none0 w us (hr_empty w) hus') ?_
  rintro e w' ⟨φ', u, rfl, hvu, hr', hu⟩
  obtain ⟨h1, h2⟩ := hr.same hu.toUpd
  refine ⟨φ, u, rfl, Fz.vr hr' ?_ (fun e => by cases e) hv hvu, h1, h2⟩
  intro b B o hb c p hc e
  rcases hu.new b B o hb with ⟨b0, o0, e0⟩ | h0
  · cases e0
  · have := hr.lt c p hc
    omega
/-- the same, freely -/
def Pu (P : Program) (f : Nat) (args : List AV) (Q : AV → Prop) : Prop := ∃ v v' h0, OK P f args ⟨0, .e⟩ v h0 ∧ Fz false h0 v v' ∧ Q v'
theorem Pu.cl {f : Nat} {args args' : List AV} {h : Heap} {Q : AV → Prop} (p : Pu P f args' Q) (ha : Fzs true h args args') {R : AV → Heap → Prop} (k : ∀ v, Q v → R v h) : Cl P f args h R :=
  let ⟨_, v', _, o, hf, q⟩ := p
  ⟨v', h, o.pure ha hf, k v' q⟩
theorem Pu.mono {f : Nat} {args : List AV} {Q R : AV → Prop} (p : Pu P f args Q) (k : ∀ v, Q v → R v) : Pu P f args R :=
  let ⟨v, v', h0, o, hf, q⟩ := p
  ⟨v, v', h0, o, hf, k v' q⟩
theorem Pu.of {f : Nat} {args : List AV} {Q : AV → Prop} (c : Cl P f args ⟨0, .e⟩ fun v h' => ∃ v', Fz false h' v v' ∧ Q v') : Pu P f args Q :=
  let ⟨v, h', o, v', hf, q⟩ := c
  ⟨v, v', h', o, hf, q⟩
mutual
def AV.told : AV → Bool
  | .ptr .. | .sl .. | .map _ | .yld _ => false
  | .fn _ l | .agg l | .tup l | .rs l _ | .rp l => AV.tolds l
  | _ => true
def AV.tolds : List AV → Bool
  | [] => true
  | x :: l => x.told && AV.tolds l
end
mutual
theorem Fz.refl {h : Heap} : ∀ {x : AV}, x.told = true → Fz true h x x
  | .undef, _ => .undef
  | .bool b, _ => .bool b
  | .int k n, _ => .int k n
  | .str s, _ => .str s
  | .ptr _ _, e => by simp [AV.told] at e
  | .nilp, _ => .nilp
  | .sl .., e => by simp [AV.told] at e
  | .nils, _ => .nils
  | .map _, e => by simp [AV.told] at e
  | .nilm, _ => .nilm
  | .fn f l, e => .fn (Fzs.refl (by simpa [AV.told] using e))
  | .nilf, _ => .nilf
  | .agg l, e => .agg (Fzs.refl (by simpa [AV.told] using e))
  | .tup l, e => .tup (Fzs.refl (by simpa [AV.told] using e))
  | .rs l n, e => .rs rfl (Fzs.refl (by simpa [AV.told] using e))
  | .rp l, e => .rp rfl (Fzs.refl (by simpa [AV.told] using e))
theorem Fzs.refl {h : Heap} : ∀ {l : List AV}, AV.tolds l = true → Fzs true h l l
  | [], _ => .nil
  | x :: l, e => by
    simp only [AV.tolds, Bool.and_eq_true] at e
    exact .cons (Fz.refl e.1) (Fzs.refl e.2)
end
end
end Go.Proofs.Ytlemediphmnffaa.VM
namespace Go.Proofs.Ytlemediphmnffaa.VM
open Go.RowKit
/-- under a guard -/
def Gd (P : Program) (x : AV) (w : Bool) (d : Option Nat) (op : VOp) (l : List VO) (s : T AV) (h : Heap) (Q : T AV → Heap → Prop) : Prop := match x with
  | .bool b => if b = w then EvO P (⟨d, none, op⟩ :: l) s h Q else EvO P l (setd s d .undef) h Q
  | _ => EvO P l (setd s d .undef) h Q
/-- at a condition -/
def Cd (P : Program) (x : AV) (a b : VCode) (s : T AV) (h : Heap) (Q : Ex → T AV → Heap → Prop) : Prop := match x with
  | .bool c => if c = true then Ev P a s h Q else Ev P b s h Q
  | _ => False
/-- at a function's end -/
def Fi (v : Option AV) (h : Heap) (Q : AV → Heap → Prop) : Prop := match v with
  | some v => Q v h
  | none => False
def ldB (agg : Bool) (off n : Nat) (h : Heap) : Option Blk → Out
  | some (.cells l _ _) => valO h (part agg l off n)
  | _ => .fail
def stB (h : Heap) : Option Heap → Out
  | some h => .val .undef h
  | none => .fail
def stC (h : Heap) (b off n : Nat) : Option (List AV) → Out
  | some c => if c.length = n then stB h (writeAt h b off c) else .fail
  | none => .fail
def bxC (h : Heap) (nm : Nat) (e : TypeId) : Option (List AV) → Out
  | some c => .val (.ptr nm 0) (h.mk' nm (.cells c e 0))
  | none => .fail
def bsC (h : Heap) (nm : Nat) (len sz : Nat) (e : TypeId) : Option (List AV) → Out
  | some cs => .val (.sl nm 0 len len sz) (h.mk' nm (.cells cs e 0))
  | none => .fail
def pk (h : Heap) (c a b : AV) : Out := match c with
  | .bool c => .val (if c = true then a else b) h
  | _ => .fail
def lkB (c : EqC) (zero : AV) (ok : Bool) (h : Heap) (i : AV) : Option Blk → Out
  | some (.map es _) => match findE c i es with
    | some r => .val (if ok then .tup [r.getD zero, .bool r.isSome] else r.getD zero) h
    | none => .fail
  | _ => .fail
def NxM (P : Program) (base i : Nat) (d : Option Nat) (l : List VO) (s : T AV) (h : Heap) (Q : T AV → Heap → Prop) : Out → Prop
  | .val v h' => EvM P base l i (setd s d v) h' Q
  | .fail => False
  | .enter f args => Cl P f args h fun v h' => EvM P base l i (setd s d v) h' Q
def AfM (P : Program) (base i : Nat) (d : Option Nat) (l : List VO) (s : T AV) (Q : T AV → Heap → Prop) : AV → Heap → Prop := fun v h' => EvM P base l i (setd s d v) h' Q
def GdM (P : Program) (base i : Nat) (x : AV) (w : Bool) (d : Option Nat) (op : VOp) (l : List VO) (s : T AV) (h : Heap) (Q : T AV → Heap → Prop) : Prop := match x with
  | .bool b => if b = w then EvM P base (⟨d, none, op⟩ :: l) i s h Q else EvM P base l (i + 1) (setd s d .undef) h Q
  | _ => EvM P base l (i + 1) (setd s d .undef) h Q
def rsv (base i : Nat) (op : VOp) (h : Heap) : Heap := bif op.fresh then h.mk' (base + i) .dead else h
section
variable {P : Program} {s : T AV} {h : Heap} {Q : T AV → Heap → Prop} {K : Ex → T AV → Heap → Prop} {k : List Fr} {l : List VO} {d : Option Nat} {nm : Nat}
theorem evo_nil : EvO P [] s h Q = Q s h := by rw [EvO]
theorem evo_go {op : VOp} : EvO P (⟨d, none, op⟩ :: l) s h Q = Nx P d l s h Q (vop ⟨s, h⟩ h.next op) := by
  rw [EvO]
  show (bif true then _ else _) = _
  rw [cond_true]
  cases vop ⟨s, h⟩ h.next op <;> rfl
theorem evo_gd {t : Nat} {w : Bool} {op : VOp} : EvO P (⟨d, some (t, w), op⟩ :: l) s h Q = Gd P (sg s t) w d op l s h Q := by
  rw [EvO]
  show (bif (match St.get ⟨s, h⟩ t with | .bool b => b == w | _ => false) then _ else _) = _
  rw [stget_eq]
  unfold Gd
  cases sg s t <;> try rfl
  rename_i b
  simp only [EvO]
  cases b <;> cases w <;> rfl
theorem gd_tt {op : VOp} : Gd P (.bool true) true d op l s h Q = EvO P (⟨d, none, op⟩ :: l) s h Q := rfl
theorem gd_tf {op : VOp} : Gd P (.bool true) false d op l s h Q = EvO P l (setd s d .undef) h Q := rfl
theorem gd_ft {op : VOp} : Gd P (.bool false) true d op l s h Q = EvO P l (setd s d .undef) h Q := rfl
theorem gd_ff {op : VOp} : Gd P (.bool false) false d op l s h Q = EvO P (⟨d, none, op⟩ :: l) s h Q := rfl
theorem gd_t {p : Prop} [Decidable p] {op : VOp} : Gd P (.bool (decide p)) true d op l s h Q = ((p → EvO P (⟨d, none, op⟩ :: l) s h Q) ∧ (¬ p → EvO P l (setd s d .undef) h Q)) := by
  by_cases e : p <;> simp [Gd, e]
theorem gd_f {p : Prop} [Decidable p] {op : VOp} : Gd P (.bool (decide p)) false d op l s h Q = ((¬ p → EvO P (⟨d, none, op⟩ :: l) s h Q) ∧ (p → EvO P l (setd s d .undef) h Q)) := by
  by_cases e : p <;> simp [Gd, e]
theorem gd_undef {w : Bool} {op : VOp} : Gd P .undef w d op l s h Q = EvO P l (setd s d .undef) h Q := rfl
theorem nx_val {v : AV} {h' : Heap} : Nx P d l s h Q (.val v h') = EvO P l (setd s d v) h' Q := rfl
theorem nx_fail : Nx P d l s h Q .fail = False := rfl
theorem nx_enter {f : Nat} {args : List AV} : Nx P d l s h Q (.enter f args) = Cl P f args h (Af P d l s Q) := rfl
theorem nx_ite {c : Prop} [Decidable c] {a b : Out} : Nx P d l s h Q (if c then a else b) = ((c → Nx P d l s h Q a) ∧ (¬ c → Nx P d l s h Q b)) := by by_cases e : c <;> simp [e]
theorem af_go {v : AV} {h' : Heap} : Af P d l s Q v h' = EvO P l (setd s d v) h' Q := rfl
theorem setd_some {n : Nat} {v : AV} : setd s (some n) v = s.set n v := rfl
theorem setd_none {v : AV} : setd s none v = s := rfl
theorem ev_t {n : Nat} : ev s (.t n) = sg s n := rfl
theorem ev_c {v : AV} : ev s (.c v) = v := rfl
theorem ev_skip : Ev P .skip s h K = K .normal s h := by rw [Ev]
theorem ev_ops : Ev P (.ops l) s h K = EvO P l s h (K .normal) := by rw [Ev]
theorem ev_drawn {lo : List (Nat × List Nat)} : Ev P (.drawn l lo) s h K = EvR P l lo s h (K .normal) := by rw [Ev]
theorem evr_loose {p : Nat × List Nat} {lo : List (Nat × List Nat)} : EvR P l (p :: lo) s h Q = EvD P l (p :: lo) s h Q := if_neg (by simp [quietR])
def EvQ (P : Program) (q : Option (List Nat)) (l : List VO) (s : T AV) (h : Heap) (Q : T AV → Heap → Prop) : Prop := if q.isSome = true then EvO P l s h Q else EvD P l [] s h Q
theorem evr_quiet : EvR P l [] s h Q = EvQ P (callsOf l) l s h Q := by
  unfold EvR EvQ quietR
  simp only [List.isEmpty_nil, Bool.true_and]
theorem evq_some {q : List Nat} : EvQ P (some q) l s h Q = EvO P l s h Q := rfl
theorem evq_none : EvQ P none l s h Q = EvD P l [] s h Q := rfl
theorem ev_mixed {lo : List (Nat × List Nat)} : Ev P (.mixed l lo) s h K = EvMR P l lo s h (K .normal) := by rw [Ev]
theorem evmr_loose {p : Nat × List Nat} {lo : List (Nat × List Nat)} : EvMR P l (p :: lo) s h Q = EvMD P l (p :: lo) s h Q := if_neg (by simp [quietR])
def EvMQ (P : Program) (q : Option (List Nat)) (l : List VO) (s : T AV) (h : Heap) (Q : T AV → Heap → Prop) : Prop := if q.isSome = true then EvM P h.next l 0 s (reserve h.next l 0 h) Q else EvMD P l [] s h Q
theorem evmr_quiet : EvMR P l [] s h Q = EvMQ P (callsOf l) l s h Q := by
  unfold EvMR EvMQ quietR
  simp only [List.isEmpty_nil, Bool.true_and]
theorem evmq_some {q : List Nat} : EvMQ P (some q) l s h Q = EvM P h.next l 0 s (reserve h.next l 0 h) Q := rfl
theorem evmq_none : EvMQ P none l s h Q = EvMD P l [] s h Q := rfl
theorem res_nil {base i : Nat} : reserve base [] i h = h := rfl
theorem res_cons {base i : Nat} {o : VO} : reserve base (o :: l) i h = reserve base l (i + 1) (rsv base i o.op h) := by
  rw [reserve]
  rfl
theorem evm_nil {base i : Nat} : EvM P base [] i s h Q = Q s h := by rw [EvM]
theorem evm_go {base i : Nat} {op : VOp} : EvM P base (⟨d, none, op⟩ :: l) i s h Q = NxM P base (i + 1) d l s h Q (vop ⟨s, h⟩ (nmA base i op h) op) := by
  rw [EvM]
  show (bif true then _ else _) = _
  rw [cond_true]
  cases vop ⟨s, h⟩ (nmA base i op h) op <;> rfl
theorem evm_gd {base i : Nat} {t : Nat} {w : Bool} {op : VOp} : EvM P base (⟨d, some (t, w), op⟩ :: l) i s h Q = GdM P base i (sg s t) w d op l s h Q := by
  rw [EvM]
  show (bif (match St.get ⟨s, h⟩ t with | .bool b => b == w | _ => false) then _ else _) = _
  rw [stget_eq]
  unfold GdM
  cases sg s t <;> try rfl
  rename_i b
  simp only [EvM]
  cases b <;> cases w <;> rfl
section
variable {base i : Nat}
theorem gdm_tt {op : VOp} : GdM P base i (.bool true) true d op l s h Q = EvM P base (⟨d, none, op⟩ :: l) i s h Q := rfl
theorem gdm_tf {op : VOp} : GdM P base i (.bool true) false d op l s h Q = EvM P base l (i + 1) (setd s d .undef) h Q := rfl
theorem gdm_ft {op : VOp} : GdM P base i (.bool false) true d op l s h Q = EvM P base l (i + 1) (setd s d .undef) h Q := rfl
theorem gdm_ff {op : VOp} : GdM P base i (.bool false) false d op l s h Q = EvM P base (⟨d, none, op⟩ :: l) i s h Q := rfl
theorem gdm_t {p : Prop} [Decidable p] {op : VOp} : GdM P base i (.bool (decide p)) true d op l s h Q = ((p → EvM P base (⟨d, none, op⟩ :: l) i s h Q) ∧ (¬ p → EvM P base l (i + 1) (setd s d .undef) h Q)) := by
  by_cases e : p <;> simp [GdM, e]
theorem gdm_f {p : Prop} [Decidable p] {op : VOp} : GdM P base i (.bool (decide p)) false d op l s h Q = ((¬ p → EvM P base (⟨d, none, op⟩ :: l) i s h Q) ∧ (p → EvM P base l (i + 1) (setd s d .undef) h Q)) := by
  by_cases e : p <;> simp [GdM, e]
theorem gdm_undef {w : Bool} {op : VOp} : GdM P base i .undef w d op l s h Q = EvM P base l (i + 1) (setd s d .undef) h Q := rfl
theorem nxm_val {v : AV} {h' : Heap} : NxM P base i d l s h Q (.val v h') = EvM P base l i (setd s d v) h' Q := rfl
theorem nxm_fail : NxM P base i d l s h Q .fail = False := rfl
theorem nxm_enter {f : Nat} {args : List AV} : NxM P base i d l s h Q (.enter f args) = Cl P f args h (AfM P base i d l s Q) := rfl
theorem nxm_ite {c : Prop} [Decidable c] {a b : Out} : NxM P base i d l s h Q (if c then a else b) = ((c → NxM P base i d l s h Q a) ∧ (¬ c → NxM P base i d l s h Q b)) := by by_cases e : c <;> simp [e]
theorem afm_go {v : AV} {h' : Heap} : AfM P base i d l s Q v h' = EvM P base l i (setd s d v) h' Q := rfl
theorem nmA_eq {op : VOp} : nmA base i op h = if op.fresh = true then base + i else h.next := by
  unfold nmA; cases op.fresh <;> rfl
theorem rsv_eq {op : VOp} : rsv base i op h = if op.fresh = true then h.mk' (base + i) .dead else h := by
  unfold rsv; cases op.fresh <;> rfl
theorem max_add {n a : Nat} : max n (n + a) = n + a := by omega
theorem max_add' {n a b : Nat} : max (n + a) (n + b) = n + max a b := by omega
end
theorem ev_cond {c : Opd} {a b : VCode} : Ev P (.cond c a b) s h K = Cd P (ev s c) a b s h K := by
  rw [Ev]
  unfold Cd
  cases ev s c <;> try rfl
  rename_i b
  cases b <;> rfl
theorem cd_true {a b : VCode} : Cd P (.bool true) a b s h K = Ev P a s h K := rfl
theorem cd_false {a b : VCode} : Cd P (.bool false) a b s h K = Ev P b s h K := rfl
theorem cd_bool {p : Prop} [Decidable p] {a b : VCode} : Cd P (.bool (decide p)) a b s h K = ((p → Ev P a s h K) ∧ (¬ p → Ev P b s h K)) := by by_cases e : p <;> simp [Cd, e]
theorem ev_loop {b : VCode} : Ev P (.loop b) s h K = Lp P b s h K := by rw [Ev]
theorem ev_exit {i : Nat} : Ev P (.exit i) s h K = K (.exit i) s h := by rw [Ev]
theorem ev_ret : Ev P .ret s h K = K .ret s h := by rw [Ev]
theorem un_nil {ex : Ex} : Un P [] K ex s h = K ex s h := rfl
theorem un_seq {b : VCode} : Un P (.seq b :: k) K .normal s h = Ev P b s h (Un P k K) := rfl
theorem un_seq_x {b : VCode} {i : Nat} : Un P (.seq b :: k) K (.exit i) s h = Un P k K (.exit i) s h := rfl
theorem un_seq_r {b : VCode} : Un P (.seq b :: k) K .ret s h = Un P k K .ret s h := rfl
theorem un_blk {i : Nat} : Un P (.blk i :: k) K .normal s h = Un P k K .normal s h := rfl
theorem un_blk_x {i j : Nat} : Un P (.blk i :: k) K (.exit j) s h = if j = i then Un P k K .normal s h else Un P k K (.exit j) s h := rfl
theorem un_blk_r {i : Nat} : Un P (.blk i :: k) K .ret s h = Un P k K .ret s h := rfl
theorem un_lp {b : VCode} : Un P (.lp b :: k) K .normal s h = Lp P b s h (Un P k K) := rfl
theorem un_lp_x {b : VCode} {i : Nat} : Un P (.lp b :: k) K (.exit i) s h = Un P k K (.exit i) s h := rfl
theorem un_lp_r {b : VCode} : Un P (.lp b :: k) K .ret s h = Un P k K .ret s h := rfl
theorem fin_n {res : List VRes} {R : AV → Heap → Prop} : Fin res R .normal s h = Fi (VM.results ⟨s, h⟩ res) h R := rfl
theorem fin_r {res : List VRes} {R : AV → Heap → Prop} : Fin res R .ret s h = Fi (VM.results ⟨s, h⟩ res) h R := rfl
theorem fi_some {v : AV} {R : AV → Heap → Prop} : Fi (some v) h R = R v h := rfl
theorem vop_mov {x : Opd} : vop ⟨s, h⟩ nm (.mov x) = .val (ev s x) h := by cases x <;> rfl
theorem vop_pick {c a b : Opd} : vop ⟨s, h⟩ nm (.pick c a b) = pk h (ev s c) (ev s a) (ev s b) := by
  simp only [vop, eval_eq, pk]
  cases ev s c <;> try rfl
  rename_i b
  cases b <;> rfl
theorem pk_true {a b : AV} : pk h (.bool true) a b = .val a h := rfl
theorem pk_false {a b : AV} : pk h (.bool false) a b = .val b h := rfl
theorem pk_bool {p : Prop} [Decidable p] {a b : AV} : pk h (.bool (decide p)) a b = .val (if p then a else b) h := by by_cases e : p <;> simp [pk, e]
theorem vop_alloc {z : List AV} {e : TypeId} : vop ⟨s, h⟩ nm (.alloc z e) = .val (.ptr nm 0) (h.mk' nm (.cells z e 0)) := rfl
theorem vop_box {e : TypeId} {x : Opd} : vop ⟨s, h⟩ nm (.box e x) = bxC h nm e (ev s x).cells := by
  simp only [vop, eval_eq]; cases (ev s x).cells <;> rfl
theorem vop_build {z : List AV} {ps : List (Nat × Nat × Opd)} : vop ⟨s, h⟩ nm (.build z ps) = valO h ((fill z (ps.map fun (o, n, x) => (o, n, ev s x))).map .agg) := by
  simp only [vop, eval_eq]
theorem vop_bslice {z : List AV} {e : TypeId} {len : Nat} {ps : List (Nat × Nat × Opd)} : vop ⟨s, h⟩ nm (.bslice z e len ps) = bsC h nm len z.length e (fill ((List.replicate len z).flatten) (ps.map fun (o, n, x) => (o, n, ev s x))) := by
  simp only [vop, eval_eq]
  cases fill ((List.replicate len z).flatten) (ps.map fun (o, n, x) => (o, n, ev s x)) <;> rfl
def ldV (agg : Bool) (n : Nat) (h : Heap) : AV → Out
  | .ptr b off => ldB agg off n h (h.get b)
  | .rp l => valO h (part agg l 0 n)
  | _ => .fail
theorem vop_load {agg : Bool} {n : Nat} {a : Opd} : vop ⟨s, h⟩ nm (.load agg n a) = ldV agg n h (ev s a) := by
  simp only [vop, eval_eq, ldV]
  cases ev s a <;> try rfl
theorem ldV_ptr {agg : Bool} {b off n : Nat} : ldV agg n h (.ptr b off) = ldB agg off n h (h.get b) := rfl
theorem ldV_rp {agg : Bool} {l : List AV} {n : Nat} : ldV agg n h (.rp l) = valO h (part agg l 0 n) := rfl
theorem ldB_some {agg : Bool} {off n : Nat} {l : List AV} {e : TypeId} {ver : Nat} : ldB agg off n h (some (.cells l e ver)) = valO h (part agg l off n) := rfl
def stV (h : Heap) (n : Nat) (a : AV) (c : Option (List AV)) : Out := match a with
  | .ptr b off => stC h b off n c
  | _ => .fail
theorem vop_store {n : Nat} {a x : Opd} : vop ⟨s, h⟩ nm (.store n a x) = stV h n (ev s a) (ev s x).cells := by
  simp only [vop, eval_eq, stV]
  cases ev s a <;> try rfl
  simp only
  cases (ev s x).cells with
  | none => rfl
  | some c =>
    simp only [stC, T.beq_dec]
    by_cases e : c.length = n
    · rw [if_pos e, decide_eq_true e, cond_true]
      cases writeAt h _ _ c <;> rfl
    · rw [if_neg e, decide_eq_false e, cond_false]
theorem stV_ptr {n b off : Nat} {c : List AV} : stV h n (.ptr b off) (some c) = if c.length = n then stB h (writeAt h b off c) else .fail := rfl
theorem stB_some {h' : Heap} : stB h (some h') = .val .undef h' := rfl
def nkV (h : Heap) : AV → Out
  | .nilp | .nilf | .undef => .fail
  | v => .val v h
theorem vop_nilck {x : Opd} : vop ⟨s, h⟩ nm (.nilck x) = nkV h (ev s x) := by
  simp only [vop, eval_eq, nkV]
  cases ev s x <;> rfl
theorem nkV_ptr {b off : Nat} : nkV h (.ptr b off) = .val (.ptr b off) h := rfl
theorem nkV_rp {l : List AV} : nkV h (.rp l) = .val (.rp l) h := rfl
theorem nkV_fn {f : Nat} {l : List AV} : nkV h (.fn f l) = .val (.fn f l) h := rfl
theorem vop_bin {op : BinOp} {x y : Opd} : vop ⟨s, h⟩ nm (.bin op x y) = valO h (bin op (ev s x) (ev s y)) := by simp only [vop, eval_eq]
theorem vop_eqs {kk : EqK} {neg : Bool} {x y : Opd} : vop ⟨s, h⟩ nm (.eqs kk neg x y) = valO h ((eqv kk (ev s x) (ev s y)).map fun b => .bool (b != neg)) := by simp only [vop, eval_eq]
theorem vop_un {op : UnOp} {x : Opd} : vop ⟨s, h⟩ nm (.un op x) = valO h (un op (ev s x)) := by simp only [vop, eval_eq]
def cvI (h : Heap) (kk : IntKind) : AV → Out
  | .int _ n => .val (.int kk (kk.wrap n)) h
  | _ => .fail
theorem vop_cvi {kk : IntKind} {x : Opd} : vop ⟨s, h⟩ nm (.conv (.int kk) x) = cvI h kk (ev s x) := by
  simp only [vop, eval_eq, cvI]
  cases ev s x <;> rfl
theorem cvI_int {kk k' : IntKind} {n : Int} : cvI h kk (.int k' n) = .val (.int kk (kk.wrap n)) h := rfl
def cvT (h : Heap) (x : AV) : Out := match x with
  | .str _ => .fail
  | v => match lenV v with
    | some n => match cellsOf h 1 n v with
      | some cs => valO h ((cs.mapM AV.byte).map .str)
      | none => .fail
    | none => .fail
theorem vop_cvt {x : Opd} : vop ⟨s, h⟩ nm (.conv .text x) = cvT h (ev s x) := by
  simp only [vop, eval_eq, cvT]
  cases ev s x <;> rfl
theorem vop_cvs {x : Opd} : vop ⟨s, h⟩ nm (.conv .same x) = (match ev s x with | .str s => .val (.str s) h | _ => .fail) := by
  simp only [vop, eval_eq]
  cases ev s x <;> rfl
theorem vop_mkfn {f : Nat} {caps : List Opd} : vop ⟨s, h⟩ nm (.mkfn f caps) = .val (.fn f (caps.map (ev s))) h := by
  simp only [vop, eval_eq] <;> rfl
theorem vop_mkmap : vop ⟨s, h⟩ nm .mkmap = .val (.map nm) (h.mk' nm (.map [] 0)) := rfl
def mkS (h : Heap) (nm : Nat) (zero : List AV) (e : TypeId) (bytes : Nat) (l c : AV) : Out := match l, c with
  | .int .i64 l, .int .i64 c => if 0 ≤ l ∧ l ≤ c ∧ c.toNat * bytes ≤ most ∧ c.toNat ≤ most then
      .val (.sl nm 0 l.toNat c.toNat zero.length) (h.mk' nm (.cells ((List.replicate c.toNat zero).flatten) e 0)) else .fail
  | _, _ => .fail
theorem vop_mkslice {z : List AV} {e : TypeId} {bytes : Nat} {l c : Opd} : vop ⟨s, h⟩ nm (.mkslice z e bytes l c) = mkS h nm z e bytes (ev s l) (ev s c) := by
  simp only [vop, eval_eq, mkS]
  rfl
theorem vop_slice {size : Nat} {x : Opd} {lo hi mx : Option Opd} : vop ⟨s, h⟩ nm (.slice size x lo hi mx) = valO h (sliceV size (ev s x) (lo.map (ev s)) (hi.map (ev s)) (mx.map (ev s))) := by
  simp only [vop, eval_eq] <;> rfl
theorem vop_sliceA {size n : Nat} {x : Opd} {lo hi mx : Option Opd} : vop ⟨s, h⟩ nm (.sliceA size n x lo hi mx) = valO h (sliceA h size n (ev s x) (lo.map (ev s)) (hi.map (ev s)) (mx.map (ev s))) := by
  simp only [vop, eval_eq] <;> rfl
theorem vop_sliceS {x : Opd} {lo hi : Option Opd} : vop ⟨s, h⟩ nm (.sliceS x lo hi) = valO h (sliceS (ev s x) (lo.map (ev s)) (hi.map (ev s))) := by
  simp only [vop, eval_eq] <;> rfl
def faV (h : Heap) (off : Nat) : AV → Out
  | .ptr b o => .val (.ptr b (o + off)) h
  | .rp l => .val (.rp (l.drop off)) h
  | _ => .fail
theorem vop_faddr {off : Nat} {x : Opd} : vop ⟨s, h⟩ nm (.faddr off x) = faV h off (ev s x) := by
  simp only [vop, eval_eq, faV]
  cases ev s x <;> rfl
theorem faV_ptr {off b o : Nat} : faV h off (.ptr b o) = .val (.ptr b (o + off)) h := rfl
theorem faV_rp {off : Nat} {l : List AV} : faV h off (.rp l) = .val (.rp (l.drop off)) h := rfl
def fdV (h : Heap) (agg : Bool) (off n : Nat) : AV → Out
  | .agg l => valO h (part agg l off n)
  | _ => .fail
theorem vop_field {agg : Bool} {off n : Nat} {x : Opd} : vop ⟨s, h⟩ nm (.field agg off n x) = fdV h agg off n (ev s x) := by
  simp only [vop, eval_eq, fdV]
  cases ev s x <;> rfl
theorem fdV_agg {agg : Bool} {off n : Nat} {l : List AV} : fdV h agg off n (.agg l) = valO h (part agg l off n) := rfl
def iaV (h : Heap) (size : Nat) (arr : Option Nat) (x i : AV) : Out := match i with
  | .int _ i => match x, arr with
    | .ptr b o, some len => if 0 ≤ i ∧ i < len then .val (.ptr b (o + i.toNat * size)) h else .fail
    | .sl b o len _ sz, none => if 0 ≤ i ∧ i < len ∧ sz = size then .val (.ptr b (o + i.toNat * size)) h else .fail
    | .rs l len, none => if 0 ≤ i ∧ i < len then .val (.rp (l.drop (i.toNat * size))) h else .fail
    | _, _ => .fail
  | _ => .fail
theorem vop_iaddr {size : Nat} {arr : Option Nat} {x i : Opd} : vop ⟨s, h⟩ nm (.iaddr size arr x i) = iaV h size arr (ev s x) (ev s i) := by
  simp only [vop, eval_eq, iaV]
  rfl
theorem iaV_ptr {size len b o : Nat} {kk : IntKind} {i : Int} : iaV h size (some len) (.ptr b o) (.int kk i) = if 0 ≤ i ∧ i < len then .val (.ptr b (o + i.toNat * size)) h else .fail := rfl
theorem iaV_sl {size b o len cap sz : Nat} {kk : IntKind} {i : Int} : iaV h size none (.sl b o len cap sz) (.int kk i) = if 0 ≤ i ∧ i < len ∧ sz = size then .val (.ptr b (o + i.toNat * size)) h else .fail := rfl
theorem iaV_rs {size len : Nat} {l : List AV} {kk : IntKind} {i : Int} : iaV h size none (.rs l len) (.int kk i) = if 0 ≤ i ∧ i < len then .val (.rp (l.drop (i.toNat * size))) h else .fail := rfl
def ixV (h : Heap) (agg : Bool) (size len : Nat) (x i : AV) : Out := match i with
  | .int _ i => match x with
    | .agg l => if 0 ≤ i ∧ i < len then valO h (part agg l (i.toNat * size) size) else .fail
    | _ => .fail
  | _ => .fail
theorem vop_index {agg : Bool} {size len : Nat} {x i : Opd} : vop ⟨s, h⟩ nm (.index agg size len x i) = ixV h agg size len (ev s x) (ev s i) := by
  simp only [vop, eval_eq, ixV]
  cases ev s i <;> try rfl
theorem ixV_agg {agg : Bool} {size len : Nat} {l : List AV} {kk : IntKind} {i : Int} : ixV h agg size len (.agg l) (.int kk i) = if 0 ≤ i ∧ i < len then valO h (part agg l (i.toNat * size) size) else .fail := rfl
def isV (h : Heap) (x i : AV) : Out := match i with
  | .int _ i => match x with
    | .str s => if 0 ≤ i then valO h ((s[i.toNat]?).map fun c : Nat => .int .u8 c) else .fail
    | _ => .fail
  | _ => .fail
theorem vop_indexS {x i : Opd} : vop ⟨s, h⟩ nm (.indexS x i) = isV h (ev s x) (ev s i) := by
  simp only [vop, eval_eq, isV]
  cases ev s i <;> try rfl
theorem isV_str {x : List Nat} {kk : IntKind} {i : Int} : isV h (.str x) (.int kk i) = if 0 ≤ i then valO h ((x[i.toNat]?).map fun c : Nat => .int .u8 c) else .fail := rfl
def lkV (c : EqC) (zero : AV) (ok : Bool) (h : Heap) (x i : AV) : Out := match x with
  | .nilm => .val (if ok then .tup [zero, .bool false] else zero) h
  | .map b => lkB c zero ok h i (h.get b)
  | _ => .fail
theorem vop_lookup {c : EqC} {zero : AV} {ok : Bool} {x i : Opd} : vop ⟨s, h⟩ nm (.lookup c zero ok x i) = lkV c zero ok h (ev s x) (ev s i) := by
  simp only [vop, eval_eq, lkV]
  cases ev s x <;> try rfl
  simp only [lkB]
  cases h.get _ <;> try rfl
  rename_i o
  cases o <;> try rfl
  simp only
  cases findE c (ev s i) _ <;> rfl
theorem lkV_map {c : EqC} {zero : AV} {ok : Bool} {b : Nat} {i : AV} : lkV c zero ok h (.map b) i = lkB c zero ok h i (h.get b) := rfl
def muB (c : EqC) (h : Heap) (b : Nat) (k v : AV) : Option Blk → Out
  | some (.map es ver) => match findE c k es with
    | some _ => .val .undef (h.put b (.map (updE c k v es) (ver + 1)))
    | none => .fail
  | _ => .fail
def muV (c : EqC) (h : Heap) (k v : AV) : AV → Out
  | .map b => muB c h b k v (h.get b)
  | _ => .fail
theorem vop_mupd {c : EqC} {m k v : Opd} : vop ⟨s, h⟩ nm (.mupd c m k v) = muV c h (ev s k) (ev s v) (ev s m) := by
  simp only [vop, eval_eq, muV]
  cases ev s m <;> try rfl
theorem muV_map {c : EqC} {b : Nat} {k v : AV} : muV c h k v (.map b) = muB c h b k v (h.get b) := rfl
def exV (h : Heap) (i : Nat) : AV → Out
  | .tup l => valO h l[i]?
  | _ => .fail
theorem vop_extract {x : Opd} {i : Nat} : vop ⟨s, h⟩ nm (.extract x i) = exV h i (ev s x) := by
  simp only [vop, eval_eq, exV]
  cases ev s x <;> rfl
theorem exV_tup {i : Nat} {l : List AV} : exV h i (.tup l) = valO h l[i]? := rfl
theorem vop_call {f : Nat} {args : List Opd} : vop ⟨s, h⟩ nm (.call f args) = .enter f (args.map (ev s)) := by
  simp only [vop, eval_eq] <;> rfl
def cvV (args : List AV) : AV → Out
  | .fn f caps => .enter f (args ++ caps)
  | .yld b => .enter (yf b) args
  | _ => .fail
theorem vop_callv {x : Opd} {args : List Opd} : vop ⟨s, h⟩ nm (.callv x args) = cvV (args.map (ev s)) (ev s x) := by
  simp only [vop, eval_eq, cvV]
  cases ev s x <;> rfl
theorem cvV_yld {args : List AV} {b : Nat} : cvV args (.yld b) = .enter (yf b) args := rfl
theorem ev_range {P : Program} {g : Opd} {ps : List Nat} {asg b : VCode} {s : T AV} {h : Heap} {Q : Ex → T AV → Heap → Prop} : Ev P (.rangeFn g ps asg b) s h Q = RgV P ps asg b s h Q (ev s g) := by rw [Ev]
theorem rgV_fn {P : Program} {ps : List Nat} {asg b : VCode} {s : T AV} {h : Heap} {Q : Ex → T AV → Heap → Prop} {f : Nat} {caps : List AV} : RgV P ps asg b s h Q (.fn f caps) = (f < YB ∧ Cl P f (.yld h.next :: caps) (h.mk' h.next (.loop ⟨P, s, ps, asg, b, 0, none⟩)) fun _ h2 => LoopEnd h.next s h2 Q) := rfl
theorem cvV_fn {args caps : List AV} {f : Nat} : cvV args (.fn f caps) = .enter f (args ++ caps) := rfl
def lnV (h : Heap) : AV → Out
  | .sl _ _ n _ _ => .val (.int .i64 n) h
  | .nils => .val (.int .i64 0) h
  | .rs _ n => .val (.int .i64 n) h
  | _ => .fail
theorem vop_len0 {x : Opd} : vop ⟨s, h⟩ nm (.bi (.len 0) [x]) = (match ev s x with | .str s => .val (.int .i64 s.length) h | _ => .fail) := by
  simp only [vop, List.map, eval_eq]
  cases ev s x <;> rfl
theorem vop_len1 {x : Opd} : vop ⟨s, h⟩ nm (.bi (.len 1) [x]) = lnV h (ev s x) := by
  simp only [vop, List.map, eval_eq, lnV]
  cases ev s x <;> rfl
theorem vop_append {size bytes : Nat} {e : TypeId} {a x : Opd} : vop ⟨s, h⟩ nm (.bi (.append size bytes e) [a, x]) = valH (appendV h size bytes e (ev s a) (ev s x)) := by
  simp only [vop, List.map, eval_eq]
theorem vop_copy {size : Nat} {a x : Opd} : vop ⟨s, h⟩ nm (.bi (.copy size) [a, x]) = valH (copyV h size (ev s a) (ev s x)) := by
  simp only [vop, List.map, eval_eq]
theorem vop_max {x : Opd} {l : List Opd} : vop ⟨s, h⟩ nm (.bi .max (x :: l)) = valO h (foldO max2 (ev s x) (l.map (ev s))) := by
  simp only [vop, List.map, eval_eq] <;> rfl
theorem vop_min {x : Opd} {l : List Opd} : vop ⟨s, h⟩ nm (.bi .min (x :: l)) = valO h (foldO min2 (ev s x) (l.map (ev s))) := by
  simp only [vop, List.map, eval_eq] <;> rfl
theorem valO_some {v : AV} : valO h (some v) = .val v h := rfl
theorem valO_ite {c : Prop} [Decidable c] {a b : Option AV} : valO h (if c then a else b) = if c then valO h a else valO h b := by split <;> rfl
theorem valH_some {v : AV} {h' : Heap} : valH (some (v, h')) = .val v h' := rfl
/-- what is left of a value, told without memory -/
def Tl (h : Heap) (v : AV) (R : AV → Prop) : Prop := ∃ v', Fz false h v v' ∧ R v'
theorem tl_bool {b : Bool} {R : AV → Prop} : Tl h (.bool b) R = R (.bool b) := propext ⟨fun ⟨_, f, r⟩ => by cases f; exact r, fun r => ⟨_, .bool b, r⟩⟩
theorem tl_int {kk : IntKind} {n : Int} {R : AV → Prop} : Tl h (.int kk n) R = R (.int kk n) := propext ⟨fun ⟨_, f, r⟩ => by cases f; exact r, fun r => ⟨_, .int kk n, r⟩⟩
theorem tl_str {x : List Nat} {R : AV → Prop} : Tl h (.str x) R = R (.str x) := propext ⟨fun ⟨_, f, r⟩ => by cases f; exact r, fun r => ⟨_, .str x, r⟩⟩
theorem Pu.enter (hm : P.follows .mixedOrders = true) {f : Nat} {fn : Func} {vf : VFun} (hf : P.funcs[f]? = some fn) (hc : cFun P fn = some vf) (hn : fn.name ≠ "runtime.NumGoroutine") (hlt : f < YB) {args : List AV} (hl : args.length = vf.nargs) {R : AV → Prop}
    (e : Ev P vf.body (argsT args 0 .e) ⟨0, .e⟩ (Un P [] (Fin vf.res fun v h' => Tl h' v R))) : Pu P f args R := Pu.of (Cl.enter hm hf hc hn hlt hl e)
theorem args_nil {i : Nat} : argsT [] i s = s := rfl
theorem args_cons {v : AV} {l : List AV} {i : Nat} : argsT (v :: l) i s = argsT l (i + 1) (s.set i v) := rfl
theorem res_t {t : Nat} : resOf ⟨s, h⟩ (.tmp t) = some (sg s t) := rfl
def rcB (agg : Bool) (off n : Nat) : Option Blk → Option AV
  | some (.cells l _ _) => part agg l off n
  | _ => none
def rcV (agg : Bool) (n : Nat) (h : Heap) : AV → Option AV
  | .ptr b off => rcB agg off n (h.get b)
  | _ => none
theorem res_c {a n : Nat} {agg : Bool} : resOf ⟨s, h⟩ (.cell a agg n) = rcV agg n h (sg s a) := by
  simp only [resOf, stget_eq, rcV]
  cases sg s a <;> try rfl
theorem rcV_ptr {agg : Bool} {n b off : Nat} : rcV agg n h (.ptr b off) = rcB agg off n (h.get b) := rfl
theorem rcB_some {agg : Bool} {off n : Nat} {l : List AV} {e : TypeId} {ver : Nat} : rcB agg off n (some (.cells l e ver)) = part agg l off n := rfl
theorem results0 : VM.results ⟨s, h⟩ [] = some (.tup []) := rfl
theorem results1 {x : VRes} : VM.results ⟨s, h⟩ [x] = resOf ⟨s, h⟩ x := by
  simp only [VM.results, List.mapM_cons, List.mapM_nil]
  cases resOf ⟨s, h⟩ x <;> rfl
def two (x y : Option AV) : Option AV := match x, y with
  | some x, some y => some (.tup [x, y])
  | _, _ => none
theorem results2 {x y : VRes} : VM.results ⟨s, h⟩ [x, y] = two (resOf ⟨s, h⟩ x) (resOf ⟨s, h⟩ y) := by
  simp only [VM.results, List.mapM_cons, List.mapM_nil]
  cases resOf ⟨s, h⟩ x <;> cases resOf ⟨s, h⟩ y <;> rfl
theorem two_some {x y : AV} : two (some x) (some y) = some (.tup [x, y]) := rfl
def three (x y z : Option AV) : Option AV := match x, y, z with
  | some x, some y, some z => some (.tup [x, y, z])
  | _, _, _ => none
theorem results3 {x y z : VRes} : VM.results ⟨s, h⟩ [x, y, z] = three (resOf ⟨s, h⟩ x) (resOf ⟨s, h⟩ y) (resOf ⟨s, h⟩ z) := by
  simp only [VM.results, List.mapM_cons, List.mapM_nil]
  cases resOf ⟨s, h⟩ x <;> cases resOf ⟨s, h⟩ y <;> cases resOf ⟨s, h⟩ z <;> rfl
theorem three_some {x y z : AV} : three (some x) (some y) (some z) = some (.tup [x, y, z]) := rfl
def one : List AV → Option AV
  | [v] => some v
  | _ => none
theorem part_eq {agg : Bool} {l : List AV} {off n : Nat} : part agg l off n = if ((l.drop off).take n).length = n then (if agg = true then some (.agg ((l.drop off).take n)) else one ((l.drop off).take n)) else none := by
  unfold part cut
  simp only [T.beq_dec]
  by_cases e : ((l.drop off).take n).length = n
  · rw [if_pos e, decide_eq_true e, cond_true]
    simp only
    cases agg
    · rcases (l.drop off).take n with _ | ⟨x, _ | ⟨y, r⟩⟩ <;> rfl
    · rfl
  · rw [if_neg e, decide_eq_false e, cond_false]
theorem one_one {v : AV} : one [v] = some v := rfl
theorem cut_eq {l : List AV} {off n : Nat} : cut l off n = if ((l.drop off).take n).length = n then some ((l.drop off).take n) else none := by
  unfold cut
  simp only [T.beq_dec]
  by_cases e : ((l.drop off).take n).length = n
  · rw [if_pos e, decide_eq_true e, cond_true]
  · rw [if_neg e, decide_eq_false e, cond_false]
theorem bif_eq {α : Type} {b : Bool} {x y : α} : (bif b then x else y) = if b = true then x else y := by cases b <;> rfl
theorem mk_next {b : Nat} {x : Blk} : (h.mk' b x).next = max h.next (b + 1) := rfl
theorem max_succ' (n : Nat) : max n (n + 1) = n + 1 := by omega
theorem get_h0 (n b : Nat) : Heap.get ⟨n, .e⟩ b = none := rfl
theorem put_next {b : Nat} {x : Blk} : (h.put b x).next = h.next := rfl
end
theorem w64 {n : Int} (a : -9223372036854775808 ≤ n) (b : n ≤ 9223372036854775807) : IntKind.i64.wrap n = n := by rw [IntKind.wrap_i64]; omega
theorem wu8 {n : Int} : IntKind.u8.wrap n = n % 256 := IntKind.wrap_u8 n
theorem wu64 {n : Int} (a : 0 ≤ n) (b : n ≤ 18446744073709551615) : IntKind.u64.wrap n = n := by rw [IntKind.wrap_u64]; omega
theorem bits64 : IntKind.i64.bits = 64 := rfl
theorem bitsu64 : IntKind.u64.bits = 64 := rfl
theorem bitsu8 : IntKind.u8.bits = 8 := rfl
theorem mkS_ok {h : Heap} {nm : Nat} {z : List AV} {e : TypeId} {bytes : Nat} {n : Int} (h0 : 0 ≤ n) (h1 : n.toNat * bytes ≤ 140737488355328) (h2 : n.toNat ≤ 140737488355328) : mkS h nm z e bytes (.int .i64 n) (.int .i64 n) = .val (.sl nm 0 n.toNat n.toNat z.length) (h.mk' nm (.cells ((List.replicate n.toNat z).flatten) e 0)) := by
  simp only [mkS]
  rw [if_pos ⟨h0, Int.le_refl _, h1, h2⟩]
theorem minle {a b : Nat} (h : a ≤ b) : min a b = a := Nat.min_eq_left h
theorem fdivn {x b : Int} (h : 0 ≤ b) : x.fdiv b = x / b := Int.fdiv_eq_ediv_of_nonneg _ h
theorem bin_shl {k k' : IntKind} {a b : Int} (h : 0 ≤ b) : bin .shl (.int k a) (.int k' b) = some (.int k (k.wrap (a * 2 ^ min b.toNat k.bits))) := if_neg (by omega)
theorem bin_shr {k k' : IntKind} {a b : Int} (h : 0 ≤ b) : bin .shr (.int k a) (.int k' b) = some (.int k (a.fdiv (2 ^ min b.toNat k.bits))) := if_neg (by omega)
theorem bin_add {k : IntKind} {a b : Int} : bin .add (.int k a) (.int k b) = some (.int k (k.wrap (a + b))) := if_pos rfl
theorem bin_sub {k : IntKind} {a b : Int} : bin .sub (.int k a) (.int k b) = some (.int k (k.wrap (a - b))) := if_pos rfl
theorem bin_mul {k : IntKind} {a b : Int} : bin .mul (.int k a) (.int k b) = some (.int k (k.wrap (a * b))) := if_pos rfl
theorem bin_quo {k : IntKind} {a b : Int} (h : b ≠ 0) : bin .quo (.int k a) (.int k b) = some (.int k (k.wrap (a.tdiv b))) := (if_pos rfl).trans (if_neg h)
theorem bin_rem {k : IntKind} {a b : Int} (h : b ≠ 0) : bin .rem (.int k a) (.int k b) = some (.int k (a.tmod b)) := (if_pos rfl).trans (if_neg h)
theorem bin_and {k : IntKind} {a b : Int} : bin .and (.int k a) (.int k b) = some (.int k (bitsOf .and k a b)) := if_pos rfl
theorem bin_or {k : IntKind} {a b : Int} : bin .or (.int k a) (.int k b) = some (.int k (bitsOf .or k a b)) := if_pos rfl
theorem bin_xor {k : IntKind} {a b : Int} : bin .xor (.int k a) (.int k b) = some (.int k (bitsOf .xor k a b)) := if_pos rfl
theorem bin_andNot {k : IntKind} {a b : Int} : bin .andNot (.int k a) (.int k b) = some (.int k (bitsOf .andNot k a b)) := if_pos rfl
theorem bin_eql {k : IntKind} {a b : Int} : bin .eql (.int k a) (.int k b) = some (.bool (decide (a = b))) := if_pos rfl
theorem bin_neq {k : IntKind} {a b : Int} : bin .neq (.int k a) (.int k b) = some (.bool (decide (¬ a = b))) := (if_pos rfl).trans (show some (AV.bool (!decide (a = b))) = _ by rw [decide_not])
theorem bin_lss {k : IntKind} {a b : Int} : bin .lss (.int k a) (.int k b) = some (.bool (decide (a < b))) := if_pos rfl
theorem bin_leq {k : IntKind} {a b : Int} : bin .leq (.int k a) (.int k b) = some (.bool (decide (a ≤ b))) := if_pos rfl
theorem bin_gtr {k : IntKind} {a b : Int} : bin .gtr (.int k a) (.int k b) = some (.bool (decide (b < a))) := if_pos rfl
theorem bin_geq {k : IntKind} {a b : Int} : bin .geq (.int k a) (.int k b) = some (.bool (decide (b ≤ a))) := if_pos rfl
theorem bin_sadd {a b : List Nat} : bin .add (.str a) (.str b) = if a.length + b.length < 140737488355328 then some (.str (a ++ b)) else none := rfl
theorem bin_seql {a b : List Nat} : bin .eql (.str a) (.str b) = some (.bool (decide (a = b))) := by show some (AV.bool (a == b)) = _; rw [Bool.beq_eq_decide_eq]
theorem bin_sneq {a b : List Nat} : bin .neq (.str a) (.str b) = some (.bool (decide (¬ a = b))) := by show some (AV.bool (!(a == b))) = _; rw [Bool.beq_eq_decide_eq, decide_not]
theorem not_dec {p : Prop} [Decidable p] : (!decide p) = decide (¬ p) := by by_cases e : p <;> simp [e]
def R5 := And.intro @evr_loose (And.intro @evr_quiet (And.intro @evq_some (And.intro @evq_none (And.intro @eval_eq (And.intro @stget_eq (And.intro @w64 (And.intro @wu8 (And.intro @wu64 (And.intro @bits64 (And.intro @bitsu64 (And.intro @bitsu8 (And.intro @fdivn (And.intro @minle (And.intro @mkS_ok (And.intro @List.flatten_cons.{0} @List.flatten_nil.{0})))))))))))))))
theorem lnV_sl {h : Heap} {b off n cap sz : Nat} : lnV h (.sl b off n cap sz) = .val (.int .i64 n) h := rfl
theorem lnV_nils {h : Heap} : lnV h .nils = .val (.int .i64 0) h := rfl
theorem lnV_rs {h : Heap} {l : List AV} {n : Nat} : lnV h (.rs l n) = .val (.int .i64 n) h := rfl
theorem neF {b : Bool} : (b != false) = b := by cases b <;> rfl
theorem neT {b : Bool} : (b != true) = !b := by cases b <;> rfl
def fiC (cells : List AV) (o n : Nat) (r : List (Nat × Nat × AV)) : Option (List AV) → Option (List AV)
  | some c => if c.length = n ∧ o + n ≤ cells.length then fill (cells.take o ++ c ++ cells.drop (o + c.length)) r else none
  | none => none
theorem fill_nil {cells : List AV} : fill cells [] = some cells := rfl
theorem fill_cons {cells : List AV} {o n : Nat} {v : AV} {r : List (Nat × Nat × AV)} : fill cells ((o, n, v) :: r) = fiC cells o n r v.cells := by
  simp only [fill, fiC]
  cases v.cells with
  | none => rfl
  | some c =>
    simp only [bif_eq, Bool.and_eq_true, T.beq_dec, decide_eq_true_eq, Nat.ble_eq]
    rfl
theorem fiC_some {cells c : List AV} {o n : Nat} {r : List (Nat × Nat × AV)} : fiC cells o n r (some c) = if c.length = n ∧ o + n ≤ cells.length then fill (cells.take o ++ c ++ cells.drop (o + c.length)) r else none := rfl
def R7 := And.intro @fill_nil (And.intro @fill_cons (And.intro @fiC_some (And.intro @neF (And.intro @neT (And.intro @lnV_sl (And.intro @lnV_nils (And.intro @lnV_rs (And.intro @Int.toNat_natCast (And.intro @Nat.mul_one (And.intro @Nat.one_mul (And.intro @Bool.not_true (And.intro @Bool.not_false (And.intro @bin_shl (And.intro @bin_shr (And.intro @bin_add (And.intro @bin_sub (And.intro @bin_mul (And.intro @bin_quo (And.intro @bin_rem (And.intro @bin_and (And.intro @bin_or (And.intro @bin_xor (And.intro @bin_andNot (And.intro @bin_eql (And.intro @bin_neq (And.intro @bin_lss (And.intro @bin_leq (And.intro @bin_gtr (And.intro @bin_geq (And.intro @bin_sadd (And.intro @not_dec (And.intro @bin_seql @bin_sneq))))))))))))))))))))))))))))))))
def mkV (h : Heap) : AV → Out
  | .sl b off len cap sz => if 0 < cap then mkB h b off len cap sz (h.get b) else .fail
  | _ => .fail
where mkB (h : Heap) (b off len cap sz : Nat) : Option Blk → Out
  | some (.cells ..) => .val (.sl b off len cap sz) h
  | _ => .fail
theorem conv_mark {s : T AV} {h : Heap} {nm : Nat} {x : Opd} : vop ⟨s, h⟩ nm (.conv .mark x) = .fail := by
  simp only [vop]
theorem mkV_go {h : Heap} {b off len cap sz : Nat} : mkV h (.sl b off len cap sz) = if 0 < cap then mkV.mkB h b off len cap sz (h.get b) else .fail := rfl
theorem mkB_some {h : Heap} {b off len cap sz : Nat} {l : List AV} {e : TypeId} {ver : Nat} : mkV.mkB h b off len cap sz (some (.cells l e ver)) = .val (.sl b off len cap sz) h := rfl
def R0 := And.intro @evo_nil (And.intro @evo_go (And.intro @evo_gd (And.intro @gd_tt (And.intro @gd_tf (And.intro @gd_ft (And.intro @gd_ff (And.intro @gd_t (And.intro @gd_f (And.intro @gd_undef (And.intro @nx_val (And.intro @nx_fail (And.intro @nx_enter (And.intro @nx_ite (And.intro @af_go (And.intro @setd_some (And.intro @setd_none (And.intro @ev_t (And.intro @ev_c (And.intro @ev_seq (And.intro @ev_block (And.intro @ev_skip (And.intro @ev_ops (And.intro @ev_drawn (And.intro @ev_cond (And.intro @cd_true (And.intro @cd_false (And.intro @cd_bool (And.intro @ev_loop (And.intro @ev_exit (And.intro @ev_ret (And.intro @un_nil (And.intro @un_seq (And.intro @un_seq_x (And.intro @un_seq_r (And.intro @un_blk (And.intro @un_blk_x (And.intro @un_blk_r (And.intro @un_lp (And.intro @un_lp_x (And.intro @un_lp_r (And.intro @fin_n (And.intro @fin_r (And.intro @fi_some (And.intro @vop_mov (@vop_pick)))))))))))))))))))))))))))))))))))))))))))))
def R1 := And.intro @pk_true (And.intro @pk_false (And.intro @pk_bool (And.intro @vop_alloc (And.intro @vop_box (And.intro @vop_build (And.intro @vop_bslice (And.intro @vop_load (And.intro @ldV_ptr (And.intro @ldV_rp (And.intro @ldB_some (And.intro @vop_store (And.intro @stV_ptr (And.intro @stB_some (And.intro @vop_nilck (And.intro @nkV_ptr (And.intro @nkV_rp (And.intro @nkV_fn (And.intro @vop_bin (And.intro @vop_eqs (And.intro @vop_un (And.intro @vop_cvi (And.intro @cvI_int (And.intro @vop_cvt (And.intro @vop_cvs (And.intro @vop_mkfn (And.intro @vop_mkmap (And.intro @vop_mkslice (And.intro @vop_slice (And.intro @vop_sliceA (And.intro @vop_sliceS (And.intro @vop_faddr (And.intro @faV_ptr (And.intro @faV_rp (And.intro @vop_field (And.intro @fdV_agg (And.intro @vop_iaddr (And.intro @iaV_ptr (And.intro @iaV_sl (And.intro @iaV_rs (And.intro @vop_index (@ixV_agg)))))))))))))))))))))))))))))))))))))))))
def R2 := And.intro @cvV_yld (And.intro @ev_range (And.intro @rgV_fn (And.intro @vop_indexS (And.intro @isV_str (And.intro @vop_lookup (And.intro @lkV_map (And.intro @vop_mupd (And.intro @muV_map (And.intro @vop_extract (And.intro @exV_tup (And.intro @vop_call (And.intro @vop_callv (And.intro @cvV_fn (And.intro @vop_len0 (And.intro @vop_len1 (And.intro @vop_append (And.intro @vop_copy (And.intro @vop_max (And.intro @vop_min (And.intro @valO_some (And.intro @valO_ite (And.intro @valH_some (And.intro @args_nil (And.intro @args_cons (And.intro @res_t (And.intro @res_c (And.intro @rcV_ptr (And.intro @rcB_some (And.intro @results0 (And.intro @results1 (And.intro @results2 (And.intro @two_some (And.intro @results3 (And.intro @three_some (And.intro @part_eq (And.intro @one_one (And.intro @cut_eq (And.intro @bif_eq (And.intro @List.drop_zero.{0} (And.intro @List.drop_succ_cons.{0} (And.intro @List.take_succ_cons.{0} (@List.take_zero.{0}))))))))))))))))))))))))))))))))))))))))))
def R3 := And.intro @List.length_cons.{0} (And.intro @List.length_nil.{0} (And.intro @decide_eq_true_eq (And.intro @decide_true (And.intro @decide_false (And.intro @Bool.false_eq_true (And.intro @Bool.true_eq_false (And.intro @T.beq_dec (And.intro @decide_eq_false_iff_not (And.intro @true_implies (And.intro @forall_const.{0} (And.intro @implies_true.{0} (And.intro @not_true_eq_false (And.intro @not_false_eq_true (And.intro @false_implies (And.intro @and_self (And.intro @Classical.not_not (And.intro @false_and (And.intro @and_false (And.intro @tl_bool (And.intro @tl_int (And.intro @tl_str (And.intro @ge_iff_le.{0} (And.intro @gt_iff_lt.{0} (And.intro @Bool.not_eq_true' (And.intro @Bool.not_eq_false' (And.intro @mk_next (And.intro @max_succ' (And.intro @get_h0 (And.intro @put_next (And.intro @sg_set (And.intro @sg_e (And.intro @List.map_cons.{0,0} (And.intro @List.map_nil.{0,0} (And.intro @Heap.get_mk (And.intro @Heap.get_put (And.intro @Nat.zero_add (And.intro @Nat.add_zero (And.intro @Nat.max_def (@if_true.{1})))))))))))))))))))))))))))))))))))))))
def R4 := And.intro @if_false.{1} (And.intro @eq_self.{1} (And.intro @and_true (And.intro @true_and (And.intro @Option.map_some.{0,0} (And.intro @List.cons_append.{0} (@List.nil_append.{0}))))))
def R8 := And.intro @ev_mixed (And.intro @evmr_loose (And.intro @evmr_quiet (And.intro @evmq_some (And.intro @evmq_none (And.intro @res_nil (And.intro @res_cons (And.intro @evm_nil (And.intro @evm_go (And.intro @evm_gd (And.intro @gdm_tt (And.intro @gdm_tf (And.intro @gdm_ft (And.intro @gdm_ff (And.intro @gdm_t (And.intro @gdm_f (And.intro @gdm_undef (And.intro @nxm_val (And.intro @nxm_fail (And.intro @nxm_enter (And.intro @nxm_ite (And.intro @afm_go (And.intro @nmA_eq (And.intro @rsv_eq (And.intro @max_add (And.intro @max_add' (And.intro @conv_mark (And.intro @mkV_go @mkB_some)))))))))))))))))))))))))))
end Go.Proofs.Ytlemediphmnffaa.VM
