/- Regions whose order is drawn: what an operation looks at. -/
import Derived.Test.YtinonmcnofjeeaaVM14
namespace Go.Proofs.Ytinonmcnofjeeaa.VM
set_option linter.unusedSimpArgs false
set_option linter.unusedVariables false
set_option linter.defProp false
set_option maxHeartbeats 1000000
open Go.RowKit

mutual
theorem AV.eqb_eq : ∀ {x y : AV}, AV.eqb x y = true → x = y := by
  intro x y h
  cases x <;> cases y <;> simp only [AV.eqb, Bool.false_eq_true, Bool.and_eq_true, decide_eq_true_eq, Nat.beq_eq, beq_iff_eq] at h <;> first
    | rfl
    | (rw [h])
    | (rw [h.1, h.2])
    | (rw [h.1, AV.eqbs_eq h.2])
    | (rw [AV.eqbs_eq h])
    | (obtain ⟨⟨⟨⟨h1, h2⟩, h3⟩, h4⟩, h5⟩ := h; rw [h1, h2, h3, h4, h5])
theorem AV.eqbs_eq : ∀ {l k : List AV}, AV.eqbs l k = true → l = k := by
  intro l k h
  cases l <;> cases k <;> simp only [AV.eqbs, Bool.false_eq_true, Bool.and_eq_true] at h
  · rfl
  · rw [AV.eqb_eq h.1, AV.eqbs_eq h.2]
end

section
variable {st st' : St}
theorem Opd.congr {x : Opd} (h : ∀ t ∈ x.tmp, st.get t = st'.get t) : x.eval st = x.eval st' := by
  cases x with
  | t n => exact h n (by simp [Opd.tmp])
  | c v => rfl
theorem opds_congr {l : List Opd} (h : ∀ t ∈ opdTmps l, st.get t = st'.get t) : l.map (·.eval st) = l.map (·.eval st') := by
  apply List.map_congr_left
  intro x hx
  exact Opd.congr fun t ht => h t (by simp only [opdTmps, List.mem_flatten, List.mem_map]; exact ⟨_, ⟨x, hx, rfl⟩, ht⟩)
theorem parts_congr {l : List (Nat × Nat × Opd)} (h : ∀ t ∈ partTmps l, st.get t = st'.get t) : (l.map fun (o, n, x) => (o, n, x.eval st)) = l.map fun (o, n, x) => (o, n, x.eval st') := by
  apply List.map_congr_left
  intro p hp
  have : p.2.2.eval st = p.2.2.eval st' := Opd.congr fun t ht => h t (by simp only [partTmps, List.mem_flatten, List.mem_map]; exact ⟨_, ⟨p, hp, rfl⟩, ht⟩)
  show (p.1, p.2.1, p.2.2.eval st) = _
  rw [this]
theorem optTmp_congr {x : Option Opd} (h : ∀ t ∈ optTmp x, st.get t = st'.get t) : x.map (·.eval st) = x.map (·.eval st') := by
  cases x with
  | none => rfl
  | some y => simp only [Option.map_some]; rw [Opd.congr h]

theorem vop_congr {op : VOp} (h : ∀ t ∈ op.tmps, st.get t = st'.get t) (hh : st.h = st'.h) (nm : Nat) : vop st nm op = vop st' nm op := by
  have one : ∀ {x : Opd}, (∀ t ∈ x.tmp, st.get t = st'.get t) → x.eval st = x.eval st' := Opd.congr
  cases op <;> simp only [VOp.tmps, List.mem_append] at h
  case bad => rfl
  case alloc => simp only [vop, hh]
  case mkmap => simp only [vop, hh]
  case mov x => simp only [vop, hh, one h]
  case box e x => simp only [vop, hh, one h]
  case load a n x => simp only [vop, hh, one h]
  case nilck x => simp only [vop, hh, one h]
  case un o x => simp only [vop, hh, one h]
  case conv c x => simp only [vop, hh, one h]
  case faddr o x => simp only [vop, hh, one h]
  case field a o n x => simp only [vop, hh, one h]
  case extract x i => simp only [vop, hh, one h]
  case pick a b c => simp only [vop, hh, one fun t ht => h t (.inl (.inl ht)), one fun t ht => h t (.inl (.inr ht)), one fun t ht => h t (.inr ht)]
  case build z ps => simp only [vop, hh]; rw [parts_congr h]
  case bslice z e n ps => simp only [vop, hh]; rw [parts_congr h]
  case store n a x => simp only [vop, hh, one fun t ht => h t (.inl ht), one fun t ht => h t (.inr ht)]
  case bin n a x => simp only [vop, hh, one fun t ht => h t (.inl ht), one fun t ht => h t (.inr ht)]
  case eqs n b a x => simp only [vop, hh, one fun t ht => h t (.inl ht), one fun t ht => h t (.inr ht)]
  case iaddr n b a x => simp only [vop, hh, one fun t ht => h t (.inl ht), one fun t ht => h t (.inr ht)]
  case index n b c a x => simp only [vop, hh, one fun t ht => h t (.inl ht), one fun t ht => h t (.inr ht)]
  case indexS a x => simp only [vop, hh, one fun t ht => h t (.inl ht), one fun t ht => h t (.inr ht)]
  case lookup n b c a x => simp only [vop, hh, one fun t ht => h t (.inl ht), one fun t ht => h t (.inr ht)]
  case mkslice n b c a x => simp only [vop, hh, one fun t ht => h t (.inl ht), one fun t ht => h t (.inr ht)]
  case mkfn f l => simp only [vop, hh, opds_congr h]
  case call f l => simp only [vop, hh, opds_congr h]
  case bi b l => simp only [vop, hh, opds_congr h]
  case callv x l => simp only [vop, hh, one fun t ht => h t (.inl ht), opds_congr fun t ht => h t (.inr ht)]
  case slice n x lo hi mx => simp only [vop, hh, one fun t ht => h t (.inl (.inl (.inl ht))), optTmp_congr fun t ht => h t (.inl (.inl (.inr ht))), optTmp_congr fun t ht => h t (.inl (.inr ht)), optTmp_congr fun t ht => h t (.inr ht)]
  case sliceA n m x lo hi mx => simp only [vop, hh, one fun t ht => h t (.inl (.inl (.inl ht))), optTmp_congr fun t ht => h t (.inl (.inl (.inr ht))), optTmp_congr fun t ht => h t (.inl (.inr ht)), optTmp_congr fun t ht => h t (.inr ht)]
  case sliceS x lo hi => simp only [vop, hh, one fun t ht => h t (.inl (.inl ht)), optTmp_congr fun t ht => h t (.inl (.inr ht)), optTmp_congr fun t ht => h t (.inr ht)]
  case mupd c m k v => simp only [vop, hh, one fun t ht => h t (.inl (.inl ht)), one fun t ht => h t (.inl (.inr ht)), one fun t ht => h t (.inr ht)]

/-- an operation that leaves memory as it is, and whose name for a new block does not matter -/
theorem vop_still {op : VOp} (hk : op.kind ≠ 2) (nm nm' : Nat) : vop st nm op = vop st nm' op ∧ (∀ v h, vop st nm op = .val v h → h = st.h) ∧ ∀ f args, vop st nm op ≠ .enter f args := by
  have vO : ∀ {x : Option AV} {v : AV} {h h0 : Heap}, valO h0 x = .val v h → h = h0 := by
    intro x v h h0 e
    cases x with
    | none => cases e
    | some y => cases e; rfl
  have nO : ∀ {x : Option AV} {h0 : Heap} {f : Nat} {args : List AV}, valO h0 x ≠ .enter f args := by
    intro x h0 f args e
    cases x <;> cases e
  have main : ∀ (op : VOp), (match op with | .bi .. | .conv .. => False | _ => True) → op.kind ≠ 2 → vop st nm op = vop st nm' op ∧ (∀ v h, vop st nm op = .val v h → h = st.h) ∧ ∀ f args, vop st nm op ≠ .enter f args := by
    intro op hb hk
    cases op <;> simp only [VOp.kind] at hk <;> try (exact absurd rfl hk)
    case bi => exact hb.elim
    case conv => exact hb.elim
    all_goals
      refine ⟨by simp only [vop], fun v h e => ?_, fun f args e => ?_⟩ <;> simp only [vop] at e
      all_goals (repeat' (split at e)) <;> first
        | (cases e; done)
        | (cases e; rfl)
        | exact vO e
        | exact absurd e nO
  cases op
  case conv c x =>
    simp only [vop]
    generalize x.eval st = y
    cases c <;> simp only [VOp.kind] at hk <;> try (exact absurd rfl hk)
    all_goals
      cases y <;> refine ⟨rfl, fun v h e => ?_, fun f args e => ?_⟩ <;> simp only at e
      all_goals (repeat' (split at e)) <;> first
        | (cases e; done)
        | (cases e; rfl)
        | exact vO e
        | exact absurd e nO
  case bi b l =>
    refine ⟨by simp only [vop], ?_⟩
    simp only [vop]
    generalize l.map (·.eval st) = y
    cases b <;> simp only [VOp.kind] at hk <;> try (exact absurd rfl hk)
    all_goals
      cases y with
      | nil => exact ⟨fun v h e => (by cases e), fun f args e => (by cases e)⟩
      | cons y ys => cases ys with
        | nil =>
          refine ⟨fun v h e => ?_, fun f args e => ?_⟩ <;> simp only at e
          all_goals (repeat' (split at e)) <;> first
            | (cases e; done)
            | (cases e; rfl)
            | exact vO e
            | exact absurd e nO
        | cons z zs =>
          refine ⟨fun v h e => ?_, fun f args e => ?_⟩ <;> first
            | (cases e; done)
            | exact vO e
            | exact absurd e nO
  all_goals exact main _ trivial hk

theorem vop_quiet {s : T AV} {h h1 : Heap} {nm : Nat} {op : VOp} (hk : op.kind = 0) {v : AV} (e : vop ⟨s, h⟩ nm op = .val v h1) (h' : Heap) (nm' : Nat) : vop ⟨s, h'⟩ nm' op = .val v h' := by
  have vO : ∀ {x : Option AV} {v : AV} {h h0 : Heap}, valO h0 x = .val v h → x = some v := by
    intro x v h h0 e
    cases x with
    | none => cases e
    | some y => cases e; rfl
  have ev : ∀ x : Opd, Opd.eval ⟨s, h⟩ x = Opd.eval ⟨s, h'⟩ x := by
    intro x; cases x <;> rfl
  have mv : ∀ {x : Option AV}, valO h x = .val v h1 → valO h' x = .val v h' := by
    intro x e
    rw [vO e]; rfl
  cases op <;> simp only [VOp.kind] at hk <;> try (cases hk; done)
  case conv c x =>
    simp only [vop, ev] at e ⊢
    revert e
    generalize Opd.eval ⟨s, h'⟩ x = y
    intro e
    cases c <;> simp only at hk <;> try (cases hk; done)
    all_goals
      cases y <;> simp only at e <;> first
        | (cases e; done)
        | (cases e; rfl)
  case bi b l =>
    have el : l.map (Opd.eval ⟨s, h⟩) = l.map (Opd.eval ⟨s, h'⟩) := List.map_congr_left fun x _ => ev x
    simp only [vop, el] at e ⊢
    revert e
    generalize l.map (Opd.eval ⟨s, h'⟩) = y
    intro e
    cases b <;> simp only at hk <;> try (cases hk; done)
    all_goals
      cases y with
      | nil => cases e
      | cons y ys => exact mv e
  case mkfn f l =>
    have el : l.map (Opd.eval ⟨s, h⟩) = l.map (Opd.eval ⟨s, h'⟩) := List.map_congr_left fun x _ => ev x
    simp only [vop, el] at e ⊢
    cases e; rfl
  case build z ps =>
    have el : (ps.map fun (o, n, x) => (o, n, Opd.eval ⟨s, h⟩ x)) = (ps.map fun (o, n, x) => (o, n, Opd.eval ⟨s, h'⟩ x)) := List.map_congr_left fun p _ => by
      show (p.1, p.2.1, Opd.eval ⟨s, h⟩ p.2.2) = _
      rw [ev]
    simp only [vop] at e ⊢
    rw [el] at e
    exact mv e
  case slice n x lo hi mx =>
    have eo : ∀ o : Option Opd, o.map (Opd.eval ⟨s, h⟩) = o.map (Opd.eval ⟨s, h'⟩) := by
      intro o; cases o with
      | none => rfl
      | some y => simp only [Option.map_some, ev]
    simp only [vop, ev, eo] at e ⊢
    exact mv e
  case sliceS x lo hi =>
    have eo : ∀ o : Option Opd, o.map (Opd.eval ⟨s, h⟩) = o.map (Opd.eval ⟨s, h'⟩) := by
      intro o; cases o with
      | none => rfl
      | some y => simp only [Option.map_some, ev]
    simp only [vop, ev, eo] at e ⊢
    exact mv e
  all_goals
    simp only [vop, ev] at e ⊢
    first
      | exact mv e
      | (cases e; rfl)
      | (revert e; repeat' split)
  all_goals
    intro e
    first
      | exact mv e
      | (cases e; rfl)
      | (cases e; done)
end
open Go.RowKit

section
variable {call : Nat → List AV → Heap → Option (AV × Heap)} {st st' st1 : St} {o : VO} {nm nm' : Nat}

theorem wanted_congr {g : Option (Nat × Bool)} (h : ∀ t, (∃ b, g = some (t, b)) → st.get t = st'.get t) : wanted st g = wanted st' g := by
  cases g with
  | none => rfl
  | some p =>
    obtain ⟨t, b⟩ := p
    simp only [wanted, h t ⟨b, rfl⟩]

/-- One operation, by its looks and memory alone. -/
theorem vdo_congr (h : ∀ t ∈ o.looks, st.get t = st'.get t) (hh : st.h = st'.h) (e : vdo call st nm o = some st1) :
    ∃ v, st1 = St.put ⟨st.s, st1.h⟩ o.dst v ∧ vdo call st' nm o = some (St.put ⟨st'.s, st1.h⟩ o.dst v) := by
  have hw : wanted st o.guard = wanted st' o.guard := wanted_congr fun t ⟨b, hb⟩ => h t (by simp [VO.looks, hb])
  have ho : vop st nm o.op = vop st' nm o.op := vop_congr (fun t ht => h t (by simp [VO.looks, ht])) hh nm
  unfold vdo at e ⊢
  rw [← hw, ← ho, ← hh]
  cases hwv : wanted st o.guard with
  | false =>
    rw [hwv] at e
    simp only [cond_false, Option.some.injEq] at e ⊢
    subst e
    refine ⟨.undef, by rw [St.put_h], ?_⟩
    rw [St.put_h, hh]
  | true =>
    rw [hwv] at e
    simp only [cond_true] at e ⊢
    split at e
    · cases e
      exact ⟨_, by rw [St.put_h], by simp only [St.put_h]⟩
    · cases e
    · split at e
      · rename_i v h2 hc
        cases e
        exact ⟨v, by rw [St.put_h], by simp only [St.put_h]⟩
      · cases e

theorem vdo_still (hk : o.op.kind ≠ 2) (e : vdo call st nm o = some st1) : st1.h = st.h := by
  obtain ⟨_, h2, h3⟩ := vop_still (st := st) hk nm nm
  unfold vdo at e
  cases hwv : wanted st o.guard with
  | false =>
    rw [hwv] at e
    cases e
    rw [St.put_h]
  | true =>
    rw [hwv] at e
    simp only [cond_true] at e
    split at e
    · rename_i v h hv
      cases e
      rw [St.put_h]
      exact h2 v h hv
    · cases e
    · rename_i f args hv
      exact absurd hv (h3 f args)

theorem vdo_name (hk : o.op.kind ≠ 2) (nm nm' : Nat) : vdo call st nm o = vdo call st nm' o := by
  unfold vdo
  rw [(vop_still (st := st) hk nm nm').1]

theorem vdo_quiet {s : T AV} {h : Heap} (hk : o.op.kind = 0) (e : vdo call ⟨s, h⟩ nm o = some st1) (h' : Heap) (nm' : Nat) :
    ∃ v, st1 = St.put ⟨s, h⟩ o.dst v ∧ vdo call ⟨s, h'⟩ nm' o = some (St.put ⟨s, h'⟩ o.dst v) := by
  have hs := vdo_still (by rw [hk]; simp) e
  have hw : wanted ⟨s, h'⟩ o.guard = wanted ⟨s, h⟩ o.guard := wanted_congr fun t _ => rfl
  unfold vdo at e ⊢
  rw [hw]
  cases hwv : wanted ⟨s, h⟩ o.guard with
  | false =>
    rw [hwv] at e
    cases e
    exact ⟨.undef, rfl, rfl⟩
  | true =>
    rw [hwv] at e
    simp only [cond_true] at e ⊢
    split at e
    · rename_i v h1 hv
      cases e
      rw [St.put_h] at hs
      have hs' : h1 = h := hs
      subst hs'
      refine ⟨v, rfl, ?_⟩
      rw [vop_quiet hk hv h' nm']
    · cases e
    · rename_i f args hv
      exact absurd hv ((vop_still (st := ⟨s, h⟩) (by rw [hk]; simp) nm nm).2.2 f args)

/-- the trace, step by step -/
theorem vtrace_spec : ∀ {l : List VO} {st : St} {tr : List St}, vtrace call l st = some tr → tr.length = l.length + 1 ∧ tr[0]? = some st ∧
    ∀ i o, l[i]? = some o → ∃ a b, tr[i]? = some a ∧ tr[i + 1]? = some b ∧ vdo call a a.h.next o = some b
  | [], st, tr, h => by
    cases h
    exact ⟨rfl, rfl, fun i o h => by simp at h⟩
  | x :: l, st, tr, h => by
    simp only [vtrace] at h
    split at h
    · rename_i st1 h1
      obtain ⟨tr', h2, rfl⟩ := Option.map_eq_some_iff.1 h
      obtain ⟨a1, a2, a3⟩ := vtrace_spec h2
      refine ⟨by simp [a1], rfl, fun i o ho => ?_⟩
      cases i with
      | zero =>
        simp at ho
        subst ho
        exact ⟨st, st1, rfl, by simpa using a2, h1⟩
      | succ i =>
        obtain ⟨a, b, b1, b2, b3⟩ := a3 i o (by simpa using ho)
        exact ⟨a, b, by simpa using b1, by simpa using b2, b3⟩
    · cases h
end

/-- What the check of a drawn region gives. -/
structure Drawn (ops : Array Oper) (l : List VO) (B : List (List Nat)) : Prop where
  first : ∀ i o, ops[i]? = some o → ∀ e ∈ edges o, e < i
  close : ∀ i o, ops[i]? = some o → ∀ j ∈ B.getD i [], ∃ e ∈ edges o, e = j ∨ j ∈ B.getD e []
  one : ∀ (i j : Nat) (x y : VO) (t : Nat), l[i]? = some x → l[j]? = some y → i ≠ j → x.dst = some t → y.dst ≠ some t
  looks : ∀ (i j : Nat) (x y : VO) (t : Nat), l[i]? = some x → l[j]? = some y → i ≠ j → x.dst = some t → t ∈ y.looks → (i < j ∧ i ∈ B.getD j []) ∨ (j < i ∧ j ∈ B.getD i [])
  acts : ∀ (i j : Nat) (x y : VO), l[i]? = some x → l[j]? = some y → x.acts = true → y.acts = true → i < j → i ∈ B.getD j []

theorem zip_all {α : Type} {l : List α} {p : α × Nat → Bool} (h : l.zipIdx.all p = true) {i : Nat} {x : α} (hx : l[i]? = some x) : p (x, i) = true := by
  rw [List.all_eq_true] at h
  refine h (x, i) ?_
  rw [List.mem_zipIdx_iff_getElem?]
  exact hx

theorem drawn_spec {ops : Array Oper} {l : List VO} {B : List (List Nat)} (h : drawnChk ops.toList l B = true) : Drawn ops l B := by
  unfold drawnChk at h
  rw [Bool.and_eq_true] at h
  obtain ⟨h1, h2⟩ := h
  have hp : ∀ i j x y, l[i]? = some x → l[j]? = some y → pairChk B (x, i) (y, j) = true := fun i j x y hx hy => zip_all (zip_all h2 hx) hy
  refine ⟨fun i o ho e he => ?_, fun i o ho j hj => ?_, fun i j x y t hx hy hij hd => ?_, fun i j x y t hx hy hij hd hl => ?_, fun i j x y hx hy ha hb hij => ?_⟩
  · have := zip_all h1 (by simpa using ho)
    rw [Bool.and_eq_true, List.all_eq_true] at this
    simpa using this.1 e he
  · have := zip_all h1 (by simpa using ho)
    rw [Bool.and_eq_true, List.all_eq_true, List.all_eq_true] at this
    have := this.2 j hj
    rw [List.any_eq_true] at this
    obtain ⟨e, he, h⟩ := this
    refine ⟨e, he, ?_⟩
    simpa [T.beq_dec] using h
  · have := hp i j x y hx hy
    simp only [pairChk, T.beq_dec, hd, hij, decide_false, Bool.false_or, Bool.and_eq_true] at this
    simpa using this.1.1
  · have := hp i j x y hx hy
    simp only [pairChk, T.beq_dec, hd, hij, decide_false, Bool.false_or, Bool.and_eq_true, Bool.or_eq_true, Bool.not_eq_true', List.contains_iff_mem, Nat.blt_eq] at this
    rcases this.1.2 with (h | h) | h
    · simp [hl] at h
    · exact .inl h
    · exact .inr h
  · have := hp i j x y hx hy
    simp only [pairChk, T.beq_dec, Nat.ne_of_lt hij, decide_false, Bool.false_or, Bool.and_eq_true, Bool.or_eq_true, Bool.not_eq_true', List.contains_iff_mem] at this
    rcases this.2 with h | h
    · have hb' : i.blt j = true := by rw [Nat.blt_eq]; exact hij
      simp [ha, hb, hb'] at h
    · exact h

open Go.RowKit

section
variable {P : Program} {nt : Nat} {ops : Array Oper} {l : List VO} {B : List (List Nat)} {call : Nat → List AV → Heap → Option (AV × Heap)} {tr : Nat → St}

/-- a trace, by places -/
def Goes (call : Nat → List AV → Heap → Option (AV × Heap)) (l : List VO) (tr : Nat → St) : Prop := ∀ i o, l[i]? = some o → vdo call (tr i) (tr i).h.next o = some (tr (i + 1))

theorem Goes.keep (g : Goes call l tr) {i : Nat} {o : VO} (ho : l[i]? = some o) {t : Nat} (hd : o.dst ≠ some t) : (tr (i + 1)).get t = (tr i).get t := by
  obtain ⟨v, h1, _⟩ := vdo_congr (st' := tr i) (fun _ _ => rfl) rfl (g i o ho)
  rw [h1, St.get_put, if_neg hd]
  rfl

theorem Goes.heap (g : Goes call l tr) {i : Nat} : ∀ {k : Nat}, i ≤ k → k ≤ l.length → (∀ j o, l[j]? = some o → i ≤ j → j < k → o.acts = false) → (tr k).h = (tr i).h
  | 0, hik, _, _ => by rw [show i = 0 by omega]
  | k + 1, hik, hk, ha => by
    by_cases e : i = k + 1
    · rw [e]
    · obtain ⟨o, ho⟩ : ∃ o, l[k]? = some o := ⟨l[k]'(by omega), List.getElem?_eq_getElem (by omega)⟩
      have h1 := ha k o ho (by omega) (by omega)
      have h2 : o.op.kind ≠ 2 := by
        intro e
        simp [VO.acts, e] at h1
      rw [vdo_still h2 (g k o ho)]
      exact Goes.heap g (by omega) (by omega) fun j o hj h3 h4 => ha j o hj h3 (by omega)

theorem Goes.old (g : Goes call l tr) {t : Nat} : ∀ {i : Nat}, i ≤ l.length → (∀ j o, l[j]? = some o → j < i → o.dst ≠ some t) → (tr i).get t = (tr 0).get t
  | 0, _, _ => rfl
  | i + 1, hi, h => by
    obtain ⟨o, ho⟩ : ∃ o, l[i]? = some o := ⟨l[i]'(by omega), List.getElem?_eq_getElem (by omega)⟩
    rw [g.keep ho (h i o ho (by omega))]
    exact Goes.old g (by omega) fun j o hj h1 => h j o hj (by omega)

theorem Goes.got (g : Goes call l tr) (hD : Drawn ops l B) {j : Nat} {y : VO} {t : Nat} (hy : l[j]? = some y) (hd : y.dst = some t) : ∀ {i : Nat}, j < i → i ≤ l.length → (tr i).get t = (tr (j + 1)).get t
  | 0, h, _ => by omega
  | i + 1, h, hi => by
    by_cases e : j = i
    · rw [e]
    · obtain ⟨o, ho⟩ : ∃ o, l[i]? = some o := ⟨l[i]'(by omega), List.getElem?_eq_getElem (by omega)⟩
      rw [g.keep ho (hD.one j i y o t hy ho e hd)]
      exact Goes.got g hD hy hd (by omega) (by omega)

/-- Where a drawn region stands: what is listed, the slots, the last act that is listed. -/
structure Inv (ops : Array Oper) (l : List VO) (B : List (List Nat)) (tr : Nat → St) (listed : Array Bool) (s : T AV) (K : Nat) : Prop where
  size : listed.size = ops.size
  closed : ∀ i, listed.getD i false = true → ∀ j ∈ B.getD i [], listed.getD j false = true
  got : ∀ (i : Nat) (o : VO) (t : Nat), l[i]? = some o → listed.getD i false = true → o.dst = some t → St.get ⟨s, (tr 0).h⟩ t = (tr (i + 1)).get t
  old : ∀ t, (∀ (i : Nat) (o : VO), l[i]? = some o → listed.getD i false = true → o.dst ≠ some t) → St.get ⟨s, (tr 0).h⟩ t = (tr 0).get t
  acts : ∀ (j : Nat) (o : VO), l[j]? = some o → o.acts = true → (listed.getD j false = true ↔ j < K)
  bound : K = 0 ∨ ∃ o, l[K - 1]? = some o ∧ o.acts = true
  le : K ≤ l.length

theorem set_getD (a : Array Bool) {i : Nat} (h : i < a.size) (j : Nat) : (a.setIfInBounds i true).getD j false = if j = i then true else a.getD j false := by
  rw [Array.getD_eq_getD_getElem?, Array.getD_eq_getD_getElem?, Array.getElem?_setIfInBounds]
  by_cases e : j = i
  · subst e; simp [h]
  · rw [if_neg (fun h => e h.symm), if_neg e]

section
variable {listed : Array Bool} {s : T AV} {K : Nat}

theorem Inv.looks (hv : Inv ops l B tr listed s K) (g : Goes call l tr) (hD : Drawn ops l B) {i : Nat} {o : VO} (ho : l[i]? = some o) (hi : listed.getD i false = false) (hB : ∀ j ∈ B.getD i [], listed.getD j false = true)
    {t : Nat} (ht : t ∈ o.looks) : St.get ⟨s, (tr 0).h⟩ t = (tr i).get t := by
  have hil : i < l.length := (List.getElem?_eq_some_iff.1 ho).1
  by_cases hex : ∃ j y, l[j]? = some y ∧ y.dst = some t ∧ j ≠ i
  · obtain ⟨j, y, hy, hd, hne⟩ := hex
    rcases hD.looks j i y o t hy ho hne hd ht with ⟨h1, h2⟩ | ⟨h1, h2⟩
    · rw [hv.got j y t hy (hB j h2) hd, g.got hD hy hd h1 (by omega)]
    · have hnj : listed.getD j false ≠ true := fun e => by
        have := hv.closed j e i h2
        rw [hi] at this; cases this
      have e1 : St.get ⟨s, (tr 0).h⟩ t = (tr 0).get t := hv.old t fun k z hz hk hdz => by
        by_cases e : k = j
        · subst e; exact hnj hk
        · exact hD.one k j z y t hz hy e hdz hd
      have e2 : (tr i).get t = (tr 0).get t := g.old (by omega) fun k z hz hk hdz => by
        by_cases e : k = j
        · omega
        · exact hD.one k j z y t hz hy e hdz hd
      rw [e1, e2]
  · have hno : ∀ j y, l[j]? = some y → j ≠ i → y.dst ≠ some t := fun j y hy hne hd => hex ⟨j, y, hy, hd, hne⟩
    have e1 : St.get ⟨s, (tr 0).h⟩ t = (tr 0).get t := hv.old t fun k z hz hk => hno k z hz fun e => by
      subst e
      rw [hi] at hk; cases hk
    have e2 : (tr i).get t = (tr 0).get t := g.old (by omega) fun k z hz hk => hno k z hz (by omega)
    rw [e1, e2]

/-- what is listed next -/
theorem Inv.next (hv : Inv ops l B tr listed s K) (hD : Drawn ops l B) {i : Nat} {o : VO} (ho : l[i]? = some o) (hn : i < ops.size) (hi : listed.getD i false = false) (hB : ∀ j ∈ B.getD i [], listed.getD j false = true)
    {v : AV} (hval : ∀ d, o.dst = some d → v = (tr (i + 1)).get d) {K' : Nat} (hK : (o.acts = true ∧ K' = i + 1) ∨ (o.acts = false ∧ K' = K)) (h' : Heap) :
    Inv ops l B tr (listed.setIfInBounds i true) (St.put ⟨s, h'⟩ o.dst v).s K' := by
  have hlt : i < listed.size := by rw [hv.size]; exact hn
  have hil : i < l.length := (List.getElem?_eq_some_iff.1 ho).1
  have hget : ∀ t, St.get ⟨(St.put ⟨s, h'⟩ o.dst v).s, (tr 0).h⟩ t = if o.dst = some t then v else St.get ⟨s, (tr 0).h⟩ t := by
    intro t
    have := St.get_put ⟨s, h'⟩ o.dst v t
    exact this
  refine ⟨by simp [hv.size], fun j hj k hk => ?_, fun j y t hy hj hd => ?_, fun t hno => ?_, fun j y hy ha => ?_, ?_, ?_⟩
  · rw [set_getD _ hlt] at hj ⊢
    by_cases e : k = i
    · rw [if_pos e]
    · rw [if_neg e]
      by_cases e' : j = i
      · subst e'; exact hB k hk
      · rw [if_neg e'] at hj
        exact hv.closed j hj k hk
  · rw [hget]
    by_cases e : j = i
    · subst e
      rw [ho] at hy
      cases hy
      rw [if_pos hd, hval t hd]
    · rw [set_getD _ hlt, if_neg e] at hj
      rw [if_neg (hD.one j i y o t hy ho e hd), hv.got j y t hy hj hd]
  · rw [hget, if_neg (hno i o ho (by rw [set_getD _ hlt, if_pos rfl]))]
    refine hv.old t fun j y hy hj => hno j y hy ?_
    rw [set_getD _ hlt]
    by_cases e : j = i
    · rw [if_pos e]
    · rw [if_neg e]; exact hj
  · rw [set_getD _ hlt]
    rcases hK with ⟨h1, rfl⟩ | ⟨h1, rfl⟩
    · by_cases e : j = i
      · rw [if_pos e]; simp; omega
      · rw [if_neg e]
        by_cases hlt' : j < i
        · have := hB j (hD.acts j i y o hy ho ha h1 hlt')
          rw [this]; simp; omega
        · have hji : i < j := by omega
          constructor
          · intro hj
            have := hv.closed j hj i (hD.acts i j o y ho hy h1 ha hji)
            rw [hi] at this; cases this
          · intro h; omega
    · have e : j ≠ i := by
        rintro rfl
        rw [ho] at hy
        cases hy
        rw [h1] at ha; cases ha
      rw [if_neg e]
      exact hv.acts j y hy ha
  · rcases hK with ⟨h1, rfl⟩ | ⟨h1, rfl⟩
    · exact .inr ⟨o, by simpa using ho, h1⟩
    · exact hv.bound
  · rcases hK with ⟨h1, rfl⟩ | ⟨h1, rfl⟩
    · exact hil
    · exact hv.le

end
end
end Go.Proofs.Ytinonmcnofjeeaa.VM
