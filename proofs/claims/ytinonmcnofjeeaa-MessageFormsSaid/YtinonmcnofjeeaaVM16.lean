/- Regions whose order is drawn: what an operation looks at. -/
import Derived.Test.YtinonmcnofjeeaaVM15
namespace Go.Proofs.Ytinonmcnofjeeaa.VM
set_option linter.unusedSimpArgs false
set_option linter.unusedVariables false
set_option linter.defProp false
set_option maxHeartbeats 1000000
open Go.RowKit

mutual
theorem AV.eqb_eq : ∀ {x y : AV}, AV.eqb x y = true → x = y := by
  intro x y h
  cases x <;> cases y <;> simp only [AV.eqb, Bool.false_eq_true, Bool.and_eq_true, decide_eq_true_eq, Nat.beq_eq, beq_iff_eq] at h <;> first
    | rfl
    | (rw [h])
    | (rw [h.1, h.2])
    | (rw [h.1, AV.eqbs_eq h.2])
    | (rw [AV.eqbs_eq h])
    | (obtain ⟨⟨⟨⟨h1, h2⟩, h3⟩, h4⟩, h5⟩ := h; rw [h1, h2, h3, h4, h5])
theorem AV.eqbs_eq : ∀ {l k : List AV}, AV.eqbs l k = true → l = k := by
  intro l k h
  cases l <;> cases k <;> simp only [AV.eqbs, Bool.false_eq_true, Bool.and_eq_true] at h
  · rfl
  · rw [AV.eqb_eq h.1, AV.eqbs_eq h.2]
end

section
variable {st st' : St}
theorem Opd.congr {x : Opd} (h : ∀ t ∈ x.tmp, st.get t = st'.get t) : x.eval st = x.eval st' := by
  cases x with
  | t n => exact h n (by simp [Opd.tmp])
  | c v => rfl
theorem opds_congr {l : List Opd} (h : ∀ t ∈ opdTmps l, st.get t = st'.get t) : l.map (·.eval st) = l.map (·.eval st') := by
  apply List.map_congr_left
  intro x hx
  exact Opd.congr fun t ht => h t (by simp only [opdTmps, List.mem_flatten, List.mem_map]; exact ⟨_, ⟨x, hx, rfl⟩, ht⟩)
theorem parts_congr {l : List (Nat × Nat × Opd)} (h : ∀ t ∈ partTmps l, st.get t = st'.get t) : (l.map fun (o, n, x) => (o, n, x.eval st)) = l.map fun (o, n, x) => (o, n, x.eval st') := by
  apply List.map_congr_left
  intro p hp
  have : p.2.2.eval st = p.2.2.eval st' := Opd.congr fun t ht => h t (by simp only [partTmps, List.mem_flatten, List.mem_map]; exact ⟨_, ⟨p, hp, rfl⟩, ht⟩)
  show (p.1, p.2.1, p.2.2.eval st) = _
  rw [this]
theorem optTmp_congr {x : Option Opd} (h : ∀ t ∈ optTmp x, st.get t = st'.get t) : x.map (·.eval st) = x.map (·.eval st') := by
  cases x with
  | none => rfl
  | some y => simp only [Option.map_some]; rw [Opd.congr h]

theorem vop_congr {op : VOp} (h : ∀ t ∈ op.tmps, st.get t = st'.get t) (hh : st.h = st'.h) (nm : Nat) : vop st nm op = vop st' nm op := by
  have one : ∀ {x : Opd}, (∀ t ∈ x.tmp, st.get t = st'.get t) → x.eval st = x.eval st' := Opd.congr
  cases op <;> simp only [VOp.tmps, List.mem_append] at h
  case bad => rfl
  case alloc => simp only [vop, hh]
  case mkmap => simp only [vop, hh]
  case mov x => simp only [vop, hh, one h]
  case box e x => simp only [vop, hh, one h]
  case load a n x => simp only [vop, hh, one h]
  case nilck x => simp only [vop, hh, one h]
  case un o x => simp only [vop, hh, one h]
  case conv c x => simp only [vop, hh, one h]
  case faddr o x => simp only [vop, hh, one h]
  case field a o n x => simp only [vop, hh, one h]
  case extract x i => simp only [vop, hh, one h]
  case pick a b c => simp only [vop, hh, one fun t ht => h t (.inl (.inl ht)), one fun t ht => h t (.inl (.inr ht)), one fun t ht => h t (.inr ht)]
  case build z ps => simp only [vop, hh]; rw [parts_congr h]
  case bslice z e n ps => simp only [vop, hh]; rw [parts_congr h]
  case store n a x => simp only [vop, hh, one fun t ht => h t (.inl ht), one fun t ht => h t (.inr ht)]
  case bin n a x => simp only [vop, hh, one fun t ht => h t (.inl ht), one fun t ht => h t (.inr ht)]
  case eqs n b a x => simp only [vop, hh, one fun t ht => h t (.inl ht), one fun t ht => h t (.inr ht)]
  case iaddr n b a x => simp only [vop, hh, one fun t ht => h t (.inl ht), one fun t ht => h t (.inr ht)]
  case index n b c a x => simp only [vop, hh, one fun t ht => h t (.inl ht), one fun t ht => h t (.inr ht)]
  case indexS a x => simp only [vop, hh, one fun t ht => h t (.inl ht), one fun t ht => h t (.inr ht)]
  case lookup n b c a x => simp only [vop, hh, one fun t ht => h t (.inl ht), one fun t ht => h t (.inr ht)]
  case mkslice n b c a x => simp only [vop, hh, one fun t ht => h t (.inl ht), one fun t ht => h t (.inr ht)]
  case mkfn f l => simp only [vop, hh, opds_congr h]
  case call f l => simp only [vop, hh, opds_congr h]
  case bi b l => simp only [vop, hh, opds_congr h]
  case callv x l => simp only [vop, hh, one fun t ht => h t (.inl ht), opds_congr fun t ht => h t (.inr ht)]
  case slice n x lo hi mx => simp only [vop, hh, one fun t ht => h t (.inl (.inl (.inl ht))), optTmp_congr fun t ht => h t (.inl (.inl (.inr ht))), optTmp_congr fun t ht => h t (.inl (.inr ht)), optTmp_congr fun t ht => h t (.inr ht)]
  case sliceA n m x lo hi mx => simp only [vop, hh, one fun t ht => h t (.inl (.inl (.inl ht))), optTmp_congr fun t ht => h t (.inl (.inl (.inr ht))), optTmp_congr fun t ht => h t (.inl (.inr ht)), optTmp_congr fun t ht => h t (.inr ht)]
  case sliceS x lo hi => simp only [vop, hh, one fun t ht => h t (.inl (.inl ht)), optTmp_congr fun t ht => h t (.inl (.inr ht)), optTmp_congr fun t ht => h t (.inr ht)]
  case mupd c m k v => simp only [vop, hh, one fun t ht => h t (.inl (.inl ht)), one fun t ht => h t (.inl (.inr ht)), one fun t ht => h t (.inr ht)]

/-- an operation that leaves memory as it is, and whose name for a new block does not matter -/
theorem vop_still {op : VOp} (hk : op.kind ≠ 2) (nm nm' : Nat) : vop st nm op = vop st nm' op ∧ (∀ v h, vop st nm op = .val v h → h = st.h) ∧ ∀ f args, vop st nm op ≠ .enter f args := by
  have vO : ∀ {x : Option AV} {v : AV} {h h0 : Heap}, valO h0 x = .val v h → h = h0 := by
    intro x v h h0 e
    cases x with
    | none => cases e
    | some y => cases e; rfl
  have nO : ∀ {x : Option AV} {h0 : Heap} {f : Nat} {args : List AV}, valO h0 x ≠ .enter f args := by
    intro x h0 f args e
    cases x <;> cases e
  have main : ∀ (op : VOp), (match op with | .bi .. | .conv .. => False | _ => True) → op.kind ≠ 2 → vop st nm op = vop st nm' op ∧ (∀ v h, vop st nm op = .val v h → h = st.h) ∧ ∀ f args, vop st nm op ≠ .enter f args := by
    intro op hb hk
    cases op <;> simp only [VOp.kind] at hk <;> try (exact absurd rfl hk)
    case bi => exact hb.elim
    case conv => exact hb.elim
    all_goals
      refine ⟨by simp only [vop], fun v h e => ?_, fun f args e => ?_⟩ <;> simp only [vop] at e
      all_goals (repeat' (split at e)) <;> first
        | (cases e; done)
        | (cases e; rfl)
        | exact vO e
        | exact absurd e nO
  cases op
  case conv c x =>
    simp only [vop]
    generalize x.eval st = y
    cases c <;> simp only [VOp.kind] at hk <;> try (exact absurd rfl hk)
    all_goals
      cases y <;> refine ⟨rfl, fun v h e => ?_, fun f args e => ?_⟩ <;> simp only at e
      all_goals (repeat' (split at e)) <;> first
        | (cases e; done)
        | (cases e; rfl)
        | exact vO e
        | exact absurd e nO
  case bi b l =>
    refine ⟨by simp only [vop], ?_⟩
    simp only [vop]
    generalize l.map (·.eval st) = y
    cases b <;> simp only [VOp.kind] at hk <;> try (exact absurd rfl hk)
    all_goals
      cases y with
      | nil => exact ⟨fun v h e => (by cases e), fun f args e => (by cases e)⟩
      | cons y ys => cases ys with
        | nil =>
          refine ⟨fun v h e => ?_, fun f args e => ?_⟩ <;> simp only at e
          all_goals (repeat' (split at e)) <;> first
            | (cases e; done)
            | (cases e; rfl)
            | exact vO e
            | exact absurd e nO
        | cons z zs =>
          refine ⟨fun v h e => ?_, fun f args e => ?_⟩ <;> first
            | (cases e; done)
            | exact vO e
            | exact absurd e nO
  all_goals exact main _ trivial hk

theorem vop_quiet {s : T AV} {h h1 : Heap} {nm : Nat} {op : VOp} (hk : op.kind = 0) {v : AV} (e : vop ⟨s, h⟩ nm op = .val v h1) (h' : Heap) (nm' : Nat) : vop ⟨s, h'⟩ nm' op = .val v h' := by
  have vO : ∀ {x : Option AV} {v : AV} {h h0 : Heap}, valO h0 x = .val v h → x = some v := by
    intro x v h h0 e
    cases x with
    | none => cases e
    | some y => cases e; rfl
  have ev : ∀ x : Opd, Opd.eval ⟨s, h⟩ x = Opd.eval ⟨s, h'⟩ x := by
    intro x; cases x <;> rfl
  have mv : ∀ {x : Option AV}, valO h x = .val v h1 → valO h' x = .val v h' := by
    intro x e
    rw [vO e]; rfl
  cases op <;> simp only [VOp.kind] at hk <;> try (cases hk; done)
  case conv c x =>
    simp only [vop, ev] at e ⊢
    revert e
    generalize Opd.eval ⟨s, h'⟩ x = y
    intro e
    cases c <;> simp only at hk <;> try (cases hk; done)
    all_goals
      cases y <;> simp only at e <;> first
        | (cases e; done)
        | (cases e; rfl)
  case bi b l =>
    have el : l.map (Opd.eval ⟨s, h⟩) = l.map (Opd.eval ⟨s, h'⟩) := List.map_congr_left fun x _ => ev x
    simp only [vop, el] at e ⊢
    revert e
    generalize l.map (Opd.eval ⟨s, h'⟩) = y
    intro e
    cases b <;> simp only at hk <;> try (cases hk; done)
    all_goals
      cases y with
      | nil => cases e
      | cons y ys => exact mv e
  case mkfn f l =>
    have el : l.map (Opd.eval ⟨s, h⟩) = l.map (Opd.eval ⟨s, h'⟩) := List.map_congr_left fun x _ => ev x
    simp only [vop, el] at e ⊢
    cases e; rfl
  case build z ps =>
    have el : (ps.map fun (o, n, x) => (o, n, Opd.eval ⟨s, h⟩ x)) = (ps.map fun (o, n, x) => (o, n, Opd.eval ⟨s, h'⟩ x)) := List.map_congr_left fun p _ => by
      show (p.1, p.2.1, Opd.eval ⟨s, h⟩ p.2.2) = _
      rw [ev]
    simp only [vop] at e ⊢
    rw [el] at e
    exact mv e
  case slice n x lo hi mx =>
    have eo : ∀ o : Option Opd, o.map (Opd.eval ⟨s, h⟩) = o.map (Opd.eval ⟨s, h'⟩) := by
      intro o; cases o with
      | none => rfl
      | some y => simp only [Option.map_some, ev]
    simp only [vop, ev, eo] at e ⊢
    exact mv e
  case sliceS x lo hi =>
    have eo : ∀ o : Option Opd, o.map (Opd.eval ⟨s, h⟩) = o.map (Opd.eval ⟨s, h'⟩) := by
      intro o; cases o with
      | none => rfl
      | some y => simp only [Option.map_some, ev]
    simp only [vop, ev, eo] at e ⊢
    exact mv e
  all_goals
    simp only [vop, ev] at e ⊢
    first
      | exact mv e
      | (cases e; rfl)
      | (revert e; repeat' split)
  all_goals
    intro e
    first
      | exact mv e
      | (cases e; rfl)
      | (cases e; done)
end
end Go.Proofs.Ytinonmcnofjeeaa.VM
