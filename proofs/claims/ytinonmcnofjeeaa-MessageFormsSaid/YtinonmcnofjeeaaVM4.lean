/- The small machine's operations stand for the program's: operands, loads, stores, new blocks. -/
import Derived.Test.YtinonmcnofjeeaaVM3
namespace Go.Proofs.Ytinonmcnofjeeaa.VM
set_option linter.unusedSimpArgs false
set_option linter.unusedVariables false
set_option linter.defProp false
set_option maxHeartbeats 1000000
open Go.RowKit

theorem add_none (B o n : Nat) : (⟨B, o, none⟩ : Addr).add n = ⟨B, o + n, none⟩ := by unfold Addr.add; split <;> simp_all

/-- Slots stand for slots. -/
structure SR (φ : Env) (w : World) (nt : Nat) (st : St) (a : Act) : Prop where
  size : a.tmps.size = nt
  get : ∀ t, VR φ w (st.get t) (a.tmps.getD t undef)

theorem SR.upd {φ φ' : Env} {w w' : World} {nt : Nat} {st : St} {a : Act} (h : SR φ w nt st a) (u : Upd φ w φ' w') : SR φ' w' nt st a :=
  ⟨h.size, fun t => (h.get t).upd u⟩

theorem St.get_put (st : St) (d : Option Nat) (v : AV) (t : Nat) : (st.put d v).get t = if d = some t then v else st.get t := by
  cases d with
  | none => rfl
  | some d =>
    show ((st.s.set d v).get t).getD .undef = _
    rw [T.get_set]
    by_cases e : t = d
    · subst e; simp
    · rw [if_neg e, if_neg (fun h => e (Option.some.inj h).symm)]; rfl

theorem SR.put {φ : Env} {w : World} {nt : Nat} {st : St} {a : Act} (h : SR φ w nt st a) {d : Option Nat} (hd : d.all (· < nt) = true) {v : AV} {u : Value} (hv : VR φ w v u) (h' : Heap) :
    SR φ w nt (St.put ⟨st.s, h'⟩ d v) (a.put d u) := by
  cases d with
  | none => exact ⟨h.size, h.get⟩
  | some d =>
    have hlt : d < nt := by simpa using hd
    refine ⟨by simp [Act.put, h.size], fun t => ?_⟩
    rw [St.get_put]
    show VR φ w _ ((a.tmps.setIfInBounds d u).getD t undef)
    have e1 : St.get ⟨st.s, h'⟩ t = st.get t := rfl
    rw [e1]
    by_cases e : d = t
    · subst e
      rw [if_pos rfl]
      have : (a.tmps.setIfInBounds d u).getD d undef = u := by
        simp [Array.getD_eq_getD_getElem?, h.size, hlt]
      rw [this]
      exact hv
    · rw [if_neg (fun h => e (Option.some.inj h))]
      have : (a.tmps.setIfInBounds d u).getD t undef = a.tmps.getD t undef := by
        simp [Array.getD_eq_getD_getElem?, Array.getElem?_setIfInBounds_ne e]
      rw [this]
      exact h.get t

section
variable {φ : Env} {w : World}
theorem avCell_ok : ∀ {v : Value} {x : AV}, avCell v = some x → VR φ w x v := by
  intro v x h
  unfold avCell at h
  split at h <;> first | (cases h; done) | (cases h; constructor)
theorem mapM_cells : ∀ {vs : List Value} {l : List AV}, vs.mapM avCell = some l → VRs φ w l vs
  | [], l, h => by simp at h; subst h; exact .nil
  | v :: vs, l, h => by
    simp only [List.mapM_cons, Option.bind_eq_bind, Option.bind_eq_some_iff, Option.pure_def, Option.some.injEq] at h
    obtain ⟨x, hx, l', hl, rfl⟩ := h
    exact .cons (avCell_ok hx) (mapM_cells hl)
theorem avOf_ok {v : Value} {x : AV} (h : avOf v = some x) : VR φ w x v := by
  unfold avOf at h
  split at h
  · rename_i cs
    simp only [Option.map_eq_some_iff] at h
    obtain ⟨l, hl, rfl⟩ := h
    exact .agg (mapM_cells hl)
  · exact avCell_ok h

variable {nt : Nat} {st : St} {a : Act}
theorem opd_ok (hs : SR φ w nt st a) {x : Operand} {y : Opd} (h : cOpd x = some y) : VR φ w (y.eval st) (a.eval x) := by
  cases x with
  | tmp t => cases h; exact hs.get t
  | const v =>
    simp only [cOpd, Option.map_eq_some_iff] at h
    obtain ⟨c, hc, rfl⟩ := h
    exact avOf_ok hc
  | func f => cases h; exact .fn .nil
  | global g => cases h
theorem opds_ok (hs : SR φ w nt st a) : ∀ {l : List Operand} {ys : List Opd}, cOpds l = some ys → VRs φ w (ys.map (·.eval st)) (l.map a.eval)
  | [], _, h => by simp [cOpds] at h; subst h; exact .nil
  | x :: l, ys, h => by
    simp only [cOpds, List.mapM_cons, Option.bind_eq_bind, Option.bind_eq_some_iff, Option.pure_def, Option.some.injEq] at h
    obtain ⟨y, hy, l', hl, rfl⟩ := h
    exact .cons (opd_ok hs hy) (opds_ok hs hl)

/-! ### what values come to -/
theorem VR.cells : ∀ {x : AV} {v : Value} {l : List AV}, VR φ w x v → x.cells = some l → VRs φ w l v.cells.toList := by
  intro x v l h e
  cases h <;> simp only [AV.cells, Option.some.injEq] at e <;> first | (cases e; done) | (subst e; first | assumption | exact .cons (by constructor <;> assumption) .nil)
theorem VR.one : ∀ {x : AV} {v : Value}, VR φ w x v → x.one = true → v.oneCell' = true := by
  intro x v h e
  cases h <;> first | rfl | (simp [AV.one] at e)
theorem VRs.one : ∀ {l : List AV} {vs : List Value}, VRs φ w l vs → l.all AV.one = true → ∀ v ∈ vs, v.oneCell' = true
  | _, _, .nil, _, _, h => by simp at h
  | _, _, .cons h t, e, v, hv => by
    simp only [List.all_cons, Bool.and_eq_true] at e
    cases hv with
    | head => exact h.one e.1
    | tail _ hv => exact t.one e.2 v hv
end

section
variable {P : Program}
theorem has_info {t : TypeId} (h : has P t = true) : ∃ i, P.info? t = some i := by
  unfold has at h
  rw [Bool.and_eq_true] at h
  exact Option.isSome_iff_exists.1 h.1
theorem has_under {t : TypeId} (h : has P t = true) : ∃ d, P.underlying t = some d := by
  unfold has at h
  rw [Bool.and_eq_true] at h
  exact Option.isSome_iff_exists.1 h.2
theorem run_size {t : TypeId} (h : has P t = true) (w : World) : (sizeOf t).run P w = .ok (P.cellsOf t) w := by
  obtain ⟨i, hi⟩ := has_info h
  simp [sizeOf, typeInfo, hi, Program.cellsOf]
theorem run_agg {t : TypeId} (h : has P t = true) (w : World) : (isAgg t).run P w = .ok (isAggB P t) w := by
  obtain ⟨d, hd⟩ := has_under h
  unfold isAgg
  rw [Sem.run_bind, run_underlying hd, Result.andThen_ok]
  unfold isAggB
  rw [hd]
  cases d <;> rfl

variable {φ : Env} {w : World}
theorem part_spec {agg : Bool} {l : List AV} {off n : Nat} {v : AV} (h : part agg l off n = some v) :
    ∃ r, r = (l.drop off).take n ∧ r.length = n ∧ ((agg = true ∧ v = .agg r) ∨ (agg = false ∧ r = [v])) := by
  unfold part at h
  split at h
  · cases h
  · rename_i r hr
    obtain ⟨e1, e2⟩ := cut_spec hr
    refine ⟨r, e1, e2, ?_⟩
    cases agg with
    | true => simp at h; exact .inl ⟨rfl, h.symm⟩
    | false =>
      simp at h
      split at h
      · cases h; exact .inr ⟨rfl, rfl⟩
      · cases h

theorem load_ok {t : TypeId} (ht : has P t = true) {l : List AV} {B o off : Nat} (hm : VRm φ w l B o) {v : AV} (hp : part (isAggB P t) l off (P.cellsOf t) = some v) :
    ∃ u, (loadVar t ⟨B, o + off, none⟩).run P w = .ok u w ∧ VR φ w v u := by
  obtain ⟨r, e1, e2, e3⟩ := part_spec hp
  have hm' := (hm.drop off).take (P.cellsOf t)
  rw [← e1] at hm'
  unfold loadVar
  rw [Sem.run_bind, run_agg ht, Result.andThen_ok]
  rcases e3 with ⟨ha, rfl⟩ | ⟨ha, rfl⟩
  · rw [ha]
    obtain ⟨us, h1, h2⟩ := hm'.vals
    have hl := h1.length
    refine ⟨.agg us.toArray, ?_, .agg (by simpa using h1)⟩
    simp only [if_true, Sem.run_bind, run_size ht, Result.andThen_ok]
    have := run_loadCells_list (P := P) w ⟨B, o + off, none⟩ us fun j u hj => by rw [add_none]; exact h2 j u hj
    rw [← hl, e2] at this
    rw [this]
    rfl
  · rw [ha]
    cases hm' with
    | cons hc h t =>
      refine ⟨_, ?_, h⟩
      simp only [Bool.false_eq_true, if_false, run_load, hc]

theorem store_ok {t : TypeId} (ht : has P t = true) {H H' : Heap} (hr : HR φ w H) {b B o off : Nat} (hb : φ b = some (B, o)) {x : AV} {u : Value} (hv : VR φ w x u) {c : List AV} (hc : x.cells = some c)
    (hn : c.length = P.cellsOf t) (e : writeAt H b off c = some H') :
    ∃ w', (storeVar t ⟨B, o + off, none⟩ u).run P w = .ok () w' ∧ HR φ w' H' ∧ UpdH φ w H φ w' H' := by
  have hcs := hv.cells hc
  obtain ⟨h1, h2, h3⟩ := hr_write hr hb e hcs
  obtain ⟨l, t', ver, _, _, hone, _⟩ := writeAt_spec e
  refine ⟨_, ?_, h1, updH_write hb e⟩
  unfold storeVar
  have hsz : u.cells.size = P.cellsOf t := by rw [← hn, hcs.length]; simp
  simp only [Sem.run_bind, run_size ht, Result.andThen_ok, hsz, ne_eq, not_true_eq_false, if_false]
  have := run_storeCells_cells (P := P) B (o + off) u.cells.toList 0 w (fun j hj => by simpa using h2 j hj) (fun j hj => by simpa using h3 j hj) (hcs.one hone)
  simpa using this
end
end Go.Proofs.Ytinonmcnofjeeaa.VM
