/- The small machine's calls stand for the program's. -/
import Derived.Test.YtinonmcnofjeeaaVM14
namespace Go.Proofs.Ytinonmcnofjeeaa.VM
set_option linter.unusedSimpArgs false
set_option linter.unusedVariables false
set_option linter.defProp false
set_option maxHeartbeats 1000000
open Go.RowKit

/-- The table holds functions of the program. -/
def TableOk (P : Program) (F : Nat → Option VFun) : Prop := ∀ f vf, F f = some vf → ∃ fn, P.funcs[f]? = some fn ∧ cFun P fn = some vf ∧ fn.name ≠ "runtime.NumGoroutine"

section
variable {P : Program} {φ : Env} {w : World} {nt : Nat} {st st' : St} {a : Act}

theorem argsT_get : ∀ (l : List AV) (i : Nat) (t : T AV) (j : Nat), (argsT l i t).get j = if i ≤ j ∧ j < i + l.length then l[j - i]? else t.get j
  | [], i, t, j => by
    rw [argsT, if_neg (fun h => by simp at h; omega)]
  | v :: l, i, t, j => by
    rw [argsT, argsT_get l (i + 1) _ j, T.get_set, List.length_cons]
    by_cases e : j = i
    · subst e
      rw [if_neg (by omega), if_pos rfl, if_pos (by omega)]
      simp
    · rw [if_neg e]
      by_cases h : i + 1 ≤ j ∧ j < i + 1 + l.length
      · rw [if_pos h, if_pos (by omega)]
        rw [show j - i = (j - (i + 1)) + 1 by omega, List.getElem?_cons_succ]
      · rw [if_neg h, if_neg (by omega)]

theorem start_ok {args : List AV} {us : Array Value} (h : VRs φ w args us.toList) {nt : Nat} (hle : args.length ≤ nt) (H : Heap) :
    SR φ w nt ⟨argsT args 0 .e, H⟩ { tmps := us ++ Array.replicate (nt - us.size) undef, defers := [] } := by
  have hl : args.length = us.size := by simpa using h.length
  refine ⟨by simp; omega, fun t => ?_⟩
  show VR φ w ((argsT args 0 .e).get t |>.getD .undef) _
  rw [argsT_get, T.get_e, Nat.zero_add, Nat.sub_zero]
  by_cases ht : t < args.length
  · rw [if_pos ⟨Nat.zero_le _, ht⟩]
    obtain ⟨u, h1, h2⟩ := h.get (List.getElem?_eq_getElem ht)
    rw [List.getElem?_eq_getElem ht, Option.getD_some]
    have : (us ++ Array.replicate (nt - us.size) undef).getD t undef = u := by
      rw [Array.getD_eq_getD_getElem?, Array.getElem?_append_left (by omega)]
      rw [Array.getElem?_toList] at h1
      rw [h1]; rfl
    rw [this]
    exact h2
  · rw [if_neg (by omega), Option.getD_none]
    have : (us ++ Array.replicate (nt - us.size) undef).getD t undef = undef := by
      rw [Array.getD_eq_getD_getElem?, Array.getElem?_append_right (by omega), Array.getElem?_replicate]
      split <;> rfl
    rw [this]
    exact .undef

theorem resOf_ok (hs : SR φ w nt st a) (hr : HR φ w st.h) {r : ResultVar} {vr : VRes} (hc : cRes P r = some vr) {v : AV} (h : resOf st vr = some v) :
    ∃ u, (match r with | .tmp t => pure (a.tmps.getD t undef) | .cell x t => do loadVar t (← asAddr (a.tmps.getD x undef)) : Sem Value).run P w = .ok u w ∧ VR φ w v u := by
  cases r with
  | tmp t =>
    cases hc
    cases h
    exact ⟨_, rfl, hs.get t⟩
  | cell x t =>
    simp only [cRes] at hc
    split at hc
    · rename_i ht
      cases hc
      simp only [resOf] at h
      have hv := hs.get x
      split at h
      · rename_i b off hb
        rw [hb] at hv
        split at h
        · rename_i l e ver hg
          obtain ⟨B', o', e', n, h1, h2, h3, h4, _⟩ := hr.cells hg
          generalize hu : a.tmps.getD x undef = u at hv
          cases hv with
          | ptr hb' =>
            rw [hb'] at h1
            cases h1
            obtain ⟨u, hu', hv'⟩ := load_ok ht h3 h
            exact ⟨u, by simp only [hu]; simpa [asAddr] using hu', hv'⟩
        · cases h
      · cases h
    · cases hc

theorem resAll_ok (hs : SR φ w nt st a) (hr : HR φ w st.h) : ∀ {rs : List ResultVar} {vrs : List VRes}, rs.mapM (cRes P) = some vrs → ∀ {vs : List AV}, vrs.mapM (resOf st) = some vs →
    ∃ us, (rs.mapM fun r => (match r with | .tmp t => pure (a.tmps.getD t undef) | .cell x t => do loadVar t (← asAddr (a.tmps.getD x undef)) : Sem Value)).run P w = .ok us w ∧ VRs φ w vs us
  | [], vrs, h, vs, h' => by
    simp at h; subst h
    simp at h'; subst h'
    exact ⟨[], rfl, .nil⟩
  | r :: rs, vrs, h, vs, h' => by
    simp only [List.mapM_cons, Option.bind_eq_bind, Option.bind_eq_some_iff, Option.pure_def, Option.some.injEq] at h
    obtain ⟨vr, h1, l', h2, rfl⟩ := h
    simp only [List.mapM_cons, Option.bind_eq_bind, Option.bind_eq_some_iff, Option.pure_def, Option.some.injEq] at h'
    obtain ⟨v, g1, vs', g2, rfl⟩ := h'
    obtain ⟨u, a1, a2⟩ := resOf_ok hs hr h1 g1
    obtain ⟨us, b1, b2⟩ := resAll_ok hs hr h2 g2
    refine ⟨u :: us, ?_, .cons a2 b2⟩
    rw [List.mapM_cons, Sem.run_bind, a1, Result.andThen_ok, Sem.run_bind, b1, Result.andThen_ok]
    rfl

theorem results_ok (hs : SR φ w nt st a) (hr : HR φ w st.h) {fn : Func} {vrs : List VRes} (hc : fn.results.toList.mapM (cRes P) = some vrs) {v : AV} (h : VM.results st vrs = some v) :
    ∃ u, (Go.results fn a.tmps).run P w = .ok u w ∧ VR φ w v u := by
  unfold VM.results at h
  have run : ∀ {vs : List AV}, vrs.mapM (resOf st) = some vs → ∃ us : List Value, (Go.results fn a.tmps).run P w = .ok (if h : us.toArray.size = 1 then us.toArray[0] else .tuple us.toArray) w ∧ VRs φ w vs us := by
    intro vs hvs
    obtain ⟨us, h1, h2⟩ := resAll_ok hs hr hc hvs
    refine ⟨us, ?_, h2⟩
    unfold Go.results
    rw [Sem.run_bind, Array.mapM_eq_mapM_toList, Sem.run_map]
    erw [h1]
    rfl
  split at h
  · rename_i v' hv
    cases h
    obtain ⟨us, h1, h2⟩ := run hv
    cases h2 with
    | cons hx t =>
      cases t
      exact ⟨_, h1, hx⟩
  · rename_i vs hne hv
    cases h
    obtain ⟨us, h1, h2⟩ := run hv
    refine ⟨_, h1, ?_⟩
    have : ¬ us.toArray.size = 1 := by
      intro e
      have hl := h2.length
      simp at e
      rw [e] at hl
      match vs, hl with
      | [x], _ => exact hne x rfl
    rw [dif_neg this]
    exact .tup (by simpa using h2)
  · cases h

theorem vcall_step {F : Nat → Option VFun} {X : Told} (hF : TableOk P F) (hX : CallOk P X) {exec : VCode → St → Option (Ex × St)} (hE : ExecOk P exec) :
    CallOk P (fun f args h => match X f args h with
    | some r => some r
    | none => match F f with
      | none => none
      | some fn => bif Nat.beq args.length fn.nargs then
          match exec fn.body ⟨argsT args 0 .e, h⟩ with
          | some (.normal, st) | some (.ret, st) => (VM.results st fn.res).map fun v => (v, st.h)
          | _ => none
        else none) := by
  intro f args h v h' hcall
  simp only at hcall
  split at hcall
  · rename_i r hx
    cases hcall
    exact hX f args h v h' hx
  · split at hcall
    · cases hcall
    · rename_i vf hf
      obtain ⟨fn, e1, e2, e3⟩ := hF f vf hf
      rw [T.beq_dec] at hcall
      by_cases hl : args.length = vf.nargs
      · rw [decide_eq_true hl, cond_true] at hcall
        unfold cFun at e2
        split at e2
        · cases e2
        · rename_i c hb
          split at e2
          · rename_i vc vr hc hvr
            split at e2
            · rename_i hle
              cases e2
              refine ⟨⟨fn, e1, by rw [hb]; rfl, e3⟩, fun φ w us hr hus => ?_⟩
              apply calls_of_wp e1 hb
              have hs0 := start_ok (φ := φ) (w := w) hus (nt := fn.ntmps) (by rw [hl]; exact hle) h
              have fin : ∀ (st : St) (ex : Ex), (ex = .normal ∨ ex = .ret) → exec vc ⟨argsT args 0 .e, h⟩ = some (ex, st) → (VM.results st vr).map (fun v => (v, st.h)) = some (v, h') →
                  c.wp P (bodyPost P fn (fun e w' => ∃ φ' u, e = .returned u ∧ VR φ' w' v u ∧ HR φ' w' h' ∧ UpdH φ w h φ' w' h')) { tmps := us ++ Array.replicate (fn.ntmps - us.size) undef, defers := [] } w := by
                intro st ex hex he hres
                obtain ⟨v1, hv1, hv2⟩ := Option.map_eq_some_iff.1 hres
                cases hv2
                refine hE fn.ntmps c vc hc φ w _ st _ ex _ hs0 hr he fun φ1 a1 w1 hs1 hr1 hu1 hd1 => ?_
                obtain ⟨u, g1, g2⟩ := results_ok hs1 hr1 hvr hv1
                rcases hex with rfl | rfl
                · exact ⟨hd1, u, g1, φ1, u, rfl, g2, hr1, hu1⟩
                · exact ⟨hd1, u, g1, φ1, u, rfl, g2, hr1, hu1⟩
              split at hcall
              · rename_i st he
                exact fin st .normal (.inl rfl) he hcall
              · rename_i st he
                exact fin st .ret (.inr rfl) he hcall
              · cases hcall
            · cases e2
          · cases e2
      · rw [decide_eq_false hl, cond_false] at hcall
        cases hcall

theorem vm_ok (hD : DrawnOk P) {F : Nat → Option VFun} {X : Told} (hF : TableOk P F) (hX : CallOk P X) : ∀ n, ExecOk P (vexec F X n) ∧ LoopOk P (vexec F X n) ∧ CallOk P (vcall F X n)
  | 0 => by
    refine ⟨?_, ?_, ?_⟩
    · intro nt c vc hc φ w st st' a ex Q hs hr h
      simp [vexec] at h
    · intro nt c vc hc φ w st st' a ex Q hs hr h
      simp [vexec] at h
    · intro f args h v h' hcall
      simp [vcall] at hcall
  | n + 1 => by
    obtain ⟨h1, h2, h3⟩ := vm_ok hD hF hX n
    have e1 : vexec F X (n + 1) = vstep (vcall F X n) (vexec F X n) := by
      funext c st; rw [vexec]
    refine ⟨?_, ?_, ?_⟩
    · rw [e1]; exact exec_ok hD h3 h1 h2
    · rw [e1]; exact loop_ok h1 h2
    · have := vcall_step hF hX h1
      intro f args h v h' hcall
      rw [vcall] at hcall
      exact this f args h v h' hcall

theorem nothing_told : CallOk P (fun _ _ _ => none) := fun _ _ _ _ _ h => by cases h

end
end Go.Proofs.Ytinonmcnofjeeaa.VM
