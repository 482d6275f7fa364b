/- The small machine's operations stand for the program's: all of them. -/
import Derived.Test.YtinonmcnofjeeaaVM10
namespace Go.Proofs.Ytinonmcnofjeeaa.VM
set_option linter.unusedSimpArgs false
set_option linter.unusedVariables false
set_option linter.defProp false
set_option maxHeartbeats 1000000
open Go.RowKit

/-- A function that is entered. -/
def Enters (P : Program) (f : Nat) : Prop := ∃ fn, P.funcs[f]? = some fn ∧ fn.body.isSome = true ∧ fn.name ≠ "runtime.NumGoroutine"

/-- What an operation comes to, next to what the small machine's comes to. -/
def OutOk (P : Program) (φ : Env) (w : World) (H : Heap) (r : Result Next) : Out → Prop
  | .fail => True
  | .val v h => Leaves φ w H r v h
  | .enter f args => Enters P f → ∃ us : Array Value, r = .ok (.enter f us) w ∧ VRs φ w args us.toList

section
variable {P : Program} {φ : Env} {w : World} {H : Heap}

theorem okO {r : Result Next} {x : Option AV} (h : ∀ v, x = some v → Leaves φ w H r v H) : OutOk P φ w H r (valO H x) := by
  cases x with
  | none => trivial
  | some v => exact h v rfl
theorem okH {r : Result Next} {x : Option (AV × Heap)} (h : ∀ v h', x = some (v, h') → Leaves φ w H r v h') : OutOk P φ w H r (valH x) := by
  cases x with
  | none => trivial
  | some v => exact h v.1 v.2 rfl

theorem run_callFunc {f : Nat} (he : Enters P f) (us : Array Value) : (callFunc f us).run P w = .ok (.enter f us) w := by
  obtain ⟨fn, h1, h2, h3⟩ := he
  have h3' : (fn.name == "runtime.NumGoroutine") = false := by simpa using h3
  have h2' : fn.body.isNone = false := by
    cases hb : fn.body with
    | none => rw [hb] at h2; cases h2
    | some c => rfl
  simp only [callFunc, Sem.run_bind, run_program, Result.andThen_ok, h1, h3', h2', Bool.false_eq_true, if_false]
  rfl

theorem VRs.toArr {l : List AV} {vs : Array Value} (h : VRs φ w l vs.toList) : VRs φ w l vs.toList := h

theorem max_ok (P : Program) : ∀ {l : List AV} {us : List Value} {x v : AV} {u : Value}, VR φ w x u → VRs φ w l us → foldO max2 x l = some v → ∃ r, (us.foldlM Builtin.max2 u).run P w = .ok r w ∧ VR φ w v r
  | [], [], x, v, u, hx, _, h => by cases h; exact ⟨u, rfl, hx⟩
  | y :: l, z :: us, x, v, u, hx, .cons hy t, h => by
    simp only [foldO] at h
    split at h
    · rename_i z' hz
      cases hx <;> cases hy <;> simp only [max2] at hz <;> try (cases hz; done)
      cases hz
      rename_i k n k' m
      obtain ⟨r, h1, h2⟩ := max_ok P (VR.int k _) t h
      exact ⟨r, by simpa [List.foldlM, Builtin.max2] using h1, h2⟩
    · cases h
theorem min_ok (P : Program) : ∀ {l : List AV} {us : List Value} {x v : AV} {u : Value}, VR φ w x u → VRs φ w l us → foldO min2 x l = some v → ∃ r, (us.foldlM Builtin.min2 u).run P w = .ok r w ∧ VR φ w v r
  | [], [], x, v, u, hx, _, h => by cases h; exact ⟨u, rfl, hx⟩
  | y :: l, z :: us, x, v, u, hx, .cons hy t, h => by
    simp only [foldO] at h
    split at h
    · rename_i z' hz
      cases hx <;> cases hy <;> simp only [min2] at hz <;> try (cases hz; done)
      cases hz
      rename_i k n k' m
      obtain ⟨r, h1, h2⟩ := min_ok P (VR.int k _) t h
      exact ⟨r, by simpa [List.foldlM, Builtin.min2] using h1, h2⟩
    · cases h

theorem opto_ok {nt : Nat} {st : St} {a : Act} (hs : SR φ w nt st a) {o : Option Operand} {y : Option Opd} (h : optO o = some y) : VRo φ w (y.map (·.eval st)) (o.map a.eval) := by
  cases o with
  | none => cases h; trivial
  | some x =>
    obtain ⟨z, hz, rfl⟩ := Option.map_eq_some_iff.1 h
    exact opd_ok hs hz

theorem one_arg {x : AV} {us : Array Value} (h : VRs φ w [x] us.toList) : ∃ u, us = #[u] ∧ VR φ w x u := by
  obtain ⟨us⟩ := us
  cases h with
  | cons h t => cases t; exact ⟨_, rfl, h⟩
theorem two_args {x y : AV} {us : Array Value} (h : VRs φ w [x, y] us.toList) : ∃ u v, us = #[u, v] ∧ VR φ w x u ∧ VR φ w y v := by
  obtain ⟨us⟩ := us
  cases h with
  | cons h t => cases t with
    | cons h' t => cases t; exact ⟨_, _, rfl, h, h'⟩

theorem ccall_ok {nt : Nat} {st : St} {a : Act} (hs : SR φ w nt st a) (hr : HR φ w st.h) {c : Call} {op : VOp} (hc : cCall P c = some op) (nm : Nat) (ty : TypeId) :
    OutOk P φ w st.h ((do let d ← resolve a.eval c ty; invoke d.target d.args : Sem Next).run P w) (vop st nm op) := by
  unfold cCall at hc
  split at hc
  · cases hc
  · rename_i args hargs
    have hv : VRs φ w (args.map (·.eval st)) (c.args.map a.eval).toList := by simpa using opds_ok hs hargs
    split at hc
    · rename_i f hf
      split at hc
      · rename_i fn hfn
        split at hc
        · rename_i hb
          cases hc
          intro he
          refine ⟨c.args.map a.eval, ?_, hv⟩
          simp [resolve, hf, Act.eval, Deferred.ofValue, invoke, run_callFunc he]
        · cases hc
      · cases hc
    · rename_i t hf
      cases hc
      have hx := hs.get t
      show OutOk P φ w st.h _ (match st.get t with | .fn f caps => Out.enter f (args.map (·.eval st) ++ caps) | _ => .fail)
      generalize hg : st.get t = x at hx
      cases x <;> try trivial
      rename_i g l
      generalize hu : a.tmps.getD t undef = u at hx
      cases hx with
      | fn hl =>
        rename_i vs
        intro he
        refine ⟨c.args.map a.eval ++ vs, ?_, by simpa using hv.append hl⟩
        have : a.eval (.tmp t) = .func (.func g) #[] vs := hu
        simp [resolve, hf, this, Deferred.ofValue, invoke, run_callFunc he]
    · rename_i b hb
      obtain ⟨cons, hres⟩ : ∃ cons, (do let d ← resolve a.eval c ty; invoke d.target d.args : Sem Next).run P w = (builtin b c.argTypes ty cons (c.args.map a.eval)).run P w :=
        ⟨_, by simp only [resolve, hb, Sem.run_bind, Sem.run_pure, Result.andThen_ok, invoke]; rfl⟩
      rw [hres]
      clear hres
      generalize c.args.map a.eval = us at hv
      split at hc
      · -- len
        rename_i x
        obtain ⟨u, rfl, hx⟩ := one_arg hv
        split at hc
        · rename_i t ht0
          have key : ∀ k, ((k = 0 ∧ P.underlying t = some .string) ∨ (k = 1 ∧ ∃ e, P.underlying t = some (.slice e)) ∨ (k = 2 ∧ ∃ a b, P.underlying t = some (.map a b))) →
              OutOk P φ w st.h ((do pure (Next.value (← Builtin.len_ c.argTypes ty #[u])) : Sem Next).run P w) (lenO st.h k (x.eval st)) := by
            intro k hk
            cases h : lenO st.h k (x.eval st) with
            | fail => trivial
            | val v h' => exact op_len hr ht0 hx ty h hk
            | enter f args =>
              exfalso
              unfold lenO at h
              split at h <;> try (cases h; done)
              split at h <;> cases h
          split at hc <;> try (cases hc; done)
          · rename_i hu
            cases hc
            exact key 0 (.inl ⟨rfl, hu⟩)
          · rename_i e hu
            cases hc
            exact key 1 (.inr (.inl ⟨rfl, e, hu⟩))
          · rename_i k e hu
            cases hc
            exact key 2 (.inr (.inr ⟨rfl, k, e, hu⟩))
        · cases hc
      · -- append
        rename_i s x
        obtain ⟨u, u', rfl, hx, hy⟩ := two_args hv
        split at hc
        · rename_i t t2 ht0 ht1
          have hcz : c.argTypes.size = 2 → c.argTypes = #[t, t2] := by
            intro hz
            apply Array.ext (by simp [hz])
            intro i h1 h2
            match i, h1 with
            | 0, _ => simpa [Array.getElem?_eq_getElem (show 0 < c.argTypes.size by omega)] using ht0
            | 1, _ => simpa [Array.getElem?_eq_getElem (show 1 < c.argTypes.size by omega)] using ht1
            | n + 2, h => omega
          have key : ∀ e, P.underlying t = some (.slice e) → ((∃ e', P.underlying t2 = some (.slice e')) ∨ P.underlying t2 = some .string) → (has P e = true ∧ 0 < P.bytesOf e ∧ (zeroC P e).isSome = true ∧ c.argTypes.size = 2) →
              OutOk P φ w st.h ((do pure (Next.value (← Builtin.append_ c.argTypes ty #[u, u'])) : Sem Next).run P w) (valH (appendV st.h (P.cellsOf e) (P.bytesOf e) e (s.eval st) (x.eval st))) := by
            intro e h1 h2 ⟨h3, h4, h5, h6⟩
            rw [hcz h6]
            obtain ⟨z, hz⟩ := Option.isSome_iff_exists.1 h5
            exact okH fun v h' h => op_append hr h1 h2 h3 h4 hz hx hy h ty
          split at hc
          · rename_i e e' h1 h2
            split at hc
            · rename_i hh
              cases hc
              exact key e h1 (.inl ⟨e', h2⟩) hh
            · cases hc
          · rename_i e h1 h2
            split at hc
            · rename_i hh
              cases hc
              exact key e h1 (.inr h2) hh
            · cases hc
          · cases hc
        · cases hc
      · -- copy
        rename_i d x
        obtain ⟨u, u', rfl, hx, hy⟩ := two_args hv
        split at hc
        · rename_i t ht0
          split at hc
          · rename_i e h1
            split at hc
            · rename_i hh
              cases hc
              exact okH fun v h' h => op_copy hr ht0 h1 hh hx hy h ty
            · cases hc
          · cases hc
        · cases hc
      · -- max
        cases hc
        cases args with
        | nil => trivial
        | cons x l =>
          obtain ⟨us⟩ := us
          cases hv with
          | cons h t =>
            refine okO fun v hm => ?_
            obtain ⟨r, h1, h2⟩ := max_ok P h t hm
            exact leaves_val hr (by simpa [Builtin.max_] using h1) h2
      · -- min
        cases hc
        cases args with
        | nil => trivial
        | cons x l =>
          obtain ⟨us⟩ := us
          cases hv with
          | cons h t =>
            refine okO fun v hm => ?_
            obtain ⟨r, h1, h2⟩ := min_ok P h t hm
            exact leaves_val hr (by simpa [Builtin.min_] using h1) h2
      · -- clear
        rename_i x
        obtain ⟨u, rfl, hx⟩ := one_arg hv
        split at hc
        · rename_i t ht0
          split at hc
          · rename_i k e h1
            cases hc
            show OutOk P φ w st.h ((do pure (Next.value (← Builtin.clear_ c.argTypes ty #[u])) : Sem Next).run P w) (match x.eval st with
              | .nilm => .val (.tup []) st.h
              | .map b => (match st.h.get b with | some (.map _ ver) => .val (.tup []) (st.h.put b (.map [] (ver + 1))) | _ => .fail)
              | _ => .fail)
            have hx' : VR φ w (x.eval st) u := hx
            revert hx'
            generalize x.eval st = y
            intro hx'
            cases y <;> try trivial
            · rename_i b
              simp only
              cases hg : st.h.get b with
              | none => trivial
              | some o =>
                cases o with
                | map es ver => exact op_clear hr ht0 h1 hx' hg ty
                | _ => trivial
            · exact op_clear_nil hr ht0 h1 hx' ty
          · rename_i e h1
            split at hc
            · rename_i z hz
              split at hc
              · rename_i hpos
                cases hc
                show OutOk P φ w st.h ((do pure (Next.value (← Builtin.clear_ c.argTypes ty #[u])) : Sem Next).run P w) (match x.eval st with
                  | .nils => .val (.tup []) st.h
                  | .sl b off len _ _ => bif Nat.beq len 0 then .val (.tup []) st.h else (match writeAt st.h b off (List.replicate len z).flatten with
                    | some h => .val (.tup []) h
                    | none => .fail)
                  | _ => .fail)
                have hx' : VR φ w (x.eval st) u := hx
                revert hx'
                generalize x.eval st = y
                intro hx'
                cases y <;> try trivial
                · rename_i b off len cap sz
                  simp only
                  by_cases h0 : len = 0
                  · subst h0
                    exact op_clear_sl0 hr ht0 h1 (.inr ⟨_, _, _, _, rfl⟩) hx' ty
                  · rw [T.beq_dec, decide_eq_false h0, cond_false]
                    cases hw : writeAt st.h b off (List.replicate len z).flatten with
                    | none => trivial
                    | some H' => exact op_clear_sl hr ht0 h1 hz hpos h0 hx' hw ty
                · exact op_clear_sl0 hr ht0 h1 (.inl rfl) hx' ty
              · cases hc
            · cases hc
          · cases hc
        · cases hc
      · -- delete
        rename_i m k
        obtain ⟨u, u', rfl, hx, hy⟩ := two_args hv
        split at hc
        · rename_i t ht0
          split at hc
          · rename_i kt e h1
            obtain ⟨kc, hk, rfl⟩ := Option.map_eq_some_iff.1 hc
            show OutOk P φ w st.h ((do pure (Next.value (← Builtin.delete_ c.argTypes ty #[u, u'])) : Sem Next).run P w) (match m.eval st with
              | .map b => (match st.h.get b with
                | some (.map es ver) => (match findE kc (k.eval st) es with | some _ => .val (.tup []) (st.h.put b (.map (delE kc (k.eval st) es) (ver + 1))) | none => .fail)
                | _ => .fail)
              | _ => .fail)
            have hx' : VR φ w (m.eval st) u := hx
            revert hx'
            generalize m.eval st = y
            intro hx'
            cases y <;> try trivial
            rename_i b
            simp only
            cases hg : st.h.get b with
            | none => trivial
            | some o =>
              cases o with
              | map es ver =>
                simp only
                cases hf : findE kc (k.eval st) es with
                | none => trivial
                | some r => exact op_delete hr ht0 h1 hk hx' hy hg hf ty
              | _ => trivial
          · cases hc
        · cases hc
      · cases hc
    · cases hc

end
end Go.Proofs.Ytinonmcnofjeeaa.VM
