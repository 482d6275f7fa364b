/- The small machine's operations stand for the program's: the join. -/
import Derived.Test.YtinonmcnofjeeaaVM12
namespace Go.Proofs.Ytinonmcnofjeeaa.VM
set_option linter.unusedSimpArgs false
set_option linter.unusedVariables false
set_option linter.defProp false
set_option maxHeartbeats 1000000
open Go.RowKit

section
variable {P : Program} {φ : Env} {w : World} {H : Heap}

theorem okVal (hr : HR φ w H) {s : Sem Value} {x : Option AV} (h : ∀ v, x = some v → ∃ u, s.run P w = .ok u w ∧ VR φ w v u) : OutOk P φ w H ((do pure (Next.value (← s)) : Sem Next).run P w) (valO H x) :=
  okO fun v hv => let ⟨_, h1, h2⟩ := h v hv; leaves_val hr h1 h2

theorem text_ok (hr : HR φ w H) {src dst e : TypeId} (hs : P.underlying src = some (.slice e)) (hd : P.underlying dst = some .string) (he : P.underlying e = some (.int .u8)) {x : AV} {u : Value} (hx : VR φ w x u) (hns : ∀ s, x ≠ .str s) :
    OutOk P φ w H ((do pure (Next.value (← Go.convert src dst u)) : Sem Next).run P w) (match lenV x with
      | some n => match cellsOf H 1 n x with
        | some cs => valO H ((cs.mapM AV.byte).map .str)
        | none => .fail
      | none => .fail) := by
  cases hn : lenV x with
  | none => trivial
  | some n =>
    simp only
    cases hcs : cellsOf H 1 n x with
    | none => trivial
    | some cs =>
      refine okO fun v hv => ?_
      obtain ⟨bs, hbs, rfl⟩ := Option.map_eq_some_iff.1 hv
      exact op_text hr hs hd he hx hn hcs hbs hns

theorem guard_ok {op : BinOp} {x y v : AV} {u u' : Value} (t : TypeId) (xo yo : Operand) (hx : VR φ w x u) (hy : VR φ w y u') (h : bin op x y = some v) : (eqGuard op t xo yo u u').run P w = .ok () w := by
  cases hx <;> cases hy <;> simp only [bin] at h <;> try (cases h; done)
  · unfold eqGuard
    split <;> rfl
  · unfold eqGuard
    split <;> rfl

/-- a mark behind a row's end -/
theorem frz_heap (w : World) (B k : Nat) (B' : Nat) (h : B' ≠ B) : (w.freeze ⟨B, k, none⟩ 1).heap[B']? = w.heap[B']? := by
  simp [World.freeze, Array.getElem?_modify, h.symm]
theorem frz_self {w : World} {B k : Nat} {c : Array Value} {e : TypeId} {lo hi : Nat} (h : w.heap[B]? = some (.cells c e (lo, hi))) :
    (w.freeze ⟨B, k, none⟩ 1).heap[B]? = some (.cells c e (if lo == hi then (k, k + 1) else (min lo k, max hi (k + 1)))) := by
  simp [World.freeze, Array.getElem?_modify, h]
theorem frz_size (w : World) (B k : Nat) : (w.freeze ⟨B, k, none⟩ 1).heap.size = w.heap.size := by simp [World.freeze]
theorem shape_cells {w : World} {B n : Nat} {e : TypeId} (h : w.shape? B = some (e, n)) : ∃ c fr, w.heap[B]? = some (.cells c e fr) ∧ c.size = n := by
  unfold World.shape? at h
  cases hh : w.heap[B]? with
  | none => rw [hh] at h; cases h
  | some x =>
    rw [hh] at h
    cases x with
    | cells c t fr =>
      have h' : some (t, c.size) = some (e, n) := h
      cases h'
      exact ⟨c, fr, rfl, rfl⟩
    | _ => cases h
theorem mark_hr (hr : HR φ w H) {b B o n : Nat} {l : List AV} {e e0 : TypeId} {ver : Nat} (hg : H.get b = some (.cells l e ver)) (hb : φ b = some (B, o)) (hsh : w.shape? B = some (e0, n)) :
    HR φ (w.freeze ⟨B, n, none⟩ 1) H ∧ UpdH φ w H φ (w.freeze ⟨B, n, none⟩ 1) H := by
  obtain ⟨c, ⟨lo, hi⟩, hc, hn⟩ := shape_cells hsh
  have hs := frz_self (k := n) hc
  have hcell : ∀ B' k, (w.freeze ⟨B, n, none⟩ 1).cell? ⟨B', k, none⟩ = w.cell? ⟨B', k, none⟩ := by
    intro B' k
    by_cases e1 : B' = B
    · subst e1; simp only [World.cell?, hs, hc]
    · simp only [World.cell?, frz_heap w B n B' e1]
  have hshape : ∀ B', (w.freeze ⟨B, n, none⟩ 1).shape? B' = w.shape? B' := by
    intro B'
    by_cases e1 : B' = B
    · subst e1; simp only [World.shape?, hs, hc]
    · simp only [World.shape?, frz_heap w B n B' e1]
  have u : Upd φ w φ (w.freeze ⟨B, n, none⟩ 1) := by
    refine ⟨by simp [World.freeze], by simp [World.freeze], by simp [World.freeze], by rw [frz_size]; exact Nat.le_refl _, fun _ _ h => h, fun _ _ _ h => .inl ⟨_, _, h⟩, fun B' _ hn => frz_heap w B n B' fun e1 => hn _ _ hb e1.symm, fun B' x hx => by rw [hshape]; exact hx⟩
  refine ⟨⟨fun d => ?_, fun d p hd => by rw [frz_size]; exact hr.lt _ _ hd, hr.inj, hr.next⟩, ?_⟩
  · by_cases hl : live (H.get d) = true
    · by_cases ed : d = b
      · subst ed
        obtain ⟨B1, o1, e1, n1, h1, h2, h3, h4, h5⟩ := hr.cells hg
        rw [hb] at h1
        cases h1
        rw [hsh] at h2
        cases h2
        rw [hg]
        have ht := hr.thawed hg hb hsh
        refine ⟨B, o, e0, n, hb, by rw [hshape]; exact hsh, VRm.of_get fun i x hx => ?_, ⟨fun i hi' => ?_, fun fr hf => ?_⟩, h5⟩
        · obtain ⟨v, g1, g2⟩ := h3.get hx
          exact ⟨v, by rw [hcell]; exact g1, g2.upd u⟩
        · have hle := ht.2 (lo, hi) (by simp only [frz?, hc])
          have h6 := h4 i hi'
          have h7 := h4 lo
          simp only [World.frozen?, hc, Bool.and_eq_false_iff, decide_eq_false_iff_not] at h6 h7
          simp only at hle
          simp only [World.frozen?, hs]
          by_cases el : lo = hi
          · subst el; simp; omega
          · have : (lo == hi) = false := by simpa using el
            rw [this]
            simp only [Bool.false_eq_true, if_false, Bool.and_eq_false_iff, decide_eq_false_iff_not]
            left
            have : n ≤ lo := by
              rcases Nat.lt_or_ge lo n with h | h
              · have := h7 h; omega
              · exact h
            rw [Nat.min_eq_right this]
            omega
        · have hle := ht.2 (lo, hi) (by simp only [frz?, hc])
          simp only [frz?, hs, Option.some.injEq] at hf
          simp only at hle
          rw [← hf]
          by_cases el : lo = hi
          · subst el; simp
          · have : (lo == hi) = false := by simpa using el
            rw [this]
            simp only [Bool.false_eq_true, if_false]
            omega
      · refine BR.upd hr u hl fun p hp => frz_heap w B n _ fun eB => ed ?_
        exact hr.inj d b p (B, o) hl (by rw [hg]; rfl) hp hb eB
    · rcases not_live hl with h | h
      · have := hr.blk d
        rw [h] at this ⊢
        exact this
      · rw [h]; trivial
  · refine { toUpd := u, keepL := fun B' _ hn => frz_heap w B n B' fun e1 => hn b _ (by rw [hg]; rfl) hb e1.symm, deadL := fun d h1 h2 => ⟨h1, h2, rfl⟩, newL := fun d B' o' h1 h2 => .inl ⟨d, o', h1, h2⟩, stay := fun _ h => h }
theorem mupd_ok {st : St} (hr : HR φ w st.h) {t kt e : TypeId} (ht : P.underlying t = some (.map kt e)) {c : EqC} (hc : keyC P kt = some c) {m k v : Opd} {mu ku vu : Value} (hm : VR φ w (m.eval st) mu) (hk : VR φ w (k.eval st) ku) (hv : VR φ w (v.eval st) vu) (nm : Nat) :
    OutOk P φ w st.h ((do Instr.mapUpdate t mu ku vu; pure Next.skip : Sem Next).run P w) (vop st nm (.mupd c m k v)) := by
  simp only [vop]
  revert hm
  generalize m.eval st = xv
  intro hm
  cases xv <;> try trivial
  rename_i b
  simp only
  cases hg : st.h.get b with
  | none => trivial
  | some o =>
    cases o <;> try trivial
    rename_i es ver
    simp only
    cases hf : findE c (k.eval st) es with
    | none => trivial
    | some r => exact op_mupd hr ht hc hm hk hv hg hf

theorem cop_ok {nt : Nat} {st : St} {a : Act} (hs : SR φ w nt st a) (hr : HR φ w st.h) {o : Oper} {op : VOp} (hc : cOp P o = some op) {nm : Nat} (hn : st.h.get nm = none) :
    OutOk P φ w st.h ((execOp a.eval o).run P w) (vop st nm op) := by
  obtain ⟨dst, oop, type, pos, after, guard⟩ := o
  unfold cOp at hc
  cases oop <;> simp only at hc <;> try (cases hc; done)
  case move x =>
    obtain ⟨y, hy, rfl⟩ := Option.map_eq_some_iff.1 hc
    exact leaves_val (s := pure (a.eval x)) hr rfl (opd_ok hs hy)
  case assign x =>
    obtain ⟨y, hy, rfl⟩ := Option.map_eq_some_iff.1 hc
    exact leaves_val (s := pure (a.eval x)) hr rfl (opd_ok hs hy)
  case pick c x y =>
    split at hc
    · rename_i c' x' y' h1 h2 h3
      cases hc
      have g1 := opd_ok hs h1
      have g2 := opd_ok hs h2
      have g3 := opd_ok hs h3
      show OutOk P φ w st.h ((do pure (Next.value (if ← asBool (a.eval c) then a.eval x else a.eval y)) : Sem Next).run P w) (match c'.eval st with
        | .bool true => .val (x'.eval st) st.h
        | .bool false => .val (y'.eval st) st.h
        | _ => .fail)
      revert g1
      generalize c'.eval st = cv
      generalize a.eval c = cu
      intro g1
      cases g1 <;> try trivial
      rename_i b
      cases b
      · exact leaves_val (s := pure (a.eval y)) hr rfl g3
      · exact leaves_val (s := pure (a.eval x)) hr rfl g2
    · cases hc
  case alloc e =>
    obtain ⟨z, hz, rfl⟩ := Option.map_eq_some_iff.1 hc
    exact op_alloc hr hn hz
  case box e x =>
    obtain ⟨y, hy, rfl⟩ := Option.map_eq_some_iff.1 hc
    show OutOk P φ w st.h ((do pure (Next.value (← Instr.box e (a.eval x))) : Sem Next).run P w) (match (y.eval st).cells with
      | some c => .val (.ptr nm 0) (st.h.mk' nm (.cells c e 0))
      | none => .fail)
    cases hcs : (y.eval st).cells with
    | none => trivial
    | some c => exact op_box hr hn e (opd_ok hs hy) hcs
  case build t ps =>
    split at hc
    · rename_i z fs hz ht
      obtain ⟨q, hq, hc⟩ := Option.bind_eq_some_iff.1 hc
      split at hc
      · rename_i hall
        cases hc
        have hp := parts_ok hs hq
        refine okO fun v hv => ?_
        obtain ⟨l, hl, rfl⟩ := Option.map_eq_some_iff.1 hv
        exact op_build_struct hr ht hz hall (by simpa using hp) hl
      · cases hc
    · rename_i z n e hz ht
      split at hc
      · rename_i he
        obtain ⟨q, hq, rfl⟩ := Option.map_eq_some_iff.1 hc
        have hp := parts_ok hs hq
        refine okO fun v hv => ?_
        obtain ⟨l, hl, rfl⟩ := Option.map_eq_some_iff.1 hv
        exact op_build_arr hr ht he hz (by simpa using hp) hl
      · cases hc
    · cases hc
  case buildSlice t len ps =>
    split at hc
    · rename_i e ht
      split at hc
      · rename_i z hz
        split at hc
        · rename_i hcond
          obtain ⟨q, hq, rfl⟩ := Option.map_eq_some_iff.1 hc
          have hp := parts_ok hs hq
          show OutOk P φ w st.h ((do pure (Next.value (← Instr.buildSlice t len (ps.map fun (i, x) => (i, a.eval x)))) : Sem Next).run P w) (match fill ((List.replicate len z).flatten) (q.map fun (o, n, x) => (o, n, x.eval st)) with
            | some cs => .val (.sl nm 0 len len z.length) (st.h.mk' nm (.cells cs e 0))
            | none => .fail)
          cases hf : fill ((List.replicate len z).flatten) (q.map fun (o, n, x) => (o, n, x.eval st)) with
          | none => trivial
          | some cs => exact op_bslice hr hn ht hz hcond.1 hcond.2 (by simpa using hp) hf
        · cases hc
      · cases hc
    · cases hc
  case load t x =>
    split at hc
    · rename_i ht
      obtain ⟨y, hy, rfl⟩ := Option.map_eq_some_iff.1 hc
      have hx := opd_ok hs hy
      show OutOk P φ w st.h ((do pure (Next.value (← Instr.loadAt t (a.eval x))) : Sem Next).run P w) (vop st nm (.load (isAggB P t) (P.cellsOf t) y))
      simp only [vop]
      revert hx
      generalize y.eval st = yv
      intro hx
      cases yv <;> try trivial
      · rename_i b off
        simp only
        cases hg : st.h.get b with
        | none => trivial
        | some o =>
          cases o <;> try trivial
          exact okO fun v hv => op_load hr ht hx (by simp only [hg]; exact hv)
      · exact okO fun v hv => op_load hr ht hx hv
    · cases hc
  case store t p x =>
    split at hc
    · rename_i p' x' hp' hx'
      split at hc
      · rename_i ht
        cases hc
        have hp := opd_ok hs hp'
        have hx := opd_ok hs hx'
        show OutOk P φ w st.h ((do Instr.storeAt t (a.eval p) (a.eval x); pure Next.skip : Sem Next).run P w) (match p'.eval st with
          | .ptr b off => match (x'.eval st).cells with
            | some c => bif Nat.beq c.length (P.cellsOf t) then (match writeAt st.h b off c with
              | some h => .val .undef h
              | none => .fail) else .fail
            | none => .fail
          | _ => .fail)
        revert hp
        generalize p'.eval st = y
        intro hp
        cases y <;> try trivial
        rename_i b off
        simp only
        cases hcs : (x'.eval st).cells with
        | none => trivial
        | some c =>
          simp only
          rw [T.beq_dec]
          by_cases hl : c.length = P.cellsOf t
          · rw [decide_eq_true hl, cond_true]
            cases hw : writeAt st.h b off c with
            | none => trivial
            | some h => exact op_store hr ht hp hx hcs hl hw
          · rw [decide_eq_false hl]; trivial
      · cases hc
    · cases hc
  case nilCheck x =>
    obtain ⟨y, hy, rfl⟩ := Option.map_eq_some_iff.1 hc
    have hx := opd_ok hs hy
    show OutOk P φ w st.h ((execOp a.eval ⟨dst, .nilCheck x, type, pos, after, guard⟩).run P w) (match y.eval st with
      | .nilp | .nilf | .undef => .fail
      | v => .val v st.h)
    have key : ∀ u v, a.eval x = u → VR φ w v u → (∀ n f c, u ≠ .func (.method n) f c) → u ≠ .pointer none → u ≠ .nilIface → u ≠ .nilFunc → OutOk P φ w st.h ((execOp a.eval ⟨dst, .nilCheck x, type, pos, after, guard⟩).run P w) (.val v st.h) := by
      intro u v hu hv h1 h2 h3 h4
      have : execOp a.eval ⟨dst, .nilCheck x, type, pos, after, guard⟩ = pure (.value u) := by
        simp only [execOp, hu]
      rw [this]
      exact leaves_val (s := pure u) hr rfl hv
    revert hx
    generalize y.eval st = v
    generalize hu : a.eval x = u
    intro hx
    cases hx <;> first
      | trivial
      | exact key _ _ hu (by constructor <;> assumption) (by simp) (by simp) (by simp) (by simp)
  case binOp bop t x y pr =>
    split at hc
    · rename_i x' y' hx' hy'
      have hx := opd_ok hs hx'
      have hy := opd_ok hs hy'
      have hb : OutOk P φ w st.h ((execOp a.eval ⟨dst, .binOp bop t x y pr, type, pos, after, guard⟩).run P w) (vop st nm (.bin bop x' y')) := by
        refine okVal (s := do eqGuard bop t x y (a.eval x) (a.eval y); Go.binOp bop t (a.eval x) (a.eval y)) hr fun v hv => ?_
        obtain ⟨r, h1, h2⟩ := bin_ok t hx hy hv
        exact ⟨r, by rw [Sem.run_bind, guard_ok t x y hx hy hv, Result.andThen_ok, h1]; rfl, h2⟩
      have he : ∀ (k : EqK) (hop : bop = .eql ∨ bop = .neq), ((k = .bool ∧ P.underlying t = some .bool) ∨ (k = .ptr ∧ ∃ e, P.underlying t = some (.pointer e)) ∨ (k = .sl ∧ ∃ e, P.underlying t = some (.slice e)) ∨ (k = .map ∧ ∃ a b, P.underlying t = some (.map a b)) ∨
      (k = .fn ∧ ∃ a b c, P.underlying t = some (.func a b c)) ∨ (∃ ks fs, k = .flat ks ∧ P.underlying t = some (.struct fs) ∧ eqFlat P 5 t = some ks ∧ P.eqGuardType P.depth t = false)) → OutOk P φ w st.h ((execOp a.eval ⟨dst, .binOp bop t x y pr, type, pos, after, guard⟩).run P w) (vop st nm (.eqs k (bop = .neq) x' y')) := by
        intro k hop hk
        refine okVal (s := do eqGuard bop t x y (a.eval x) (a.eval y); Go.binOp bop t (a.eval x) (a.eval y)) hr fun v hv => ?_
        obtain ⟨b, hb, rfl⟩ := Option.map_eq_some_iff.1 hv
        exact ⟨_, eqv_ok hop x y hx hy hb hk, .bool _⟩
      split at hc
      · rename_i hop
        split at hc <;> try (cases hc; done)
        · rename_i k0 ht
          cases hc
          exact hb
        · rename_i ht
          cases hc
          exact hb
        · rename_i ht
          cases hc
          exact he .bool hop (.inl ⟨rfl, ht⟩)
        · rename_i e ht
          cases hc
          exact he .ptr hop (.inr (.inl ⟨rfl, e, ht⟩))
        · rename_i e ht
          cases hc
          exact he .sl hop (.inr (.inr (.inl ⟨rfl, e, ht⟩)))
        · rename_i k e ht
          cases hc
          exact he .map hop (.inr (.inr (.inr (.inl ⟨rfl, k, e, ht⟩))))
        · rename_i e1 e2 e3 ht
          cases hc
          exact he .fn hop (.inr (.inr (.inr (.inr (.inl ⟨rfl, e1, e2, e3, ht⟩)))))
        · rename_i fs ht
          split at hc
          · rename_i ks hks
            split at hc
            · rename_i hgt
              cases hc
              exact he (.flat ks) hop (.inr (.inr (.inr (.inr (.inr ⟨ks, fs, rfl, ht, hks, hgt⟩)))))
            · cases hc
          · cases hc
      · rename_i hop
        split at hc <;> try (cases hc; done)
        · cases hc
          exact hb
        · cases hc
          exact hb
    · cases hc
  case unOp uop t x =>
    obtain ⟨y, hy, rfl⟩ := Option.map_eq_some_iff.1 hc
    refine okVal (s := Op.unary uop (a.eval x)) hr fun v hv => ?_
    obtain ⟨r, h1, h2⟩ := un_ok (opd_ok hs hy) hv
    exact ⟨r, by rw [h1]; rfl, h2⟩
  case convert src dst' x =>
    split at hc
    · rename_i k0 k x' hu1 hu2 hx'
      cases hc
      have hx := opd_ok hs hx'
      show OutOk P φ w st.h ((do pure (Next.value (← Go.convert src dst' (a.eval x))) : Sem Next).run P w) (vop st nm (.conv (.int k) x'))
      simp only [vop]
      revert hx
      generalize x'.eval st = xv
      generalize a.eval x = xu
      intro hx
      cases hx <;> try trivial
      rename_i k' n
      exact leaves_val hr (by simp [Go.convert, Conv.intToInt, run_underlying hu1, run_underlying hu2]) (.int k _)
    · rename_i x' hu1 hu2 hx'
      cases hc
      have hx := opd_ok hs hx'
      show OutOk P φ w st.h ((do pure (Next.value (← Go.convert src dst' (a.eval x))) : Sem Next).run P w) (vop st nm (.conv .same x'))
      simp only [vop]
      revert hx
      generalize x'.eval st = xv
      generalize a.eval x = xu
      intro hx
      cases hx <;> try trivial
      exact leaves_val hr (by simp [Go.convert, run_underlying hu1, run_underlying hu2]) (.str _)
    · rename_i e x' hu1 hu2 hx'
      split at hc
      · rename_i hu3
        cases hc
        have hx := opd_ok hs hx'
        show OutOk P φ w st.h ((do pure (Next.value (← Go.convert src dst' (a.eval x))) : Sem Next).run P w) (vop st nm (.conv .text x'))
        simp only [vop]
        revert hx
        generalize x'.eval st = xv
        intro hx
        cases xv <;> first
          | trivial
          | exact text_ok hr hu1 hu2 hu3 hx (by simp)
      · cases hc
    · rename_i e0 e x' hu1 hu2 hx'
      split at hc
      · rename_i hu3
        split at hc
        · rename_i hsd
          cases hc
          have hx := opd_ok hs hx'
          show OutOk P φ w st.h ((do pure (Next.value (← Go.convert src dst' (a.eval x))) : Sem Next).run P w) (vop st nm (.conv .mark x'))
          simp only [vop]
          revert hx
          generalize x'.eval st = xv
          generalize a.eval x = xu
          intro hx
          cases xv <;> first
            | trivial
            | skip
          rename_i b off len cap sz
          show OutOk P φ w st.h _ (if 0 < cap then (match st.h.get b with | some (.cells ..) => Out.val (.sl b off len cap sz) st.h | _ => .fail) else .fail)
          by_cases hcap : 0 < cap
          · rw [if_pos hcap]
            split
            · rename_i l e1 ver hg
              cases hx with
              | sl hb hc hl hsh hr' =>
                rename_i B o c n e2
                obtain ⟨m1, m2⟩ := mark_hr hr hg hb hsh
                refine ⟨φ, .value _, _, by simp [Go.convert, run_underlying hu1, run_underlying hu2, run_underlying hu3, hsd, markStringish, hsh]; rfl, .inl ⟨_, rfl, ?_⟩, m1, m2⟩
                exact (VR.sl hb hc hl hsh hr').upd m2.toUpd
              | sl0 a => omega
            · trivial
          · rw [if_neg hcap]; trivial
        · cases hc
      · cases hc
    · cases hc
  case makeFunc fn first caps =>
    cases fn <;> simp only at hc <;> try (cases hc; done)
    rename_i f
    split at hc
    · rename_i hf
      subst hf
      obtain ⟨q, hq, rfl⟩ := Option.map_eq_some_iff.1 hc
      refine leaves_val (s := Instr.makeFunc (.func f) (#[].map a.eval) (caps.map a.eval)) (u := .func (.func f) #[] (caps.map a.eval)) hr (by simp [Instr.makeFunc]) ?_
      exact .fn (vs := caps.map a.eval) (by simpa using opds_ok hs hq)
    · cases hc
  case makeMap t r =>
    cases r <;> simp only at hc <;> cases hc
    exact op_mkmap hr hn t
  case makeSlice t l c =>
    split at hc
    · rename_i e ht
      split at hc
      · rename_i z l' c' hz hl' hc'
        split at hc
        · rename_i hpos
          cases hc
          have hl := opd_ok hs hl'
          have hcc := opd_ok hs hc'
          show OutOk P φ w st.h ((do pure (Next.value (← Instr.makeSlice t (a.eval l) (a.eval c))) : Sem Next).run P w) (vop st nm (.mkslice z e (P.bytesOf e) l' c'))
          simp only [vop]
          revert hl hcc
          generalize l'.eval st = lv
          generalize c'.eval st = cv
          intro hl hcc
          split
          · rename_i n m
            split
            · rename_i hcond
              exact op_mkslice hr hn ht hz hpos hl hcc hcond
            · trivial
          · trivial
        · cases hc
      · cases hc
    · cases hc
  case slice t x lo hi mx =>
    split at hc
    · rename_i x' lo' hi' mx' h1 h2 h3 h4
      have hx := opd_ok hs h1
      have g1 := opto_ok hs h2
      have g2 := opto_ok hs h3
      have g3 := opto_ok hs h4
      split at hc <;> try (cases hc; done)
      · rename_i n e ht
        split at hc
        · rename_i he
          cases hc
          exact okO fun v hv => op_slice_arr hr ht he hx g1 g2 g3 hv
        · cases hc
      · rename_i e ht
        split at hc
        · rename_i he
          cases hc
          exact okO fun v hv => op_slice_slice hr ht he hx g1 g2 g3 hv
        · cases hc
      · rename_i ht
        split at hc
        · rename_i hm
          cases hc
          cases mx' with
          | some _ => cases hm
          | none =>
            cases mx with
            | some _ => exact g3.elim
            | none => exact okO fun v hv => op_sliceS hr ht hx g1 g2 hv
        · cases hc
    · cases hc
  case fieldAddr s x i =>
    split at hc
    · rename_i fs x' ht hx'
      split at hc
      · rename_i f hf
        split at hc
        · rename_i hcond
          cases hc
          have hx := opd_ok hs hx'
          show OutOk P φ w st.h ((do pure (Next.value (← Instr.fieldAt s (a.eval x) i)) : Sem Next).run P w) (vop st nm (.faddr f.offset x'))
          simp only [vop]
          revert hx
          generalize x'.eval st = xv
          intro hx
          cases xv <;> try trivial
          · exact (okO (x := some _) fun v hv => op_faddr hr ht hf hcond.1 hcond.2 hx hv : OutOk P φ w st.h _ (valO st.h (some _)))
          · exact (okO (x := some _) fun v hv => op_faddr hr ht hf hcond.1 hcond.2 hx hv : OutOk P φ w st.h _ (valO st.h (some _)))
        · cases hc
      · cases hc
    · cases hc
  case field s x i =>
    split at hc
    · rename_i fs x' ht hx'
      split at hc
      · rename_i f hf
        split at hc
        · rename_i hcond
          cases hc
          have hx := opd_ok hs hx'
          show OutOk P φ w st.h ((do pure (Next.value (← Instr.field s (a.eval x) i)) : Sem Next).run P w) (match x'.eval st with
            | .agg l => valO st.h (part (isAggB P f.type) l f.offset (P.cellsOf f.type))
            | _ => .fail)
          revert hx
          generalize x'.eval st = xv
          intro hx
          cases xv <;> try trivial
          exact okO fun v hv => op_field hr ht hf hcond hx hv
        · cases hc
      · cases hc
    · cases hc
  case indexAddr t x i =>
    split at hc
    · rename_i n e x' i' ht hx' hi'
      split at hc
      · rename_i he
        cases hc
        have hx := opd_ok hs hx'
        have hi := opd_ok hs hi'
        show OutOk P φ w st.h ((do pure (Next.value (← Instr.indexAt t (a.eval x) (a.eval i))) : Sem Next).run P w) (vop st nm (.iaddr (P.cellsOf e) (some n) x' i'))
        simp only [vop]
        revert hi
        generalize i'.eval st = iv
        intro hi
        cases iv <;> try trivial
        rename_i k j
        simp only
        revert hx
        generalize x'.eval st = xv
        intro hx
        cases xv <;> try trivial
        simp only
        split
        · rename_i hcond
          exact op_iaddr_arr hr ht he hx hi (by simp only; rw [if_pos hcond])
        · trivial
      · cases hc
    · rename_i e x' i' ht hx' hi'
      split at hc
      · rename_i he
        cases hc
        have hx := opd_ok hs hx'
        have hi := opd_ok hs hi'
        show OutOk P φ w st.h ((do pure (Next.value (← Instr.indexAt t (a.eval x) (a.eval i))) : Sem Next).run P w) (vop st nm (.iaddr (P.cellsOf e) none x' i'))
        simp only [vop]
        revert hi
        generalize i'.eval st = iv
        intro hi
        cases iv <;> try trivial
        rename_i k j
        simp only
        revert hx
        generalize x'.eval st = xv
        intro hx
        cases xv <;> try trivial
        · simp only
          split
          · rename_i hcond
            exact op_iaddr_slice hr ht he hx hi (by simp only; rw [if_pos hcond])
          · trivial
        · simp only
          split
          · rename_i hcond
            exact op_iaddr_slice hr ht he hx hi (by simp only; rw [if_pos hcond])
          · trivial
      · cases hc
    · cases hc
  case index t x i =>
    split at hc
    · rename_i n e x' i' ht hx' hi'
      split at hc
      · rename_i he
        cases hc
        have hx := opd_ok hs hx'
        have hi := opd_ok hs hi'
        show OutOk P φ w st.h ((do pure (Next.value (← Instr.index t (a.eval x) (a.eval i))) : Sem Next).run P w) (vop st nm (.index (isAggB P e) (P.cellsOf e) n x' i'))
        simp only [vop]
        revert hi
        generalize i'.eval st = iv
        intro hi
        cases iv <;> try trivial
        rename_i k j
        simp only
        revert hx
        generalize x'.eval st = xv
        intro hx
        cases xv <;> try trivial
        simp only
        split
        · rename_i hcond
          exact okO fun v hv => op_index_arr hr ht he hx hi hcond hv
        · trivial
      · cases hc
    · rename_i x' i' ht hx' hi'
      cases hc
      have hx := opd_ok hs hx'
      have hi := opd_ok hs hi'
      show OutOk P φ w st.h ((do pure (Next.value (← Instr.index t (a.eval x) (a.eval i))) : Sem Next).run P w) (vop st nm (.indexS x' i'))
      simp only [vop]
      revert hi
      generalize i'.eval st = iv
      intro hi
      cases iv <;> try trivial
      rename_i k j
      simp only
      revert hx
      generalize x'.eval st = xv
      intro hx
      cases xv <;> try trivial
      simp only
      split
      · rename_i hcond
        exact okO fun v hv => op_index_str hr ht hx hi hcond hv
      · trivial
    · cases hc
  case lookup t x i ok =>
    split at hc
    · rename_i kt e x' i' ht hx' hi'
      split at hc
      · rename_i c z hk hz
        obtain ⟨zv, hzv, rfl⟩ := Option.map_eq_some_iff.1 hc
        have hx := opd_ok hs hx'
        have hi := opd_ok hs hi'
        show OutOk P φ w st.h ((do pure (Next.value (← Instr.lookup t (a.eval x) (a.eval i) ok)) : Sem Next).run P w) (vop st nm (.lookup c zv ok x' i'))
        simp only [vop]
        revert hx
        generalize x'.eval st = xv
        intro hx
        cases xv <;> try trivial
        · rename_i b
          simp only
          cases hg : st.h.get b with
          | none => trivial
          | some o =>
            cases o <;> try trivial
            rename_i es ver
            simp only
            cases hf : findE c (i'.eval st) es with
            | none => trivial
            | some r => exact op_lookup hr ht hk hz hzv hx hi (by simp only [hg]; exact hf) ok
        · exact op_lookup hr ht hk hz hzv hx hi (r := none) rfl ok
      · cases hc
    · cases hc
  case extract x i =>
    obtain ⟨y, hy, rfl⟩ := Option.map_eq_some_iff.1 hc
    have hx := opd_ok hs hy
    show OutOk P φ w st.h ((do pure (Next.value (← Instr.extract (a.eval x) i)) : Sem Next).run P w) (match y.eval st with
      | .tup l => valO st.h l[i]?
      | _ => .fail)
    revert hx
    generalize y.eval st = xv
    intro hx
    cases xv <;> try trivial
    exact okO fun v hv => op_extract hr hx hv
  case call c => exact ccall_ok hs hr hc nm type
  case mapUpdate t m k v =>
    split at hc
    · rename_i kt e m' k' v' ht hm' hk' hv'
      obtain ⟨c, hkc, rfl⟩ := Option.map_eq_some_iff.1 hc
      exact mupd_ok hr ht hkc (opd_ok hs hm') (opd_ok hs hk') (opd_ok hs hv') nm
    · cases hc
  case insert t m k v =>
    split at hc
    · rename_i kt e m' k' v' ht hm' hk' hv'
      obtain ⟨c, hkc, rfl⟩ := Option.map_eq_some_iff.1 hc
      exact mupd_ok hr ht hkc (opd_ok hs hm') (opd_ok hs hk') (opd_ok hs hv') nm
    · cases hc

end
end Go.Proofs.Ytinonmcnofjeeaa.VM
