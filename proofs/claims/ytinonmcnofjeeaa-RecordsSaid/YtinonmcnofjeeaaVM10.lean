/- The small machine's operations stand for the program's: copies, texts, function values, lengths, maps. -/
import Derived.Test.YtinonmcnofjeeaaVM9
import Derived.MapKept
namespace Go.Proofs.Ytinonmcnofjeeaa.VM
set_option linter.unusedSimpArgs false
set_option linter.unusedVariables false
set_option linter.defProp false
set_option maxHeartbeats 1000000
open Go.RowKit

section
variable {P : Program} {φ : Env} {w : World} {H : Heap}

theorem copy_run {t e : TypeId} {ts : Array TypeId} (h0 : ts[0]? = some t) (ht : P.underlying t = some (.slice e)) (he : has P e = true) (ty : TypeId) {base : Option Addr} {dLen dCap n : Nat} {xu : Value} {new : List Value}
    (hlen : (Builtin.lenOf xu).run P w = .ok n w) (hg : (Builtin.firstCells (P.cellsOf e) (min n dLen) xu).run P w = .ok new.toArray w) {w' : World}
    (hst : (match base with | some a => storeCells a new | none => pure ()).run P w = .ok () w') :
    (Builtin.copy_ ts ty #[.slice base dLen dCap, xu]).run P w = .ok (.int .i64 (min n dLen : Nat)) w' := by
  have hmin : Nat.min n dLen = min n dLen := rfl
  cases base with
  | none =>
    simp at hst
    subst hst
    simp [Builtin.copy_, h0, run_underlying ht, hlen, run_size he, hmin, hg, goInt]
  | some a =>
    simp only at hst
    simp [Builtin.copy_, h0, run_underlying ht, hlen, run_size he, hmin, hg, hst, goInt]

theorem op_copy (hr : HR φ w H) {t e : TypeId} {ts : Array TypeId} (h0 : ts[0]? = some t) (ht : P.underlying t = some (.slice e)) (he : has P e = true) {d x v : AV} {du xu : Value} (hd : VR φ w d du) (hx : VR φ w x xu) {H' : Heap}
    (h : copyV H (P.cellsOf e) d x = some (v, H')) (ty : TypeId) :
    Leaves φ w H ((do pure (Next.value (← Builtin.copy_ ts ty #[du, xu])) : Sem Next).run P w) v H' := by
  unfold copyV at h
  split at h
  · rename_i n m hn hm
    split at h
    · cases h
    · rename_i new hnew
      split at h
      · rename_i hlen
        have hlen1 := lenV_ok (P := P) hx hn
        obtain ⟨us, g1, g2⟩ := cellsOf_ok (P := P) hr hx hnew
        split at h
        · cases h
          cases hd
          have hm0 : m = 0 := by simpa [lenV] using hm.symm
          subst hm0
          have := copy_run (base := none) (dCap := 0) h0 ht he ty hlen1 g2 (w' := w) rfl
          refine leaves_val hr (u := .int .i64 0) ?_ (.int _ _)
          rw [this]
          simp
        · rename_i b off len cap sz
          split at h
          · rename_i H1 hw
            cases h
            obtain ⟨l0, t0, ver, hg, hwle, hone, _⟩ := writeAt_spec hw
            obtain ⟨B, o, e', m', q1, q2, q3, q4, q5⟩ := hr.cells hg
            obtain ⟨w1, w2, w3⟩ := hr_write hr q1 hw g1
            have hm' : m = len := by simpa [lenV] using hm.symm
            subst hm'
            cases hd with
            | sl hb hc hl hsh hr' =>
              rename_i c0 n0 e0
              rw [q1] at hb
              cases hb
              have hst0 := run_storeCells_cells (P := P) B (o + off) us 0 w (fun j hj => by simpa using w2 j hj) (fun j hj => by simpa using w3 j hj) (g1.one hone)
              have := copy_run (base := some ⟨B, o + off, none⟩) (dCap := c0) h0 ht he ty hlen1 g2 (w' := w.setCells B (o + off) us) (by simpa using hst0)
              exact ⟨φ, .value _, _, by rw [Sem.run_bind, this, Result.andThen_ok, Sem.run_pure], .inl ⟨_, rfl, .int _ _⟩, w1, updH_write q1 hw⟩
            | sl0 a =>
              have hus : us = [] := List.eq_nil_of_length_eq_zero (by rw [← g1.length, hlen]; simp)
              subst hus
              have := copy_run (base := some a) (dCap := 0) h0 ht he ty hlen1 g2 (w' := w) rfl
              exact ⟨φ, .value (.int .i64 (min n 0 : Nat)), w, by rw [Sem.run_bind, this, Result.andThen_ok, Sem.run_pure], .inl ⟨_, rfl, .int _ _⟩, w1, by obtain ⟨l, t, ver, hg2, _, _, rfl⟩ := writeAt_spec hw; exact updH_put q1 (by rw [hg2]; rfl) (Upd.refl _ _) (fun _ _ _ => rfl) _⟩
          · cases h
        · cases h
      · cases h
  · cases h

/-- bytes to a text -/
theorem bytes_ok : ∀ {l : List AV} {bs : List Nat} {us : List Value}, l.mapM AV.byte = some bs → VRs φ w l us → ∃ xs : List Int, us = xs.map (Value.int .u8) ∧ xs.map (fun n => (UInt8.ofNat n.toNat).toNat) = bs
  | [], bs, _, h, .nil => by simp at h; subst h; exact ⟨[], rfl, rfl⟩
  | x :: l, bs, _, h, .cons (u := u) (vs := us) hx t => by
    simp only [List.mapM_cons, Option.bind_eq_bind, Option.bind_eq_some_iff, Option.pure_def, Option.some.injEq] at h
    obtain ⟨b, hb, bs', hbs, rfl⟩ := h
    obtain ⟨xs, rfl, h2⟩ := bytes_ok hbs t
    cases hx <;> simp only [AV.byte] at hb <;> try (cases hb; done)
    rename_i k c
    cases k <;> simp only [AV.byte] at hb <;> try (cases hb; done)
    split at hb
    · rename_i hc
      cases hb
      refine ⟨c :: xs, rfl, ?_⟩
      simp only [List.map_cons, h2]
      congr 1
      rw [UInt8.toNat_ofNat']
      omega
    · cases hb

theorem op_text (hr : HR φ w H) {src dst e : TypeId} (hs : P.underlying src = some (.slice e)) (hd : P.underlying dst = some .string) (he : P.underlying e = some (.int .u8)) {x : AV} {u : Value} (hx : VR φ w x u)
    {n : Nat} (hn : lenV x = some n) {cs : List AV} (hcs : cellsOf H 1 n x = some cs) {bs : List Nat} (hb : cs.mapM AV.byte = some bs) (hns : ∀ s, x ≠ .str s) :
    Leaves φ w H ((do pure (Next.value (← Go.convert src dst u)) : Sem Next).run P w) (.str bs) H := by
  have fin : ∀ xs : List Int, xs.map (fun n => (UInt8.ofNat n.toNat).toNat) = bs → VR φ w (.str bs) (.string (strOfNums xs)) := by
    intro xs hxs
    have := VR.str (φ := φ) (w := w) (strOfNums xs)
    rw [strOfNums_data, List.map_map] at this
    rw [← hxs]
    exact this
  have empty : bs = [] → VR φ w (.str bs) (.string ByteArray.empty) := by
    rintro rfl
    exact VR.str ByteArray.empty
  have mem : ∀ {B off : Nat}, VRm φ w cs B off → ∃ xs : List Int, xs.length = cs.length ∧ xs.map (fun n => (UInt8.ofNat n.toNat).toNat) = bs ∧ ∀ i, i < cs.length → w.cell? ⟨B, off + i, none⟩ = some (.int .u8 (xs.getD i 0)) := by
    intro B off hm
    obtain ⟨us, g1, g2⟩ := hm.vals
    obtain ⟨xs, rfl, h2⟩ := bytes_ok hb g1
    have hl := g1.length
    rw [List.length_map] at hl
    refine ⟨xs, hl.symm, h2, fun i hi => g2 i _ ?_⟩
    rw [List.getElem?_map, List.getElem?_eq_getElem (by omega), Option.map_some, List.getD_eq_getElem?_getD, List.getElem?_eq_getElem (by omega)]
    rfl
  cases hx <;> simp only [lenV] at hn <;> try (cases hn; done)
  case str s => exact absurd rfl (hns _)
  case sl b off len cap sz B o c n' ty hb' hc hl hsh hr' =>
    cases hn
    simp only [cellsOf, Nat.le_refl, if_true] at hcs
    split at hcs
    · rename_i l0 e0 ver hg
      obtain ⟨e1, e2⟩ := cut_spec hcs
      obtain ⟨B', o', e', m, q1, q2, q3, q4, q5⟩ := hr.cells hg
      rw [hb'] at q1
      cases q1
      have hm := (q3.drop off).take (n * 1)
      rw [← e1] at hm
      obtain ⟨xs, x1, x2, x3⟩ := mem hm
      exact leaves_val hr (run_convert_bytes_arg w src e hs he B (o + off) n c xs (by omega) (fun i hi => x3 i (by omega)) dst hd) (fin xs x2)
    · cases hcs
  case sl0 b off sz a =>
    cases hn
    have hcs0 : cs = [] := by
      simp only [cellsOf, Nat.le_refl, if_true] at hcs
      split at hcs
      · have := (cut_spec hcs).2
        exact List.eq_nil_of_length_eq_zero (by simpa using this)
      · cases hcs
    subst hcs0
    have hb0 : bs = [] := by simpa using hb.symm
    obtain ⟨B, off', spot⟩ := a
    refine leaves_val hr (u := .string ByteArray.empty) ?_ (empty hb0)
    simp [Go.convert, run_underlying hs, run_underlying hd, run_underlying he, Conv.bytesToString, loadCells, loadCellsFrom]
  case nils =>
    cases hn
    have hcs0 : cs = [] := by simpa [cellsOf] using hcs.symm
    subst hcs0
    have hb0 : bs = [] := by simpa using hb.symm
    exact leaves_val hr (run_convert_bytes_nil w src e hs he 0 0 dst hd) (empty hb0)
  case rs0 a c =>
    cases hn
    have hcs0 : cs = [] := by
      simp only [cellsOf] at hcs
      obtain ⟨e1, e2⟩ := cut_spec hcs
      simpa using e1
    subst hcs0
    have hb0 : bs = [] := by simpa using hb.symm
    obtain ⟨B, off', spot⟩ := a
    refine leaves_val hr (u := .string ByteArray.empty) ?_ (empty hb0)
    simp [Go.convert, run_underlying hs, run_underlying hd, run_underlying he, Conv.bytesToString, loadCells, loadCellsFrom]
  case rs cl len B off c hl hB hlt hm =>
    cases hn
    obtain ⟨e1, e2⟩ := cut_spec hcs
    have hm' := hm.take (n * 1)
    rw [List.drop_zero] at e1
    rw [← e1] at hm'
    obtain ⟨xs, x1, x2, x3⟩ := mem hm'
    exact leaves_val hr (run_convert_bytes_arg w src e hs he B off n c xs (by omega) (fun i hi => x3 i (by omega)) dst hd) (fin xs x2)

def lenO (H : Heap) (k : Nat) (x : AV) : Out := match k, x with
  | 0, .str s => .val (.int .i64 s.length) H
  | 1, .sl _ _ n _ _ => .val (.int .i64 n) H
  | 1, .nils => .val (.int .i64 0) H
  | 1, .rs _ n => .val (.int .i64 n) H
  | 2, .map b => (match H.get b with | some (.map es _) => .val (.int .i64 es.length) H | _ => .fail)
  | 2, .nilm => .val (.int .i64 0) H
  | _, _ => .fail

theorem op_len (hr : HR φ w H) {t : TypeId} {ts : Array TypeId} (h0 : ts[0]? = some t) {x v : AV} {u : Value} (hx : VR φ w x u) (ty : TypeId) {k : Nat} {H' : Heap} (h : lenO H k x = .val v H')
    (ht : (k = 0 ∧ P.underlying t = some .string) ∨ (k = 1 ∧ ∃ e, P.underlying t = some (.slice e)) ∨ (k = 2 ∧ ∃ a b, P.underlying t = some (.map a b))) :
    Leaves φ w H ((do pure (Next.value (← Builtin.len_ ts ty #[u])) : Sem Next).run P w) v H' := by
  rcases ht with ⟨rfl, ht⟩ | ⟨rfl, e, ht⟩ | ⟨rfl, a, b, ht⟩
  · cases hx <;> simp only [lenO] at h <;> try (cases h; done)
    case str s =>
      cases h
      refine leaves_val hr (u := .int .i64 s.size) (by simp [Builtin.len_, h0, run_underlying ht, goInt]) ?_
      rw [show ((List.map (fun c : UInt8 => c.toNat) s.data.toList).length) = s.size from tx_length s]
      exact .int _ _
  · cases hx <;> simp only [lenO] at h <;> first
      | (cases h; done)
      | (cases h; exact leaves_val hr (by simp [Builtin.len_, h0, run_underlying ht, goInt]) (.int _ _))
      | (cases h; exact leaves_val hr (u := .int .i64 0) (by simp [Builtin.len_, h0, run_underlying ht, goInt]) (.int _ _))
  · cases hx <;> simp only [lenO] at h <;> try (cases h; done)
    case map b' B o hb =>
      split at h
      · rename_i es ver hg
        cases h
        have := hr.blk b'
        rw [hg] at this
        obtain ⟨B, o, vs, clock, g1, g2, g3, g4⟩ := this
        rw [hb] at g1
        cases g1
        have hl := g3.length
        refine leaves_val hr (u := .int .i64 vs.size) ?_ ?_
        · simp [Builtin.len_, h0, run_underlying ht, Go.MapKept.run_getObj_map g2, goInt]
        · rw [show es.length = vs.size by simpa using hl]
          exact .int _ _
      · cases h
    case nilm =>
      cases h
      exact leaves_val hr (by simp [Builtin.len_, h0, run_underlying ht, goInt]) (.int _ _)

theorem op_mkmap (hr : HR φ w H) {nm : Nat} (hn : H.get nm = none) (t : TypeId) : Leaves φ w H ((do pure (Next.value (← Instr.makeMap t none)) : Sem Next).run P w) (.map nm) (H.mk' nm (.map [] 0)) := by
  have hφ : φ nm = none := by have := hr.blk nm; rw [hn] at this; exact this
  refine ⟨φ.at nm (w.heap.size, 0), .value (.map (some w.heap.size)), w.alloc (.map #[] 0), by simp [Instr.makeMap], .inl ⟨_, rfl, .map (o := 0) (at_self _ _)⟩, hr_alloc hr hn ?_, updH_alloc hr hn _ _⟩
  exact ⟨w.heap.size, 0, #[], 0, at_self _ _, heap_alloc_new _ _, .nil, .nil⟩

end
open Go.RowKit

section
variable {P : Program} {φ : Env} {w : World} {H : Heap}

theorem HR.map (hr : HR φ w H) {b : Nat} {es : List (AV × AV)} {ver : Nat} (h : H.get b = some (.map es ver)) :
    ∃ B o vs clock, φ b = some (B, o) ∧ w.heap[B]? = some (.map vs clock) ∧ VRs φ w (es.map (·.1)) (vs.toList.map (·.key)) ∧ VRs φ w (es.map (·.2)) (vs.toList.map (·.val)) := by
  have := hr.blk b
  rw [h] at this
  exact this

theorem map_write (hr : HR φ w H) {b : Nat} {es : List (AV × AV)} {ver : Nat} (hg : H.get b = some (.map es ver)) {B o : Nat} (hb : φ b = some (B, o)) {vs : Array MapEntry} {clock : Nat} (hh : w.heap[B]? = some (.map vs clock))
    {es' : List (AV × AV)} (ver' : Nat) {vs' : Array MapEntry} (clock' : Nat) (hk : VRs φ w (es'.map (·.1)) (vs'.toList.map (·.key))) (hv : VRs φ w (es'.map (·.2)) (vs'.toList.map (·.val))) :
    HR φ { w with heap := w.heap.setIfInBounds B (.map vs' clock') } (H.put b (.map es' ver')) ∧ UpdH φ w H φ { w with heap := w.heap.setIfInBounds B (.map vs' clock') } (H.put b (.map es' ver')) := by
  obtain ⟨s1, s2⟩ := Go.MapKept.heap_set (o' := .map vs' clock') hh
  have u : Upd φ w φ { w with heap := w.heap.setIfInBounds B (.map vs' clock') } := by
    refine ⟨rfl, rfl, rfl, by simp, fun _ _ h => h, fun _ _ _ h => .inl ⟨_, _, h⟩, fun B' _ hn => s2 B' (fun e => hn _ _ hb e.symm), fun B' x hx => ?_⟩
    by_cases e : B' = B
    · subst e
      simp [World.shape?, hh] at hx
    · simpa only [World.shape?, s2 B' e] using hx
  refine ⟨⟨fun c => ?_, fun c p hc => ?_, fun c c' p p' hl hl' hp hp' he => ?_, fun c hc => ?_⟩, updH_put hb (by rw [hg]; rfl) u (fun B' _ hne => s2 B' hne) _⟩
  · rw [Heap.get_put]
    by_cases e : c = b
    · rw [if_pos e, e]
      exact ⟨B, o, vs', clock', hb, s1, hk.upd u, hv.upd u⟩
    · rw [if_neg e]
      by_cases hl : live (H.get c) = true
      · refine BR.upd hr u hl fun p hp => s2 p.1 fun eB => ?_
        exact e (hr.inj c b p (B, o) hl (by rw [hg]; rfl) hp hb eB)
      · rcases not_live hl with h | h
        · have := hr.blk c
          rw [h] at this ⊢
          exact this
        · rw [h]; trivial
  · have := hr.lt c p hc
    simpa using this
  · refine hr.inj c c' p p' ?_ ?_ hp hp' he
    · rw [Heap.get_put] at hl
      by_cases e : c = b
      · rw [e, hg]; rfl
      · rwa [if_neg e] at hl
    · rw [Heap.get_put] at hl'
      by_cases e : c' = b
      · rw [e, hg]; rfl
      · rwa [if_neg e] at hl'
  · rw [Heap.get_put]
    have hn : H.get c = none := hr.next c hc
    by_cases e : c = b
    · rw [e, hg] at hn; cases hn
    · rw [if_neg e]; exact hn

theorem sameK_now {kt : TypeId} {c : EqC} (hk : keyC P kt = some c) : ∃ d, P.underlying kt = some d ∧ (∀ {x y : AV} {u v : Value} {r : Bool}, VR φ w x u → VR φ w y v → sameK c x y = some r → Instr.sameNow d u v = some r ∧ (r = true → Go.Instr.sameBits 10000 v u = true)) := by
  unfold keyC at hk
  split at hk
  · rename_i k0 ht
    cases hk
    refine ⟨_, ht, fun {x y u v r} hx hy h => ?_⟩
    cases hx <;> cases hy <;> simp only [sameK] at h <;> try (cases h; done)
    rename_i k n k' m
    split at h
    · rename_i ek
      subst ek
      cases h
      constructor
      · simp only [Instr.sameNow, if_true]; congr 1
      · intro hd
        simp only [decide_eq_true_eq] at hd
        subst hd
        simp [Instr.sameBits]
    · cases h
  · rename_i ht
    cases hk
    refine ⟨_, ht, fun {x y u v r} hx hy h => ?_⟩
    cases hx <;> cases hy <;> simp only [sameK] at h <;> try (cases h; done)
    rename_i a c
    cases h
    refine ⟨rfl, fun hd => ?_⟩
    simp only [beq_iff_eq] at hd
    subst hd
    simp [Instr.sameBits]
  · rename_i ht
    cases hk
    refine ⟨_, ht, fun {x y u v r} hx hy h => ?_⟩
    cases hx <;> cases hy <;> simp only [sameK] at h <;> try (cases h; done)
    rename_i a c
    cases h
    have e : (a == c) = (List.map (fun c : UInt8 => c.toNat) a.data.toList == List.map (fun c : UInt8 => c.toNat) c.data.toList) := by
      rw [Bool.eq_iff_iff, Go.MapKept.bytes_beq, beq_iff_eq, tx_inj]
      constructor
      · rintro rfl; rfl
      · intro h
        obtain ⟨⟨a⟩⟩ := a
        obtain ⟨⟨c⟩⟩ := c
        simp only at h
        rw [h]
    constructor
    · simp only [Instr.sameNow]
      rw [e]
    · intro hd
      rw [← e, Go.MapKept.bytes_beq] at hd
      subst hd
      simp only [Instr.sameBits]
      exact (Go.MapKept.bytes_beq _ _).2 rfl
  · cases hk

/-- what the search finds -/
theorem find_ok {d : TypeDesc} {c : EqC} (hd : ∀ {x y : AV} {u v : Value} {r : Bool}, VR φ w x u → VR φ w y v → sameK c x y = some r → Instr.sameNow d u v = some r ∧ (r = true → Go.Instr.sameBits 10000 v u = true))
    {k : AV} {u : Value} (hk : VR φ w k u) : ∀ {es : List (AV × AV)} {vs : List MapEntry} (i : Nat) {r : Option AV}, VRs φ w (es.map (·.1)) (vs.map (·.key)) → VRs φ w (es.map (·.2)) (vs.map (·.val)) → findE c k es = some r →
    (r = none ∧ Instr.findNow d u vs i = some none ∧ (∀ v, updE c k v es = es ++ [(k, v)]) ∧ delE c k es = es) ∨
    (∃ j e x, r = some x ∧ Instr.findNow d u vs i = some (some (i + j, e.val)) ∧ vs[j]? = some e ∧ VR φ w x e.val ∧ Go.Instr.sameBits 10000 e.key u = true ∧ (∀ v, updE c k v es = es.set j (k, v)) ∧ delE c k es = es.eraseIdx j)
  | [], [], i, r, _, _, h => by
    cases h
    exact .inl ⟨rfl, rfl, fun _ => rfl, rfl⟩
  | e :: es, e' :: vs, i, r, hks, hvs, h => by
    cases hks with
    | cons h1 t1 =>
      cases hvs with
      | cons h2 t2 =>
        simp only [findE] at h
        split at h
        · rename_i hs
          cases h
          obtain ⟨a1, a2⟩ := hd hk h1 hs
          exact .inr ⟨0, e', e.2, rfl, by simp [Instr.findNow, a1], rfl, h2, a2 rfl, fun v => by simp [updE, hs], by simp [delE, hs]⟩
        · rename_i hs
          obtain ⟨a1, a2⟩ := hd hk h1 hs
          rcases find_ok hd hk (i + 1) t1 t2 h with ⟨b1, b2, b3, b4⟩ | ⟨j, e2, x, b1, b2, b3, b4, b5, b6, b7⟩
          · exact .inl ⟨b1, by simp [Instr.findNow, a1, b2], fun v => by simp [updE, hs, b3], by simp [delE, hs, b4]⟩
          · exact .inr ⟨j + 1, e2, x, b1, by simp [Instr.findNow, a1, b2]; omega, by simpa using b3, b4, b5, fun v => by simp [updE, hs, b6], by simp [delE, hs, b7]⟩
        · cases h
  | [], _ :: _, _, _, h, _, _ => by cases h
  | _ :: _, [], _, _, h, _, _ => by cases h

theorem key_checks {kt : TypeId} {c : EqC} (hk : keyC P kt = some c) (e : Bool) (n : Nat) (u : Value) : (Instr.checkKey e (n + 1) kt u).run P w = .ok () w := by
  unfold keyC at hk
  unfold Instr.checkKey
  split at hk
  · rename_i k0 ht
    simp [run_underlying ht]
  · rename_i ht
    simp [run_underlying ht]
  · rename_i ht
    simp [run_underlying ht]
  · cases hk

theorem VRs.set {x : AV} {u : Value} (hx : VR φ w x u) : ∀ {l : List AV} {vs : List Value}, VRs φ w l vs → ∀ (j : Nat), VRs φ w (l.set j x) (vs.set j u)
  | _, _, .nil, _ => .nil
  | _, _, .cons _ t, 0 => .cons hx t
  | _, _, .cons h t, j + 1 => .cons h (VRs.set hx t j)
theorem VRs.erase : ∀ {l : List AV} {vs : List Value}, VRs φ w l vs → ∀ (j : Nat), VRs φ w (l.eraseIdx j) (vs.eraseIdx j)
  | _, _, .nil, _ => .nil
  | _, _, .cons _ t, 0 => t
  | _, _, .cons h t, j + 1 => .cons h (VRs.erase t j)

theorem map_erase {α β : Type} (f : α → β) : ∀ (l : List α) (j : Nat), (l.eraseIdx j).map f = (l.map f).eraseIdx j
  | [], _ => rfl
  | _ :: _, 0 => rfl
  | a :: l, j + 1 => by simp [List.eraseIdx, map_erase f l j]

theorem op_lookup (hr : HR φ w H) {t kt e : TypeId} (ht : P.underlying t = some (.map kt e)) {c : EqC} (hc : keyC P kt = some c) {z : Value} (hz : (P.info? e).bind (·.zero) = some z) {zv : AV} (hzv : avOf z = some zv)
    {m k : AV} {mu ku : Value} (hm : VR φ w m mu) (hk : VR φ w k ku) {r : Option AV}
    (h : (match m with
      | .nilm => some none
      | .map b => (match H.get b with | some (.map es _) => findE c k es | _ => none)
      | _ => none) = some r) (ok : Bool) :
    Leaves φ w H ((do pure (Next.value (← Instr.lookup t mu ku ok)) : Sem Next).run P w) (if ok then .tup [r.getD zv, .bool r.isSome] else r.getD zv) H := by
  obtain ⟨d, hd, hsame⟩ := sameK_now (φ := φ) (w := w) hc
  obtain ⟨ti, h1, h2⟩ := Option.bind_eq_some_iff.1 hz
  have hz' : (zeroValue e).run P w = .ok z w := run_zero h1 h2
  have out : ∀ (v : Value) (x : AV) (b : Bool), VR φ w x v → VR φ w (if ok then .tup [x, .bool b] else x) (if ok then Value.tuple #[v, .bool b] else v) := by
    intro v x b hv
    cases ok with
    | true => exact .tup (vs := #[v, .bool b]) (.cons hv (.cons (.bool b) .nil))
    | false => exact hv
  cases hm <;> simp only at h <;> try (cases h; done)
  case map b B o hb =>
    split at h
    · rename_i es ver hg
      obtain ⟨B', o', vs, clock, g1, g2, g3, g4⟩ := hr.map hg
      rw [hb] at g1
      cases g1
      rcases find_ok hsame hk 0 g3 g4 h with ⟨b1, b2, b3, b4⟩ | ⟨j, e2, x, b1, b2, b3, b4, b5, b6, b7⟩
      · subst b1
        refine leaves_val hr ?_ (out z zv false (avOf_ok hzv))
        simp [Instr.lookup, run_underlying ht, Go.MapKept.run_getObj_map g2, key_checks hc, Go.MapKept.run_findKey hd b2, hz']
      · subst b1
        refine leaves_val hr ?_ (out e2.val x true b4)
        simp [Instr.lookup, run_underlying ht, Go.MapKept.run_getObj_map g2, key_checks hc, Go.MapKept.run_findKey hd b2]
    · cases h
  case nilm =>
    cases h
    refine leaves_val hr ?_ (out z zv false (avOf_ok hzv))
    have : Instr.findNow d ku [] 0 = some none := rfl
    simp [Instr.lookup, run_underlying ht, key_checks hc, Go.MapKept.run_findKey hd this, hz']

theorem op_mupd (hr : HR φ w H) {t kt e : TypeId} (ht : P.underlying t = some (.map kt e)) {c : EqC} (hc : keyC P kt = some c) {k v : AV} {b : Nat} {mu ku vu : Value} (hm : VR φ w (.map b) mu) (hk : VR φ w k ku) (hv : VR φ w v vu)
    {es : List (AV × AV)} {ver : Nat} (hg : H.get b = some (.map es ver)) {r : Option AV} (h : findE c k es = some r) :
    Leaves φ w H ((do Instr.mapUpdate t mu ku vu; pure Next.skip : Sem Next).run P w) .undef (H.put b (.map (updE c k v es) (ver + 1))) := by
  obtain ⟨d, hd, hsame⟩ := sameK_now (φ := φ) (w := w) hc
  cases hm with
  | map hb =>
    obtain ⟨B', o', vs, clock, g1, g2, g3, g4⟩ := hr.map hg
    rw [hb] at g1
    cases g1
    rcases find_ok hsame hk 0 g3 g4 h with ⟨b1, b2, b3, b4⟩ | ⟨j, e2, x, b1, b2, b3, b4, b5, b6, b7⟩
    · rw [b3]
      obtain ⟨x1, x2⟩ := map_write hr hg hb g2 (es' := es ++ [(k, v)]) (ver + 1) (vs' := vs.push { key := ku, val := vu, born := clock }) (clock + 1)
        (by simpa using g3.append (.cons hk .nil)) (by simpa using g4.append (.cons hv .nil))
      refine ⟨φ, .skip, _, ?_, .inr ⟨rfl, rfl⟩, x1, x2⟩
      simp [Instr.mapUpdate, run_underlying ht, Go.MapKept.run_getObj_map g2, key_checks hc, Go.MapKept.run_findKey hd b2, Go.MapKept.run_setObj_map _ g2]
    · rw [b6]
      have hj : vs[j]? = some e2 := by simpa using b3
      have hmod : (vs.modify j fun e => { e with key := ku, val := vu }).toList = vs.toList.set j { e2 with key := ku, val := vu } := by
        apply List.ext_getElem?
        intro i
        simp only [Array.getElem?_toList, Array.getElem?_modify, List.getElem?_set]
        by_cases hij : j = i
        · subst hij
          have hlt : j < vs.size := by
            rcases Nat.lt_or_ge j vs.size with h | h
            · exact h
            · rw [Array.getElem?_eq_none h] at hj; cases hj
          have hgj : vs[j] = e2 := by
            rw [Array.getElem?_eq_getElem hlt] at hj
            exact Option.some.inj hj
          simp [hgj, hlt]
        · simp [hij]
      obtain ⟨x1, x2⟩ := map_write hr hg hb g2 (es' := es.set j (k, v)) (ver + 1) (vs' := vs.modify j fun e => { e with key := ku, val := vu }) clock
        (by rw [hmod, List.map_set, List.map_set]; exact VRs.set hk g3 j) (by rw [hmod, List.map_set, List.map_set]; exact VRs.set hv g4 j)
      refine ⟨φ, .skip, _, ?_, .inr ⟨rfl, rfl⟩, x1, x2⟩
      simp [Instr.mapUpdate, run_underlying ht, Go.MapKept.run_getObj_map g2, key_checks hc, Go.MapKept.run_findKey hd b2, hj, Instr.keyThatStays, b5, Go.MapKept.run_setObj_map _ g2]

theorem op_delete (hr : HR φ w H) {t kt e : TypeId} {ts : Array TypeId} (h0 : ts[0]? = some t) (ht : P.underlying t = some (.map kt e)) {c : EqC} (hc : keyC P kt = some c) {k : AV} {b : Nat} {mu ku : Value} (hm : VR φ w (.map b) mu) (hk : VR φ w k ku)
    {es : List (AV × AV)} {ver : Nat} (hg : H.get b = some (.map es ver)) {r : Option AV} (h : findE c k es = some r) (ty : TypeId) :
    Leaves φ w H ((do pure (Next.value (← Builtin.delete_ ts ty #[mu, ku])) : Sem Next).run P w) (.tup []) (H.put b (.map (delE c k es) (ver + 1))) := by
  obtain ⟨d, hd, hsame⟩ := sameK_now (φ := φ) (w := w) hc
  cases hm with
  | map hb =>
    obtain ⟨B', o', vs, clock, g1, g2, g3, g4⟩ := hr.map hg
    rw [hb] at g1
    cases g1
    rcases find_ok hsame hk 0 g3 g4 h with ⟨b1, b2, b3, b4⟩ | ⟨j, e2, x, b1, b2, b3, b4, b5, b6, b7⟩
    · rw [b4]
      obtain ⟨x1, x2⟩ := map_write hr hg hb g2 (es' := es) (ver + 1) (vs' := vs) clock g3 g4
      refine ⟨φ, .value (.tuple #[]), _, ?_, .inl ⟨_, rfl, .tup (vs := #[]) .nil⟩, x1, x2⟩
      simp [Builtin.delete_, h0, run_underlying ht, Go.MapKept.run_getObj_map g2, key_checks hc, Go.MapKept.run_findKey hd b2, Go.MapKept.run_setObj_map _ g2]
    · rw [b7]
      have hlt : j < vs.size := by
        rcases Nat.lt_or_ge j vs.size with h | h
        · exact h
        · rw [List.getElem?_eq_none (by simpa using h)] at b3; cases b3
      have hmod : (vs.eraseIdxIfInBounds j).toList = vs.toList.eraseIdx j := by
        unfold Array.eraseIdxIfInBounds
        rw [dif_pos hlt, Array.toList_eraseIdx]
      obtain ⟨x1, x2⟩ := map_write hr hg hb g2 (es' := es.eraseIdx j) (ver + 1) (vs' := vs.eraseIdxIfInBounds j) clock
        (by rw [hmod, map_erase, map_erase]; exact g3.erase j) (by rw [hmod, map_erase, map_erase]; exact g4.erase j)
      refine ⟨φ, .value (.tuple #[]), _, ?_, .inl ⟨_, rfl, .tup (vs := #[]) .nil⟩, x1, x2⟩
      simp [Builtin.delete_, h0, run_underlying ht, Go.MapKept.run_getObj_map g2, key_checks hc, Go.MapKept.run_findKey hd b2, Go.MapKept.run_setObj_map _ g2]

theorem op_clear (hr : HR φ w H) {t kt e : TypeId} {ts : Array TypeId} (h0 : ts[0]? = some t) (ht : P.underlying t = some (.map kt e)) {b : Nat} {mu : Value} (hm : VR φ w (.map b) mu)
    {es : List (AV × AV)} {ver : Nat} (hg : H.get b = some (.map es ver)) (ty : TypeId) :
    Leaves φ w H ((do pure (Next.value (← Builtin.clear_ ts ty #[mu])) : Sem Next).run P w) (.tup []) (H.put b (.map [] (ver + 1))) := by
  cases hm with
  | map hb =>
    obtain ⟨B', o', vs, clock, g1, g2, g3, g4⟩ := hr.map hg
    rw [hb] at g1
    cases g1
    obtain ⟨x1, x2⟩ := map_write hr hg hb g2 (es' := []) (ver + 1) (vs' := #[]) clock .nil .nil
    refine ⟨φ, .value (.tuple #[]), _, ?_, .inl ⟨_, rfl, .tup (vs := #[]) .nil⟩, x1, x2⟩
    simp [Builtin.clear_, h0, run_underlying ht, Go.MapKept.run_getObj_map g2, Go.MapKept.run_setObj_map _ g2]
theorem op_clear_nil (hr : HR φ w H) {t kt e : TypeId} {ts : Array TypeId} (h0 : ts[0]? = some t) (ht : P.underlying t = some (.map kt e)) {mu : Value} (hm : VR φ w .nilm mu) (ty : TypeId) :
    Leaves φ w H ((do pure (Next.value (← Builtin.clear_ ts ty #[mu])) : Sem Next).run P w) (.tup []) H := by
  cases hm
  exact leaves_val hr (u := .tuple #[]) (by simp [Builtin.clear_, h0, run_underlying ht]) (.tup (vs := #[]) .nil)

theorem op_clear_sl (hr : HR φ w H) {t e : TypeId} {ts : Array TypeId} (h0 : ts[0]? = some t) (ht : P.underlying t = some (.slice e)) {z : List AV} (hz : zeroC P e = some z) (hpos : 0 < z.length) {b off len cap sz : Nat} (hl : len ≠ 0) {mu : Value} (hm : VR φ w (.sl b off len cap sz) mu)
    {H' : Heap} (hw : writeAt H b off (List.replicate len z).flatten = some H') (ty : TypeId) :
    Leaves φ w H ((do pure (Next.value (← Builtin.clear_ ts ty #[mu])) : Sem Next).run P w) (.tup []) H' := by
  obtain ⟨i, v, h1, h2, h3, h4, h5, h6, h7⟩ := zero_row (φ := φ) (w := w) hz hpos len
  obtain ⟨l0, t0, ver, hg, hwle, hone, _⟩ := writeAt_spec hw
  cases hm with
  | sl hb hc hl' hsh hr' =>
    rename_i c0 n0 e0 o0 B0
    obtain ⟨w1, w2, w3⟩ := hr_write hr hb hw h7
    have hst0 := run_storeCells_cells (P := P) _ _ _ 0 w (fun j hj => by simpa using w2 j hj) (fun j hj => by simpa using w3 j hj) (h7.one hone)
    rw [Nat.add_zero] at hst0
    have hzc : (Builtin.zeroCells v.cells len).toList = (List.replicate len v.cells.toList).flatten := by
      have h6' := congrArg Array.toList h6
      rw [h3, ← h4] at h6'
      simpa [Builtin.zeroCells] using h6'
    refine ⟨φ, .value (.tuple #[]), _, ?_, .inl ⟨_, rfl, .tup (vs := #[]) .nil⟩, w1, updH_write hb hw⟩
    have hzv : (zeroValue e).run P w = .ok v w := by simp [zeroValue, typeInfo, h1, h2]
    cases len with
    | zero => exact absurd rfl hl
    | succ len =>
      simp only [Builtin.clear_, h0, List.getElem?_toArray, List.getElem?_cons_zero, Sem.run_bind, run_underlying ht, Result.andThen_ok, hzv, hzc, hst0, Sem.run_pure]
  | sl0 a => exact absurd rfl hl
theorem op_clear_sl0 (hr : HR φ w H) {t e : TypeId} {ts : Array TypeId} (h0 : ts[0]? = some t) (ht : P.underlying t = some (.slice e)) {x : AV} (hx : x = .nils ∨ ∃ b off cap sz, x = .sl b off 0 cap sz) {mu : Value} (hm : VR φ w x mu) (ty : TypeId) :
    Leaves φ w H ((do pure (Next.value (← Builtin.clear_ ts ty #[mu])) : Sem Next).run P w) (.tup []) H := by
  rcases hx with rfl | ⟨b, off, cap, sz, rfl⟩ <;> cases hm
  · exact leaves_val hr (u := .tuple #[]) (by simp [Builtin.clear_, h0, run_underlying ht]) (.tup (vs := #[]) .nil)
  · exact leaves_val hr (u := .tuple #[]) (by simp [Builtin.clear_, h0, run_underlying ht]) (.tup (vs := #[]) .nil)
  · exact leaves_val hr (u := .tuple #[]) (by simp [Builtin.clear_, h0, run_underlying ht]) (.tup (vs := #[]) .nil)
end
end Go.Proofs.Ytinonmcnofjeeaa.VM
