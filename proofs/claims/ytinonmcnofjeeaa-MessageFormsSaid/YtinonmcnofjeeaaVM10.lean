/- The small machine's operations stand for the program's: copies, texts, function values, lengths, maps. -/
import Derived.Test.YtinonmcnofjeeaaVM9
import Derived.MapKept
namespace Go.Proofs.Ytinonmcnofjeeaa.VM
set_option linter.unusedSimpArgs false
set_option linter.unusedVariables false
set_option linter.defProp false
set_option maxHeartbeats 1000000
open Go.RowKit

section
variable {P : Program} {φ : Env} {w : World} {H : Heap}

theorem copy_run {t e : TypeId} {ts : Array TypeId} (h0 : ts[0]? = some t) (ht : P.underlying t = some (.slice e)) (he : has P e = true) (ty : TypeId) {base : Option Addr} {dLen dCap n : Nat} {xu : Value} {new : List Value}
    (hlen : (Builtin.lenOf xu).run P w = .ok n w) (hg : (Builtin.firstCells (P.cellsOf e) (min n dLen) xu).run P w = .ok new.toArray w) {w' : World}
    (hst : (match base with | some a => storeCells a new | none => pure ()).run P w = .ok () w') :
    (Builtin.copy_ ts ty #[.slice base dLen dCap, xu]).run P w = .ok (.int .i64 (min n dLen : Nat)) w' := by
  have hmin : Nat.min n dLen = min n dLen := rfl
  cases base with
  | none =>
    simp at hst
    subst hst
    simp [Builtin.copy_, h0, run_underlying ht, hlen, run_size he, hmin, hg, goInt]
  | some a =>
    simp only at hst
    simp [Builtin.copy_, h0, run_underlying ht, hlen, run_size he, hmin, hg, hst, goInt]

theorem op_copy (hr : HR φ w H) {t e : TypeId} {ts : Array TypeId} (h0 : ts[0]? = some t) (ht : P.underlying t = some (.slice e)) (he : has P e = true) {d x v : AV} {du xu : Value} (hd : VR φ w d du) (hx : VR φ w x xu) {H' : Heap}
    (h : copyV H (P.cellsOf e) d x = some (v, H')) (ty : TypeId) :
    Leaves φ w H ((do pure (Next.value (← Builtin.copy_ ts ty #[du, xu])) : Sem Next).run P w) v H' := by
  unfold copyV at h
  split at h
  · rename_i n m hn hm
    split at h
    · cases h
    · rename_i new hnew
      split at h
      · rename_i hlen
        have hlen1 := lenV_ok (P := P) hx hn
        obtain ⟨us, g1, g2⟩ := cellsOf_ok (P := P) hr hx hnew
        split at h
        · cases h
          cases hd
          have hm0 : m = 0 := by simpa [lenV] using hm.symm
          subst hm0
          have := copy_run (base := none) (dCap := 0) h0 ht he ty hlen1 g2 (w' := w) rfl
          refine leaves_val hr (u := .int .i64 0) ?_ (.int _ _)
          rw [this]
          simp
        · rename_i b off len cap sz
          split at h
          · rename_i H1 hw
            cases h
            obtain ⟨l0, t0, ver, hg, hwle, hone, _⟩ := writeAt_spec hw
            obtain ⟨B, o, e', m', q1, q2, q3, q4, q5⟩ := hr.cells hg
            obtain ⟨w1, w2, w3⟩ := hr_write hr q1 hw g1
            have hm' : m = len := by simpa [lenV] using hm.symm
            subst hm'
            cases hd with
            | sl hb hc hl hsh hr' =>
              rename_i c0 n0 e0
              rw [q1] at hb
              cases hb
              have hst0 := run_storeCells_cells (P := P) B (o + off) us 0 w (fun j hj => by simpa using w2 j hj) (fun j hj => by simpa using w3 j hj) (g1.one hone)
              have := copy_run (base := some ⟨B, o + off, none⟩) (dCap := c0) h0 ht he ty hlen1 g2 (w' := w.setCells B (o + off) us) (by simpa using hst0)
              exact ⟨φ, .value _, _, by rw [Sem.run_bind, this, Result.andThen_ok, Sem.run_pure], .inl ⟨_, rfl, .int _ _⟩, w1, updH_write q1 hw⟩
            | sl0 a =>
              have hus : us = [] := List.eq_nil_of_length_eq_zero (by rw [← g1.length, hlen]; simp)
              subst hus
              have := copy_run (base := some a) (dCap := 0) h0 ht he ty hlen1 g2 (w' := w) rfl
              exact ⟨φ, .value (.int .i64 (min n 0 : Nat)), w, by rw [Sem.run_bind, this, Result.andThen_ok, Sem.run_pure], .inl ⟨_, rfl, .int _ _⟩, w1, by obtain ⟨l, t, ver, hg2, _, _, rfl⟩ := writeAt_spec hw; exact updH_put q1 (by rw [hg2]; rfl) (Upd.refl _ _) (fun _ _ _ => rfl) _⟩
          · cases h
        · cases h
      · cases h
  · cases h

/-- bytes to a text -/
theorem bytes_ok : ∀ {l : List AV} {bs : List Nat} {us : List Value}, l.mapM AV.byte = some bs → VRs φ w l us → ∃ xs : List Int, us = xs.map (Value.int .u8) ∧ xs.map (fun n => (UInt8.ofNat n.toNat).toNat) = bs
  | [], bs, _, h, .nil => by simp at h; subst h; exact ⟨[], rfl, rfl⟩
  | x :: l, bs, _, h, .cons (u := u) (vs := us) hx t => by
    simp only [List.mapM_cons, Option.bind_eq_bind, Option.bind_eq_some_iff, Option.pure_def, Option.some.injEq] at h
    obtain ⟨b, hb, bs', hbs, rfl⟩ := h
    obtain ⟨xs, rfl, h2⟩ := bytes_ok hbs t
    cases hx <;> simp only [AV.byte] at hb <;> try (cases hb; done)
    rename_i k c
    cases k <;> simp only [AV.byte] at hb <;> try (cases hb; done)
    split at hb
    · rename_i hc
      cases hb
      refine ⟨c :: xs, rfl, ?_⟩
      simp only [List.map_cons, h2]
      congr 1
      rw [UInt8.toNat_ofNat']
      omega
    · cases hb

theorem op_text (hr : HR φ w H) {src dst e : TypeId} (hs : P.underlying src = some (.slice e)) (hd : P.underlying dst = some .string) (he : P.underlying e = some (.int .u8)) {x : AV} {u : Value} (hx : VR φ w x u)
    {n : Nat} (hn : lenV x = some n) {cs : List AV} (hcs : cellsOf H 1 n x = some cs) {bs : List Nat} (hb : cs.mapM AV.byte = some bs) (hns : ∀ s, x ≠ .str s) :
    Leaves φ w H ((do pure (Next.value (← Go.convert src dst u)) : Sem Next).run P w) (.str bs) H := by
  have fin : ∀ xs : List Int, xs.map (fun n => (UInt8.ofNat n.toNat).toNat) = bs → VR φ w (.str bs) (.string (strOfNums xs)) := by
    intro xs hxs
    have := VR.str (φ := φ) (w := w) (strOfNums xs)
    rw [strOfNums_data, List.map_map] at this
    rw [← hxs]
    exact this
  have empty : bs = [] → VR φ w (.str bs) (.string ByteArray.empty) := by
    rintro rfl
    exact VR.str ByteArray.empty
  have mem : ∀ {B off : Nat}, VRm φ w cs B off → ∃ xs : List Int, xs.length = cs.length ∧ xs.map (fun n => (UInt8.ofNat n.toNat).toNat) = bs ∧ ∀ i, i < cs.length → w.cell? ⟨B, off + i, none⟩ = some (.int .u8 (xs.getD i 0)) := by
    intro B off hm
    obtain ⟨us, g1, g2⟩ := hm.vals
    obtain ⟨xs, rfl, h2⟩ := bytes_ok hb g1
    have hl := g1.length
    rw [List.length_map] at hl
    refine ⟨xs, hl.symm, h2, fun i hi => g2 i _ ?_⟩
    rw [List.getElem?_map, List.getElem?_eq_getElem (by omega), Option.map_some, List.getD_eq_getElem?_getD, List.getElem?_eq_getElem (by omega)]
    rfl
  cases hx <;> simp only [lenV] at hn <;> try (cases hn; done)
  case str s => exact absurd rfl (hns _)
  case sl b off len cap sz B o c n' ty hb' hc hl hsh hr' =>
    cases hn
    simp only [cellsOf, Nat.le_refl, if_true] at hcs
    split at hcs
    · rename_i l0 e0 ver hg
      obtain ⟨e1, e2⟩ := cut_spec hcs
      obtain ⟨B', o', e', m, q1, q2, q3, q4, q5⟩ := hr.cells hg
      rw [hb'] at q1
      cases q1
      have hm := (q3.drop off).take (n * 1)
      rw [← e1] at hm
      obtain ⟨xs, x1, x2, x3⟩ := mem hm
      exact leaves_val hr (run_convert_bytes_arg w src e hs he B (o + off) n c xs (by omega) (fun i hi => x3 i (by omega)) dst hd) (fin xs x2)
    · cases hcs
  case sl0 b off sz a =>
    cases hn
    have hcs0 : cs = [] := by
      simp only [cellsOf, Nat.le_refl, if_true] at hcs
      split at hcs
      · have := (cut_spec hcs).2
        exact List.eq_nil_of_length_eq_zero (by simpa using this)
      · cases hcs
    subst hcs0
    have hb0 : bs = [] := by simpa using hb.symm
    obtain ⟨B, off', spot⟩ := a
    refine leaves_val hr (u := .string ByteArray.empty) ?_ (empty hb0)
    simp [Go.convert, run_underlying hs, run_underlying hd, run_underlying he, Conv.bytesToString, loadCells, loadCellsFrom]
  case nils =>
    cases hn
    have hcs0 : cs = [] := by simpa [cellsOf] using hcs.symm
    subst hcs0
    have hb0 : bs = [] := by simpa using hb.symm
    exact leaves_val hr (run_convert_bytes_nil w src e hs he 0 0 dst hd) (empty hb0)
  case rs0 a c =>
    cases hn
    have hcs0 : cs = [] := by
      simp only [cellsOf] at hcs
      obtain ⟨e1, e2⟩ := cut_spec hcs
      simpa using e1
    subst hcs0
    have hb0 : bs = [] := by simpa using hb.symm
    obtain ⟨B, off', spot⟩ := a
    refine leaves_val hr (u := .string ByteArray.empty) ?_ (empty hb0)
    simp [Go.convert, run_underlying hs, run_underlying hd, run_underlying he, Conv.bytesToString, loadCells, loadCellsFrom]
  case rs cl len B off c hl hB hlt hm =>
    cases hn
    obtain ⟨e1, e2⟩ := cut_spec hcs
    have hm' := hm.take (n * 1)
    rw [List.drop_zero] at e1
    rw [← e1] at hm'
    obtain ⟨xs, x1, x2, x3⟩ := mem hm'
    exact leaves_val hr (run_convert_bytes_arg w src e hs he B off n c xs (by omega) (fun i hi => x3 i (by omega)) dst hd) (fin xs x2)

def lenO (H : Heap) (k : Nat) (x : AV) : Out := match k, x with
  | 0, .str s => .val (.int .i64 s.length) H
  | 1, .sl _ _ n _ _ => .val (.int .i64 n) H
  | 1, .nils => .val (.int .i64 0) H
  | 1, .rs _ n => .val (.int .i64 n) H
  | 2, .map b => (match H.get b with | some (.map es _) => .val (.int .i64 es.length) H | _ => .fail)
  | 2, .nilm => .val (.int .i64 0) H
  | _, _ => .fail

theorem op_len (hr : HR φ w H) {t : TypeId} {ts : Array TypeId} (h0 : ts[0]? = some t) {x v : AV} {u : Value} (hx : VR φ w x u) (ty : TypeId) {k : Nat} {H' : Heap} (h : lenO H k x = .val v H')
    (ht : (k = 0 ∧ P.underlying t = some .string) ∨ (k = 1 ∧ ∃ e, P.underlying t = some (.slice e)) ∨ (k = 2 ∧ ∃ a b, P.underlying t = some (.map a b))) :
    Leaves φ w H ((do pure (Next.value (← Builtin.len_ ts ty #[u])) : Sem Next).run P w) v H' := by
  rcases ht with ⟨rfl, ht⟩ | ⟨rfl, e, ht⟩ | ⟨rfl, a, b, ht⟩
  · cases hx <;> simp only [lenO] at h <;> try (cases h; done)
    case str s =>
      cases h
      refine leaves_val hr (u := .int .i64 s.size) (by simp [Builtin.len_, h0, run_underlying ht, goInt]) ?_
      rw [show ((List.map (fun c : UInt8 => c.toNat) s.data.toList).length) = s.size from tx_length s]
      exact .int _ _
  · cases hx <;> simp only [lenO] at h <;> first
      | (cases h; done)
      | (cases h; exact leaves_val hr (by simp [Builtin.len_, h0, run_underlying ht, goInt]) (.int _ _))
      | (cases h; exact leaves_val hr (u := .int .i64 0) (by simp [Builtin.len_, h0, run_underlying ht, goInt]) (.int _ _))
  · cases hx <;> simp only [lenO] at h <;> try (cases h; done)
    case map b' B o hb =>
      split at h
      · rename_i es ver hg
        cases h
        have := hr.blk b'
        rw [hg] at this
        obtain ⟨B, o, vs, clock, g1, g2, g3, g4⟩ := this
        rw [hb] at g1
        cases g1
        have hl := g3.length
        refine leaves_val hr (u := .int .i64 vs.size) ?_ ?_
        · simp [Builtin.len_, h0, run_underlying ht, Go.MapKept.run_getObj_map g2, goInt]
        · rw [show es.length = vs.size by simpa using hl]
          exact .int _ _
      · cases h
    case nilm =>
      cases h
      exact leaves_val hr (by simp [Builtin.len_, h0, run_underlying ht, goInt]) (.int _ _)

theorem op_mkmap (hr : HR φ w H) {nm : Nat} (hn : H.get nm = none) (t : TypeId) : Leaves φ w H ((do pure (Next.value (← Instr.makeMap t none)) : Sem Next).run P w) (.map nm) (H.mk' nm (.map [] 0)) := by
  have hφ : φ nm = none := by have := hr.blk nm; rw [hn] at this; exact this
  refine ⟨φ.at nm (w.heap.size, 0), .value (.map (some w.heap.size)), w.alloc (.map #[] 0), by simp [Instr.makeMap], .inl ⟨_, rfl, .map (o := 0) (at_self _ _)⟩, hr_alloc hr hn ?_, updH_alloc hr hn _ _⟩
  exact ⟨w.heap.size, 0, #[], 0, at_self _ _, heap_alloc_new _ _, .nil, .nil⟩

end
end Go.Proofs.Ytinonmcnofjeeaa.VM
