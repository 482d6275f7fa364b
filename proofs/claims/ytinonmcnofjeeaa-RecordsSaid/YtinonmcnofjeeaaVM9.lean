/- The small machine's operations stand for the program's: rows made, turned to texts, grown, copied. -/
import Derived.Test.YtinonmcnofjeeaaVM8
namespace Go.Proofs.Ytinonmcnofjeeaa.VM
set_option linter.unusedSimpArgs false
set_option linter.unusedVariables false
set_option linter.defProp false
set_option maxHeartbeats 1000000
open Go.RowKit

section
variable {P : Program} {φ : Env} {w : World} {H : Heap}

theorem zero_row {e : TypeId} {z : List AV} (hz : zeroC P e = some z) (hpos : 0 < z.length) (n : Nat) :
    ∃ i v, P.info? e = some i ∧ i.zero = some v ∧ P.cellsOf e = z.length ∧ v.cells.size = z.length ∧ (sizeOf e).run P w = .ok (P.cellsOf e) w ∧
      ((Array.range (n * P.cellsOf e)).map fun j => v.cells[j % v.cells.size]!) = (List.replicate n v.cells.toList).flatten.toArray ∧ VRs φ w (List.replicate n z).flatten (List.replicate n v.cells.toList).flatten := by
  obtain ⟨i, v, h1, h2, h3, h4, h5⟩ := zero_spec (φ := φ) (w := w) hz
  have hsz : P.cellsOf e = i.size := by unfold Program.cellsOf; rw [h1]; rfl
  have hzs : 0 < v.cells.size := by omega
  refine ⟨i, v, h1, h2, by omega, by omega, by simp [sizeOf, typeInfo, h1, Program.cellsOf], ?_, h5.flat n⟩
  rw [hsz, ← h3]
  apply Array.ext'
  have := zeros_list n v.cells.toList (by simpa using hzs)
  rw [Array.toList_map, Array.toList_range, List.toList_toArray, ← this]
  rw [show v.cells.toList.length = v.cells.size by simp]
  apply List.map_congr_left
  intro j _
  rw [getBang v.cells j hzs]
  simp

theorem flat_len {α : Type} (n : Nat) (l : List α) : (List.replicate n l).flatten.length = n * l.length := by simp

theorem op_mkslice (hr : HR φ w H) {nm : Nat} (hn : H.get nm = none) {t e : TypeId} (ht : P.underlying t = some (.slice e)) {z : List AV} (hz : zeroC P e = some z) (hpos : 0 < z.length)
    {l c : Int} {lv cv : Value} (hlv : VR φ w (.int .i64 l) lv) (hcv : VR φ w (.int .i64 c) cv) (hc : 0 ≤ l ∧ l ≤ c ∧ c.toNat * P.bytesOf e ≤ most ∧ c.toNat ≤ most) :
    Leaves φ w H ((do pure (Next.value (← Instr.makeSlice t lv cv)) : Sem Next).run P w) (.sl nm 0 l.toNat c.toNat z.length) (H.mk' nm (.cells (List.replicate c.toNat z).flatten e 0)) := by
  cases hlv
  cases hcv
  obtain ⟨i, v, h1, h2, h3, h4, h5, h6, h7⟩ := zero_row (φ := φ) (w := w) hz hpos c.toNat
  obtain ⟨c1, c2, c3, c4⟩ := hc
  have hb : P.bytesOf e = i.bytes := by unfold Program.bytesOf; rw [h1]; rfl
  obtain ⟨cn, rfl⟩ := Int.eq_ofNat_of_zero_le (show 0 ≤ c by omega)
  obtain ⟨ln, rfl⟩ := Int.eq_ofNat_of_zero_le c1
  rw [Int.toNat_natCast] at c3 c4 h6 h7 ⊢
  rw [Int.toNat_natCast]
  have wl : IntKind.i64.wrap (ln : Int) = ln := by rw [IntKind.wrap_i64]; unfold most at c4; omega
  have wc : IntKind.i64.wrap (cn : Int) = cn := by rw [IntKind.wrap_i64]; unfold most at c4; omega
  refine leaves_new (u := .slice (some ⟨w.heap.size, 0, none⟩) ln cn) hr hn (cs := (List.replicate cn v.cells.toList).flatten.toArray) (by simpa using h7) e e 0 ?_ ?_
  · have hti : (typeInfo e).run P w = .ok i w := by simp [typeInfo, h1]
    have big : ∀ m : Nat, m ≤ cn → ¬ ((i.bytes : Int) * (m : Int) > 2 ^ 48) := by
      intro m hm
      have : i.bytes * m ≤ i.bytes * cn := Nat.mul_le_mul_left _ hm
      have h' : i.bytes * cn ≤ most := by rw [← hb, Nat.mul_comm]; exact c3
      unfold most at h'
      have : i.bytes * m ≤ 70368744177664 := by omega
      have e1 : ((i.bytes : Int) * (m : Int)) = ((i.bytes * m : Nat) : Int) := by push_cast; rfl
      rw [e1]; omega
    have b1 := big cn (Nat.le_refl _)
    have b2 : ¬ ((cn * i.bytes) > roomBytes) := by
      unfold roomBytes
      have h' : i.bytes * cn ≤ most := by rw [← hb, Nat.mul_comm]; exact c3
      unfold most at h'
      rw [Nat.mul_comm]; omega
    have neg : ¬ ((cn : Int) < 0) := by omega
    have neg2 : ¬ ((ln : Int) < 0) := by omega
    have gt : ¬ ((ln : Int) > (cn : Int)) := by omega
    have cond : ((decide ((cn : Int) < 0) || decide ((i.bytes : Int) * (cn : Int) > 2 ^ 48)) || decide ((ln : Int) < 0) || decide ((ln : Int) > (cn : Int))) = false := by
      simp only [neg, neg2, gt, b1, decide_false, Bool.or_false]
    simp only [Instr.makeSlice, Sem.run_bind, run_underlying ht, Result.andThen_ok, asInt, asIntOf, Sem.run_pure, hti, wl, wc]
    rw [if_neg (by rw [cond]; simp)]
    simp only [askRoom, Int.toNat_natCast, b2, if_false, Sem.run_bind, Sem.run_pure, Result.andThen_ok, h5]
    by_cases h0 : cn * P.cellsOf e = 0
    · have hc0 : cn = 0 := by
        rcases Nat.mul_eq_zero.1 h0 with h | h
        · exact h
        · omega
      subst hc0
      rw [if_pos h0]
      have hr0 : Array.range (0 * P.cellsOf e) = #[] := by simp
      simp only [Sem.run_bind, Sem.run_pure, Result.andThen_ok, hr0, Array.map_empty, newRow, run_newObj_alloc]
      simp
    · rw [if_neg h0]
      simp only [Sem.run_bind, run_zero h1 h2, Result.andThen_ok, Sem.run_pure, h6, newRow, run_newObj_alloc]
  · refine .sl (o := 0) (at_self _ _) (Nat.le_refl _) (by omega) (shape_new _ _) ?_
    simp [h4]

/-- The cells of a slice or text, read. -/
theorem cellsOf_ok (hr : HR φ w H) {size n : Nat} {x : AV} {u : Value} (hx : VR φ w x u) {l : List AV} (h : cellsOf H size n x = some l) :
    ∃ us : List Value, VRs φ w l us ∧ (Builtin.firstCells size n u).run P w = .ok us.toArray w := by
  cases hx <;> simp only [cellsOf] at h <;> try (cases h; done)
  case str s =>
    cases h
    refine ⟨(s.data.toList.take n).map fun b => Value.int .u8 (b.toNat : Int), ?_, ?_⟩
    · rw [← List.map_take, List.map_map]
      generalize s.data.toList.take n = q
      induction q with
      | nil => exact .nil
      | cons c q ih => exact .cons (.int _ _) ih
    · simp only [Builtin.firstCells, Sem.run_pure]
      congr 1
      apply Array.ext'
      simp [ByteArray.data_extract, List.extract, List.map_take]
  case sl b off len cap sz B o c n' ty hb hc hl hs hr' =>
    split at h
    · split at h
      · rename_i cs e ver hg
        obtain ⟨e1, e2⟩ := cut_spec h
        obtain ⟨B', o', e', m, q1, q2, q3, q4, q5⟩ := hr.cells hg
        rw [hb] at q1
        cases q1
        have hm := (q3.drop off).take (n * size)
        rw [← e1] at hm
        obtain ⟨us, g1, g2⟩ := hm.vals
        refine ⟨us, g1, ?_⟩
        have hl := g1.length
        simp only [Builtin.firstCells]
        have := run_loadCells_list (P := P) w ⟨B, o + off, none⟩ us fun j u hj => by rw [add_none]; exact g2 j u hj
        rw [← hl, e2] at this
        exact this
      · cases h
    · cases h
  case sl0 b off sz a =>
    split at h
    · rename_i hn
      have hn0 : n = 0 := by omega
      subst hn0
      split at h
      · obtain ⟨e1, e2⟩ := cut_spec h
        rw [Nat.zero_mul] at e2
        have := List.eq_nil_of_length_eq_zero e2
        subst this
        exact ⟨[], .nil, by simp [Builtin.firstCells, loadCells, loadCellsFrom]⟩
      · cases h
    · cases h
  case nils =>
    split at h
    · rename_i h0
      cases h
      exact ⟨[], .nil, by simp [Builtin.firstCells]⟩
    · cases h
  case rs0 a c =>
    obtain ⟨e1, e2⟩ := cut_spec h
    simp only [List.drop_nil, List.take_nil] at e1
    subst e1
    refine ⟨[], .nil, ?_⟩
    have e3 : n * size = 0 := by simpa using e2.symm
    simp [Builtin.firstCells, loadCells, loadCellsFrom, e3]
  case rs cs len B off c hl hB hlt hm =>
    obtain ⟨e1, e2⟩ := cut_spec h
    have hm' := hm.take (n * size)
    rw [List.drop_zero] at e1
    rw [← e1] at hm'
    obtain ⟨us, g1, g2⟩ := hm'.vals
    refine ⟨us, g1, ?_⟩
    have hl := g1.length
    simp only [Builtin.firstCells]
    have := run_loadCells_list (P := P) w ⟨B, off, none⟩ us fun j u hj => by rw [add_none]; exact g2 j u hj
    rw [← hl, e2] at this
    exact this

theorem lenV_ok {x : AV} {u : Value} (hx : VR φ w x u) {n : Nat} (h : lenV x = some n) : (Builtin.lenOf u).run P w = .ok n w := by
  cases hx <;> simp only [lenV] at h <;> first | (cases h; done) | (cases h; simp [Builtin.lenOf])

theorem kill_ok (hr : HR φ w H) {b : Nat} (hex : ∃ x, H.get b = some x) : HR φ w (H.put b .dead) := by
  refine ⟨fun c => ?_, hr.lt, fun c c' p p' hl hl' hp hp' he => ?_, fun c hc => ?_⟩
  · rw [Heap.get_put]
    by_cases e : c = b
    · rw [if_pos e]; trivial
    · rw [if_neg e]; exact hr.blk c
  · rw [Heap.get_put] at hl hl'
    have L : ∀ {d : Nat}, live (if d = b then some Blk.dead else H.get d) = true → live (H.get d) = true := by
      intro d hd
      by_cases ed : d = b
      · rw [if_pos ed] at hd; cases hd
      · rw [if_neg ed] at hd; exact hd
    exact hr.inj c c' p p' (L hl) (L hl') hp hp' he
  · have hc' : H.next ≤ c := hc
    rw [Heap.get_put]
    have := hr.next c hc'
    obtain ⟨x, hx⟩ := hex
    rw [if_neg (fun ec => by rw [ec, hx] at this; cases this)]
    exact this

theorem upd_drew : Upd φ w φ w.drew := ⟨rfl, rfl, rfl, Nat.le_refl _, fun _ _ h => h, fun _ _ _ h => .inl ⟨_, _, h⟩, fun _ _ _ => rfl, fun _ _ h => h⟩
theorem updH_drew (H : Heap) : UpdH φ w H φ w.drew H := UpdH.same _ H upd_drew fun _ _ => rfl
theorem updH_kill {b : Nat} (hex : ∃ x, H.get b = some x) : UpdH φ w H φ w (H.put b .dead) := by
  refine { toUpd := Upd.refl _ _, keepL := fun _ _ _ => rfl, deadL := fun c h1 h2 => ?_, newL := fun c B o h1 h2 => ?_, stay := fun c h1 => ?_ }
  · rw [Heap.get_put]
    by_cases e : c = b
    · rw [if_pos e]; exact ⟨by simp, rfl, rfl⟩
    · rw [if_neg e]; exact ⟨h1, h2, rfl⟩
  · rw [Heap.get_put] at h1
    by_cases e : c = b
    · rw [if_pos e] at h1; cases h1
    · rw [if_neg e] at h1; exact .inl ⟨_, _, h1, h2⟩
  · rw [Heap.get_put]
    by_cases e : c = b
    · rw [if_pos e]; simp
    · rw [if_neg e]; exact h1
theorem hr_drew (hr : HR φ w H) : HR φ w.drew H := by
  refine ⟨fun b => ?_, hr.lt, hr.inj, hr.next⟩
  by_cases hl : live (H.get b) = true
  · exact BR.upd hr upd_drew hl fun _ _ => rfl
  · rcases not_live hl with h | h
    · rw [h]; have := hr.blk b; rw [h] at this; exact this
    · rw [h]; trivial

/-- A new block whose first cells are told. -/
theorem br_new' {l : List AV} {us rest : List Value} (h : VRs φ w l us) {nm : Nat} (hn : φ nm = none) (e e' : TypeId) (ver : Nat) :
    BR (φ.at nm (w.heap.size, 0)) (w.alloc (.cells (us ++ rest).toArray e')) nm (some (.cells l e ver)) := by
  have u := upd_alloc (φ := φ) (w := w) (.cells (us ++ rest).toArray e') hn
  refine ⟨w.heap.size, 0, e', (us ++ rest).toArray.size, by unfold Env.at; rw [if_pos rfl], shape_new _ _, VRm.of_get fun i x hx => ?_, ⟨fun i _ => by simp, fun fr hf => by simp only [frz?, heap_alloc_new, Option.some.injEq] at hf; rw [← hf]; exact Nat.le_refl _⟩, by rw [h.length]; simp⟩
  obtain ⟨v, hv, hrv⟩ := (h.upd u).get hx
  refine ⟨v, ?_, hrv⟩
  rw [Nat.zero_add, World.cell?_alloc_new]
  have hlt : i < us.length := by
    rcases Nat.lt_or_ge i us.length with h' | h'
    · exact h'
    · rw [List.getElem?_eq_none h'] at hv; cases hv
  simp only [List.getElem?_toArray]
  rw [List.getElem?_append_left hlt]
  exact hv

theorem zeroCells_size (z : Array Value) (n : Nat) : (Builtin.zeroCells z n).size = n * z.size := by simp [Builtin.zeroCells]

/-- The slow way: a new row. -/
theorem grow_run {t t2 e : TypeId} (ht : P.underlying t = some (.slice e)) (ht2 : (∃ e', P.underlying t2 = some (.slice e')) ∨ P.underlying t2 = some .string) (hb0 : 0 < P.bytesOf e) {z : List AV} (hz : zeroC P e = some z) (ty : TypeId)
    {base : Option Addr} {sLen sCap n : Nat} {xu : Value} {old new : List Value} (hlen : (Builtin.lenOf xu).run P w = .ok n w) (hg2 : (Builtin.firstCells (P.cellsOf e) n xu).run P w.drew = .ok new.toArray w.drew)
    (hg1 : (Builtin.firstCells (P.cellsOf e) sLen (.slice base sLen sCap)).run P w.drew = .ok old.toArray w.drew) (hgt : sCap < sLen + n) (hmost : (sLen + n) * P.bytesOf e ≤ most2) :
    ∃ (rest : List Value) (newCap : Nat), (Builtin.append_ #[t, t2] ty #[.slice base sLen sCap, xu]).run P w = .ok (.slice (some ⟨w.heap.size, 0, none⟩) (sLen + n) newCap) (w.drew.alloc (.cells (old ++ new ++ rest).toArray e)) ∧
      sLen + n ≤ newCap ∧ rest.length = (newCap - (sLen + n)) * P.cellsOf e := by
  obtain ⟨i, v, h1, h2, h3, h4, _⟩ := zero_spec (φ := fun _ => none) (w := w) hz
  have hsz : P.cellsOf e = i.size := by unfold Program.cellsOf; rw [h1]; rfl
  have hbi : P.bytesOf e = i.bytes := by unfold Program.bytesOf; rw [h1]; rfl
  have hti : ∀ w', (typeInfo e).run P w' = .ok i w' := fun w' => by simp [typeInfo, h1]
  have hn1 := nextslicecap_le hgt
  have h63' : ¬ (9223372036854775807 < ((sLen : Int) + (n : Int))) := by
    unfold most2 at hmost
    have : sLen + n ≤ (sLen + n) * P.bytesOf e := Nat.le_mul_of_pos_right _ hb0
    omega
  have h48' : ¬ (281474976710656 < Builtin.nextslicecap (sLen + n) sCap * i.bytes) := by
    have h1 := Nat.mul_le_mul_right i.bytes hn1
    unfold most2 at hmost
    rw [hbi] at hmost
    rw [Nat.mul_assoc] at h1
    omega
  rw [hsz] at hg1 hg2
  have hn : ¬ (sLen + n ≤ sCap) := by omega
  refine ⟨(Builtin.zeroCells v.cells (grownCap w (sLen + n) sCap e - (sLen + n))).toList, grownCap w (sLen + n) sCap e, ?_, grownCap_ge _ _ _ _, ?_⟩
  · rcases ht2 with ⟨e', hu2⟩ | hu2
    · simp [Builtin.append_, run_underlying ht, run_underlying hu2, sizeOf, typeInfo, zeroValue, h1, h2, hlen, hn, h63', h48', Question.forced, hg1, hg2, newRow, grownCap]
      congr 2
      apply Array.ext'
      simp
    · simp [Builtin.append_, run_underlying ht, run_underlying hu2, sizeOf, typeInfo, zeroValue, h1, h2, hlen, hn, h63', h48', Question.forced, hg1, hg2, newRow, grownCap]
      congr 2
      apply Array.ext'
      simp
  · rw [Array.length_toList, zeroCells_size, h3, ← hsz]

/-- The quick way: there is room. -/
theorem room_run {t t2 e : TypeId} (ht : P.underlying t = some (.slice e)) (ht2 : (∃ e', P.underlying t2 = some (.slice e')) ∨ P.underlying t2 = some .string) (he : has P e = true) (ty : TypeId)
    {base : Option Addr} {sLen sCap n : Nat} {xu : Value} {new : List Value} (hlen : (Builtin.lenOf xu).run P w = .ok n w) (hg2 : (Builtin.firstCells (P.cellsOf e) n xu).run P w = .ok new.toArray w) (hle : sLen + n ≤ sCap) {w' : World}
    (hst : (match base with | some a => storeCells (a.add (sLen * P.cellsOf e)) new | none => pure ()).run P w = .ok () w') :
    (Builtin.append_ #[t, t2] ty #[.slice base sLen sCap, xu]).run P w = .ok (.slice base (sLen + n) sCap) w' := by
  obtain ⟨i, hi⟩ := has_info he
  have hsz : P.cellsOf e = i.size := by unfold Program.cellsOf; rw [hi]; rfl
  rw [hsz] at hg2 hst
  cases base with
  | none =>
    simp at hst
    subst hst
    rcases ht2 with ⟨e', hu2⟩ | hu2 <;> simp [Builtin.append_, run_underlying ht, run_underlying hu2, sizeOf, typeInfo, hi, hlen, hle, hg2]
  | some a =>
    simp only at hst
    rcases ht2 with ⟨e', hu2⟩ | hu2 <;> simp [Builtin.append_, run_underlying ht, run_underlying hu2, sizeOf, typeInfo, hi, hlen, hle, hg2, hst]

theorem leaves_grow {H1 : Heap} (hu1 : UpdH φ w H φ w.drew H1) (hr1 : HR φ w.drew H1) (hn : H1.get H1.next = none) {l : List AV} {us rest : List Value} (hl : VRs φ w.drew l us) (e : TypeId) {s : Sem Value} {need cap size : Nat} {sz : Nat} (hcap : need ≤ cap)
    (hsize : us.length + rest.length = cap * sz) (_ : size = sz)
    (hs : s.run P w = .ok (.slice (some ⟨w.heap.size, 0, none⟩) need cap) (w.drew.alloc (.cells (us ++ rest).toArray e))) :
    Leaves φ w H ((do pure (Next.value (← s)) : Sem Next).run P w) (.sl H1.next 0 need need sz) (H1.mk' H1.next (.cells l e 0)) := by
  have hφ : φ H1.next = none := by have := hr1.blk H1.next; rw [hn] at this; exact this
  have hsz : w.drew.heap.size = w.heap.size := rfl
  refine ⟨φ.at H1.next (w.drew.heap.size, 0), .value (.slice (some ⟨w.heap.size, 0, none⟩) need cap), w.drew.alloc (.cells (us ++ rest).toArray e), by simp only [Sem.run_bind, hs, Result.andThen_ok, Sem.run_pure], .inl ⟨_, rfl, ?_⟩, hr_alloc hr1 hn (br_new' (rest := rest) hl hφ e e 0), hu1.trans (updH_alloc hr1 hn _ _)⟩
  refine .sl (o := 0) (at_self _ _) hcap (Nat.le_refl _) (shape_new _ _) ?_
  simp
  omega

theorem cell_some {B k n : Nat} {e : TypeId} (h : w.shape? B = some (e, n)) (hk : k < n) : (w.cell? ⟨B, k, none⟩).isSome = true := by
  unfold World.shape? at h
  unfold World.cell?
  cases hh : w.heap[B]? with
  | none => rw [hh] at h; cases h
  | some x =>
    rw [hh] at h
    cases x with
    | cells c t fr =>
      have h' : some (t, c.size) = some (e, n) := h
      cases h'
      show (c[k]?).isSome = true
      simp [hk]
    | _ => cases h

/-- A row that grows in its own room: a new name for its block. -/
theorem regrow (hr : HR φ w H) {b B o off at_ n : Nat} {e0 : TypeId} {l : List AV} {t0 : TypeId} {ver : Nat} (hg : H.get b = some (.cells l t0 ver)) (hb : φ b = some (B, o)) (hsh : w.shape? B = some (e0, n)) {old new : List AV} {us : List Value}
    (hold : VRm φ w old B (o + off)) (ha : at_ = o + off + old.length) (hnew : VRs φ w new us) (hroom : at_ + new.length ≤ n) (e : TypeId) :
    HR (φ.at H.next (B, o + off)) (w.setCells B at_ us) ((H.put b .dead).mk' H.next (.cells (old ++ new) e 0)) ∧ UpdH φ w H (φ.at H.next (B, o + off)) (w.setCells B at_ us) ((H.put b .dead).mk' H.next (.cells (old ++ new) e 0)) := by
  have hnone : φ H.next = none := by have := hr.blk H.next; rw [hr.next _ (Nat.le_refl _)] at this; exact this
  obtain ⟨B', o', e', m, q1, q2, q3, q4, q5⟩ := hr.cells hg
  rw [hb] at q1
  cases q1
  rw [hsh] at q2
  cases q2
  have hlen := hnew.length
  have u : Upd φ w (φ.at H.next (B, o + off)) (w.setCells B at_ us) := by
    have u0 := upd_setCells (w := w) hb at_ us
    refine ⟨u0.os, u0.tape, u0.output, u0.size, fun c p hc => ?_, fun c B' o' hc => ?_, u0.keep, u0.shape⟩
    · unfold Env.at
      rw [if_neg (fun e1 => by rw [e1, hnone] at hc; cases hc)]
      exact hc
    · unfold Env.at at hc
      by_cases e1 : c = H.next
      · rw [if_pos e1] at hc
        cases hc
        exact .inl ⟨_, _, hb⟩
      · rw [if_neg e1] at hc
        exact .inl ⟨_, _, hc⟩
  have hbn : b ≠ H.next := fun e1 => by have := hr.next H.next (Nat.le_refl _); rw [← e1, hg] at this; cases this
  have uH : UpdH φ w H (φ.at H.next (B, o + off)) (w.setCells B at_ us) ((H.put b .dead).mk' H.next (.cells (old ++ new) e 0)) := by
    have hlb : live (H.get b) = true := by rw [hg]; rfl
    refine { toUpd := u, keepL := fun B' hB hn => setCells_heap B us _ w B' fun e' => hn _ _ hlb hb e'.symm, deadL := fun c h1 h2 => ?_, newL := fun c B' o' h1 h2 => ?_, stay := fun c h1 => ?_ }
    · have c1 : c ≠ H.next := fun e1 => h1 (by rw [e1]; exact hr.next _ (Nat.le_refl _))
      have c2 : c ≠ b := fun e1 => by rw [e1, hlb] at h2; cases h2
      rw [Heap.get_mk, if_neg c1, Heap.get_put, if_neg c2]
      exact ⟨h1, h2, by unfold Env.at; rw [if_neg c1]⟩
    · rw [Heap.get_mk] at h1
      unfold Env.at at h2
      by_cases c1 : c = H.next
      · rw [if_pos c1] at h2
        cases h2
        exact .inl ⟨_, _, hlb, hb⟩
      · rw [if_neg c1] at h1 h2
        rw [Heap.get_put] at h1
        by_cases c2 : c = b
        · rw [if_pos c2] at h1; cases h1
        · rw [if_neg c2] at h1
          exact .inl ⟨_, _, h1, h2⟩
    · rw [Heap.get_mk, Heap.get_put]
      by_cases c1 : c = H.next
      · rw [if_pos c1]; simp
      · rw [if_neg c1]
        by_cases c2 : c = b
        · rw [if_pos c2]; simp
        · rw [if_neg c2]; exact h1
  refine ⟨⟨fun c => ?_, fun c p hc => ?_, fun c c' p p' hl hl' hp hp' he => ?_, fun c hc => ?_⟩, uH⟩
  · rw [Heap.get_mk]
    by_cases e1 : c = H.next
    · rw [if_pos e1, e1]
      refine ⟨B, o + off, e0, n, by unfold Env.at; rw [if_pos rfl], u.shape _ _ hsh, VRm.of_get fun i x hx => ?_, (hr.thawed hg hb hsh).setCells _ _ _, by rw [List.length_append]; omega⟩
      by_cases hi : i < old.length
      · rw [List.getElem?_append_left hi] at hx
        obtain ⟨v, hv1, hv2⟩ := hold.get hx
        exact ⟨v, by rw [World.cell?_setCells_out B us _ _ _ (fun _ _ => .inl (by show o + off + i < at_; omega))]; exact hv1, hv2.upd u⟩
      · rw [List.getElem?_append_right (by omega)] at hx
        obtain ⟨v, hv1, hv2⟩ := hnew.get hx
        have hj : i - old.length < us.length := by
          rcases Nat.lt_or_ge (i - old.length) us.length with h' | h'
          · exact h'
          · rw [List.getElem?_eq_none h'] at hv1; cases hv1
        have := World.cell?_setCells_in B us at_ w (fun j hj => cell_some hsh (by omega)) (i - old.length) hj
        rw [show at_ + (i - old.length) = o + off + i by omega] at this
        rw [List.getElem?_eq_getElem hj] at hv1
        cases hv1
        exact ⟨_, this, hv2.upd u⟩
    · rw [if_neg e1, Heap.get_put]
      by_cases e2 : c = b
      · rw [if_pos e2]; trivial
      · rw [if_neg e2]
        by_cases hl : live (H.get c) = true
        · refine BR.upd hr u hl fun p hp => setCells_heap B us _ w _ fun e' => e2 ?_
          exact hr.inj c b p (B, o) hl (by rw [hg]; rfl) hp hb e'
        · rcases not_live hl with h | h
          · rw [h]
            have := hr.blk c
            rw [h] at this
            show φ.at H.next _ c = none
            unfold Env.at
            rw [if_neg e1]
            exact this
          · rw [h]; trivial
  · rw [setCells_size]
    unfold Env.at at hc
    by_cases e1 : c = H.next
    · rw [if_pos e1] at hc
      cases hc
      exact hr.lt b (B, o) hb
    · rw [if_neg e1] at hc
      exact hr.lt _ _ hc
  · rw [Heap.get_mk] at hl hl'
    unfold Env.at at hp hp'
    have L : ∀ {d : Nat} {p : Nat × Nat}, d ≠ H.next → live ((H.put b .dead).get d) = true → φ d = some p → live (H.get d) = true ∧ p.1 ≠ B := by
      intro d p hd hld hpd
      rw [Heap.get_put] at hld
      by_cases ed : d = b
      · rw [if_pos ed] at hld; cases hld
      · rw [if_neg ed] at hld
        refine ⟨hld, fun e' => ed ?_⟩
        exact hr.inj d b p (B, o) hld (by rw [hg]; rfl) hpd hb e'
    by_cases e1 : c = H.next
    · by_cases e2 : c' = H.next
      · rw [e1, e2]
      · rw [if_pos e1] at hp
        rw [if_neg e2] at hp' hl'
        cases hp
        exact absurd he.symm (L e2 hl' hp').2
    · by_cases e2 : c' = H.next
      · rw [if_neg e1] at hp hl
        rw [if_pos e2] at hp'
        cases hp'
        exact absurd he (L e1 hl hp).2
      · rw [if_neg e1] at hp hl
        rw [if_neg e2] at hp' hl'
        exact hr.inj c c' p p' (L e1 hl hp).1 (L e2 hl' hp').1 hp hp' he
  · have hc' : max H.next (H.next + 1) ≤ c := hc
    rw [Heap.get_mk, if_neg (by omega), Heap.get_put]
    have := hr.next c (by omega)
    rw [if_neg (fun ec => by rw [ec, hg] at this; cases this)]
    exact this

theorem op_append (hr : HR φ w H) {t t2 e : TypeId} (ht : P.underlying t = some (.slice e)) (ht2 : (∃ e', P.underlying t2 = some (.slice e')) ∨ P.underlying t2 = some .string) (he : has P e = true) (hb0 : 0 < P.bytesOf e) {z : List AV} (hz : zeroC P e = some z)
    {s x v : AV} {su xu : Value} (hs : VR φ w s su) (hx : VR φ w x xu) {H' : Heap} (h : appendV H (P.cellsOf e) (P.bytesOf e) e s x = some (v, H')) (ty : TypeId) :
    Leaves φ w H ((do pure (Next.value (← Builtin.append_ #[t, t2] ty #[su, xu])) : Sem Next).run P w) v H' := by
  unfold appendV at h
  split at h
  · cases h
  · rename_i n hn
    split at h
    · cases h
    · rename_i new hnew
      split at h
      · rename_i hlen2
        obtain ⟨hlen, hone⟩ := hlen2
        have hlen1 := lenV_ok (P := P) hx hn
        obtain ⟨us, g1, g2⟩ := cellsOf_ok (P := P) hr hx hnew
        obtain ⟨us', g1', g2'⟩ := cellsOf_ok (P := P) (hr_drew hr) (hx.upd upd_drew) hnew
        have hul : us.length = n * P.cellsOf e := by rw [← g1.length]; exact hlen
        have hul' : us'.length = n * P.cellsOf e := by rw [← g1'.length]; exact hlen
        split at h
        · -- nil
          split at h
          · rename_i hn0
            cases h
            cases hs
            subst hn0
            exact leaves_val hr (room_run ht ht2 he ty hlen1 g2 (Nat.le_refl _) rfl) .nils
          · rename_i hn0
            split at h
            · rename_i hmost
              cases h
              cases hs
              obtain ⟨rest, cap, q1, q2, q3⟩ := grow_run (old := []) (base := none) (sLen := 0) (sCap := 0) ht ht2 hb0 hz ty hlen1 g2' (by simp [Builtin.firstCells]) (by omega) (by simpa using hmost)
              rw [List.nil_append, Nat.zero_add] at q1
              refine leaves_grow (updH_drew H) (hr_drew hr) (hr.next _ (Nat.le_refl _)) g1' e (need := n) (cap := cap) (size := P.cellsOf e) (by omega) ?_ rfl q1
              rw [hul', q3, Nat.zero_add, ← Nat.add_mul]
              congr 1; omega
            · cases h
        · rename_i b off len cap sz
          rw [T.beq_dec] at h
          by_cases esz : sz = P.cellsOf e
          · rw [decide_eq_true esz, cond_true] at h
            split at h
            · rename_i hle
              split at h
              · rename_i H1 hw
                cases h
                obtain ⟨l0, t0, ver, hg, hwle, _, _⟩ := writeAt_spec hw
                obtain ⟨B, o, e', m, q1, q2, q3, q4, q5⟩ := hr.cells hg
                obtain ⟨w1, w2, w3⟩ := hr_write hr q1 hw g1
                have hst0 := run_storeCells_cells (P := P) B (o + (off + len * P.cellsOf e)) us 0 w (fun j hj => by simpa using w2 j hj) (fun j hj => by simpa using w3 j hj) (g1.one hone)
                cases hs with
                | sl hb hc hl hsh hr' =>
                  rw [q1] at hb
                  cases hb
                  rename_i c n' ty'
                  have hst : (match (some (⟨B, o + off, none⟩ : Addr)) with | some a => storeCells (a.add (len * P.cellsOf e)) us | none => pure ()).run P w = .ok () (w.setCells B (o + (off + len * P.cellsOf e)) us) := by
                    simp only [add_none]
                    rw [Nat.add_assoc]
                    simpa using hst0
                  refine ⟨φ, .value _, _, by rw [Sem.run_bind, room_run (base := some ⟨B, o + off, none⟩) (sLen := len) ht ht2 he ty hlen1 g2 (by omega) hst, Result.andThen_ok, Sem.run_pure], .inl ⟨_, rfl, ?_⟩, w1, updH_write q1 hw⟩
                  exact (VR.sl q1 hc (by omega) hsh hr').upd (upd_setCells q1 _ _)
                | sl0 a =>
                  have hn0 : n = 0 := by omega
                  subst hn0
                  have hus : us = [] := List.eq_nil_of_length_eq_zero (by simpa using hul)
                  subst hus
                  have hrun := room_run (base := some a) (sLen := 0) (sCap := 0) (w' := w) ht ht2 he ty hlen1 g2 (by omega) rfl
                  exact ⟨φ, .value (.slice (some a) 0 0), w, by rw [Sem.run_bind, hrun, Result.andThen_ok, Sem.run_pure], .inl ⟨_, rfl, .sl0 a⟩, w1, by obtain ⟨l, t, ver, hg2, _, _, rfl⟩ := writeAt_spec hw; exact updH_put q1 (by rw [hg2]; rfl) (Upd.refl _ _) (fun _ _ _ => rfl) _⟩
              · cases h
            · rename_i hnle
              split at h
              · rename_i hmost
                split at h
                · rename_i old hold
                  cases h
                  obtain ⟨uo, o1, o2⟩ := cellsOf_ok (P := P) hr hs hold
                  obtain ⟨uo', o1', o2'⟩ := cellsOf_ok (P := P) (hr_drew hr) (hs.upd upd_drew) hold
                  have hb : ∃ l e0 ver, H.get b = some (.cells l e0 ver) := by
                    simp only [cellsOf] at hold
                    split at hold
                    · split at hold
                      · rename_i l e0 ver hg; exact ⟨l, e0, ver, hg⟩
                      · cases hold
                    · cases hold
                  obtain ⟨l0, e0, ver, hg⟩ := hb
                  have hk : HR φ w.drew (H.put b .dead) := kill_ok (hr_drew hr) ⟨_, hg⟩
                  have hnx : (H.put b .dead).get H.next = none := by
                    rw [Heap.get_put, if_neg (fun e1 => by have := hr.next H.next (Nat.le_refl _); rw [e1, hg] at this; cases this)]
                    exact hr.next _ (Nat.le_refl _)
                  have olen : old.length = len * P.cellsOf e := by
                    simp only [cellsOf] at hold
                    split at hold
                    · split at hold
                      · exact (cut_spec hold).2
                      · cases hold
                    · cases hold
                  have uolen : uo'.length = len * P.cellsOf e := by rw [← o1'.length]; exact olen
                  have slow : ∀ (a : Addr) (c : Nat), su = .slice (some a) len c → c < len + n →
                      Leaves φ w H ((do pure (Next.value (← Builtin.append_ #[t, t2] ty #[su, xu])) : Sem Next).run P w) (.sl H.next 0 (len + n) (len + n) sz) ((H.put b .dead).mk' H.next (.cells (old ++ new) e 0)) := by
                    intro a c hsu hc
                    subst hsu
                    obtain ⟨rest, cap', q1, q2, q3⟩ := grow_run (old := uo') ht ht2 hb0 hz ty hlen1 g2' o2' hc hmost
                    refine leaves_grow (H1 := H.put b .dead) ((updH_drew H).trans (updH_kill ⟨_, hg⟩)) hk hnx (o1'.append g1') e (need := len + n) (cap := cap') (size := sz) q2 ?_ rfl q1
                    rw [List.length_append, uolen, hul', q3, esz, ← Nat.add_mul, ← Nat.add_mul]
                    congr 1; omega
                  cases hs with
                  | sl hb hc hl hsh hr' =>
                    rename_i B o c n' ty'
                    by_cases hroom : len + n ≤ c
                    · -- in place: a new name for the old block
                      subst esz
                      have hold' : VRm φ w old B (o + off) := by
                        simp only [cellsOf] at hold
                        split at hold
                        · rw [hg] at hold
                          obtain ⟨B', o', e', m, p1, p2, p3, p4, p5⟩ := hr.cells hg
                          rw [hb] at p1
                          cases p1
                          rw [(cut_spec hold).1]
                          exact (p3.drop off).take _
                        · cases hold
                      have hcm : (len + n) * P.cellsOf e ≤ c * P.cellsOf e := Nat.mul_le_mul_right _ hroom
                      rw [Nat.add_mul] at hcm
                      have hat : o + off + len * P.cellsOf e + new.length ≤ n' := by rw [hlen]; omega
                      obtain ⟨r1, r2⟩ := regrow (e0 := ty') hr hg hb hsh hold' (at_ := o + off + len * P.cellsOf e) (by rw [olen]) g1 hat e
                      obtain ⟨B', o', e', m, p1, p2, p3, p4, p5⟩ := hr.cells hg
                      rw [hb] at p1
                      cases p1
                      rw [hsh] at p2
                      cases p2
                      have hst0 := run_storeCells_cells (P := P) B (o + off + len * P.cellsOf e) us 0 w (fun j hj => cell_some hsh (by rw [← g1.length] at hj; omega)) (fun j hj => p4 _ (by rw [← g1.length] at hj; omega)) (g1.one hone)
                      have hst : (match (some (⟨B, o + off, none⟩ : Addr)) with | some a => storeCells (a.add (len * P.cellsOf e)) us | none => pure ()).run P w = .ok () (w.setCells B (o + off + len * P.cellsOf e) us) := by
                        simp only [add_none]
                        simpa using hst0
                      refine ⟨_, .value _, _, by rw [Sem.run_bind, room_run (base := some ⟨B, o + off, none⟩) (sLen := len) ht ht2 he ty hlen1 g2 hroom hst, Result.andThen_ok, Sem.run_pure], .inl ⟨_, rfl, ?_⟩, r1, r2⟩
                      have hv := VR.sl (w := w.setCells B (o + off + len * P.cellsOf e) us) (φ := φ.at H.next (B, o + off)) (b := H.next) (off := 0) (len := len + n) (cap := len + n) (sz := P.cellsOf e) (at_self _ _) hroom (Nat.le_refl _) (r2.shape _ _ hsh) (by simpa using hr')
                      simpa using hv
                    · exact slow _ c rfl (by omega)
                  | sl0 a => exact slow a 0 rfl (by omega)
                · cases h
              · cases h
          · rw [decide_eq_false esz, cond_false] at h; cases h
        · cases h
      · cases h

end
end Go.Proofs.Ytinonmcnofjeeaa.VM
