/- The small machine's operations stand for the program's: what is built. -/
import Derived.Test.YtinonmcnofjeeaaVM7
namespace Go.Proofs.Ytinonmcnofjeeaa.VM
set_option linter.unusedSimpArgs false
set_option linter.unusedVariables false
set_option linter.defProp false
set_option maxHeartbeats 1000000
open Go.RowKit

theorem take_set1 {α : Type} (l : List α) (n : Nat) (v : α) (h : n < l.length) : (l.set n v).take (n + 1) = l.take n ++ [v] := by
  rw [List.set_eq_take_append_cons_drop, if_pos h, List.take_append]
  have : (l.take n).length = n := by simp; omega
  rw [this, List.take_take]
  simp
theorem drop_set1 {α : Type} (l : List α) (n m : Nat) (v : α) (h : n < m) : (l.set n v).drop m = l.drop m := by
  rw [List.drop_set, if_pos h]

section
variable {P : Program} {φ : Env} {w : World} {H : Heap}

/-- A piece set into a row. -/
theorem setPiece : ∀ (vs : List Value) (k off : Nat) (cs : Array Value), off + k + vs.length ≤ cs.size →
    ((vs.zipIdx k).foldl (fun (cs : Array Value) (x : Value × Nat) => cs.setIfInBounds (off + x.2) x.1) cs).toList = cs.toList.take (off + k) ++ vs ++ cs.toList.drop (off + k + vs.length)
  | [], k, off, cs, _ => by simp
  | v :: vs, k, off, cs, h => by
    simp only [List.length_cons] at h
    rw [List.zipIdx_cons, List.foldl_cons, setPiece vs (k + 1) off _ (by simp; omega)]
    have e : (cs.setIfInBounds (off + k) v).toList = cs.toList.set (off + k) v := by simp
    rw [e, show off + (k + 1) = off + k + 1 by omega]
    have hl : off + k < cs.toList.length := by simp; omega
    rw [take_set1 _ _ _ hl, drop_set1 _ _ _ _ (by omega)]
    simp [Nat.add_assoc, Nat.add_comm 1 vs.length]
theorem setPiece' (vs cs : Array Value) (off : Nat) (h : off + vs.size ≤ cs.size) :
    (vs.zipIdx.foldl (fun (cs : Array Value) (x : Value × Nat) => cs.setIfInBounds (off + x.2) x.1) cs).toList = cs.toList.take off ++ vs.toList ++ cs.toList.drop (off + vs.size) := by
  rw [← Array.foldl_toList, Array.toList_zipIdx, setPiece vs.toList 0 off cs (by simpa using h)]
  simp

/-- Parts stand for parts. -/
inductive PR (φ : Env) (w : World) (place : Nat → Option (Nat × Nat)) : List (Nat × Nat × AV) → List (Nat × Value) → Prop
  | nil : PR φ w place [] []
  | cons {i o n : Nat} {x : AV} {v : Value} {l : List (Nat × Nat × AV)} {l' : List (Nat × Value)} (hp : place i = some (o, n)) (hx : VR φ w x v) (t : PR φ w place l l') : PR φ w place ((o, n, x) :: l) ((i, v) :: l')

theorem fill_ok {place : Nat → Option (Nat × Nat)} : ∀ {ps : List (Nat × Nat × AV)} {ps' : List (Nat × Value)} {l l' : List AV} {cells : Array Value}, PR φ w place ps ps' → VRs φ w l cells.toList → fill l ps = some l' →
    ∃ cells', Instr.fill place cells ps' = some cells' ∧ VRs φ w l' cells'.toList
  | _, _, l, l', cells, .nil, h, e => by cases e; exact ⟨cells, rfl, h⟩
  | _, _, l, l', cells, .cons (o := o) (n := n) (x := x) (v := v) hp hx t, h, e => by
    simp only [fill] at e
    split at e
    · rename_i c hc
      have hcs := hx.cells hc
      by_cases cond : (Nat.beq c.length n && Nat.ble (o + n) l.length) = true
      · rw [cond, cond_true] at e
        rw [Bool.and_eq_true, Nat.beq_eq, Nat.ble_eq] at cond
        have hsz : v.cells.size = n := by rw [← cond.1, hcs.length]; simp
        have hlen := h.length
        have hle : o + v.cells.size ≤ cells.size := by rw [hsz]; have : l.length = cells.size := by simpa using hlen
                                                       omega
        have hnew : VRs φ w (lsets c l o) (v.cells.zipIdx.foldl (fun (cs : Array Value) (x : Value × Nat) => cs.setIfInBounds (o + x.2) x.1) cells).toList := by
          rw [setPiece' _ _ _ hle]
          unfold lsets
          have e1 : c.length = v.cells.size := by rw [hsz]; exact cond.1
          rw [e1]
          exact ((h.take o).append hcs).append (h.drop _)
        obtain ⟨cells', g1, g2⟩ := fill_ok t hnew e
        refine ⟨cells', ?_, g2⟩
        simp only [Instr.fill, hp]
        rw [if_neg (by simp [hsz]; omega)]
        exact g1
      · rw [Bool.not_eq_true] at cond
        rw [cond, cond_false] at e
        cases e
    · cases e

theorem fill_length : ∀ {ps : List (Nat × Nat × AV)} {l l' : List AV}, fill l ps = some l' → l'.length = l.length
  | [], l, l', e => by cases e; rfl
  | (o, n, x) :: ps, l, l', e => by
    simp only [fill] at e
    split at e
    · rename_i c hc
      by_cases cond : (Nat.beq c.length n && Nat.ble (o + n) l.length) = true
      · rw [cond, cond_true] at e
        rw [Bool.and_eq_true, Nat.beq_eq, Nat.ble_eq] at cond
        rw [fill_length e, lsets_length _ _ _ (by omega)]
      · rw [Bool.not_eq_true] at cond
        rw [cond, cond_false] at e
        cases e
    · cases e

theorem parts_ok {nt : Nat} {st : St} {a : Act} (hs : SR φ w nt st a) {place : Nat → Option (Nat × Nat)} : ∀ {ps : List (Nat × Operand)} {q : List (Nat × Nat × Opd)}, cParts place ps = some q →
    PR φ w place (q.map fun (o, n, x) => (o, n, x.eval st)) (ps.map fun (i, x) => (i, a.eval x))
  | [], q, h => by simp [cParts] at h; subst h; exact .nil
  | (i, x) :: ps, q, h => by
    simp only [cParts, List.mapM_cons, Option.bind_eq_bind, Option.bind_eq_some_iff, Option.pure_def, Option.some.injEq] at h
    obtain ⟨y, hy, l', hl, rfl⟩ := h
    split at hy
    · rename_i o n z hp hz
      cases hy
      exact .cons hp (opd_ok hs hz) (parts_ok hs hl)
    · cases hy

theorem run_places : ∀ (fs : List Field), fs.all (fun f => has P f.type) = true →
    (fs.mapM (fun f => (do pure (f.offset, ← sizeOf f.type) : Sem (Nat × Nat)))).run P w = .ok (fs.map fun f => (f.offset, P.cellsOf f.type)) w
  | [], _ => by simp
  | f :: fs, h => by
    simp only [List.all_cons, Bool.and_eq_true] at h
    rw [List.mapM_cons]
    have ih := run_places fs h.2
    simp only [Sem.run_bind, run_size h.1, Result.andThen_ok, Sem.run_pure, ih, List.map_cons]

theorem op_build_struct (hr : HR φ w H) {t : TypeId} {fs : Array Field} (ht : P.underlying t = some (.struct fs)) {z : List AV} (hz : zeroC P t = some z) (hall : fs.toList.all (fun f => has P f.type) = true)
    {ps : List (Nat × Nat × AV)} {ps' : Array (Nat × Value)} (hp : PR φ w (fun i => (fs[i]?).map fun f => (f.offset, P.cellsOf f.type)) ps ps'.toList) {l : List AV} (h : fill z ps = some l) :
    Leaves φ w H ((do pure (Next.value (← Instr.build t ps')) : Sem Next).run P w) (.agg l) H := by
  obtain ⟨i, v, h1, h2, _, _, h5⟩ := zero_spec (φ := φ) (w := w) hz
  obtain ⟨cells', g1, g2⟩ := fill_ok hp h5 h
  refine leaves_val hr (u := .agg cells') ?_ (.agg g2)
  have hm : (fs.mapM (fun f => (do pure (f.offset, ← sizeOf f.type) : Sem (Nat × Nat)))).run P w = .ok (fs.map fun f => (f.offset, P.cellsOf f.type)) w := by
    rw [Array.mapM_eq_mapM_toList, Sem.run_map, run_places _ hall]
    simp only [Result.andThen_ok]
    congr 1
    apply Array.ext'
    simp
  have hpl : (fun i : Nat => (fs.map fun f : Field => (f.offset, P.cellsOf f.type))[i]?) = (fun i : Nat => (fs[i]?).map fun f : Field => (f.offset, P.cellsOf f.type)) := by
    funext i; simp
  simp only [Instr.build, Sem.run_bind, run_zero h1 h2, Result.andThen_ok, run_underlying ht, hm, hpl, g1, Sem.run_pure]

theorem op_build_arr (hr : HR φ w H) {t e : TypeId} {n : Nat} (ht : P.underlying t = some (.array n e)) (he : has P e = true) {z : List AV} (hz : zeroC P t = some z)
    {ps : List (Nat × Nat × AV)} {ps' : Array (Nat × Value)} (hp : PR φ w (fun i => some (i * P.cellsOf e, P.cellsOf e)) ps ps'.toList) {l : List AV} (h : fill z ps = some l) :
    Leaves φ w H ((do pure (Next.value (← Instr.build t ps')) : Sem Next).run P w) (.agg l) H := by
  obtain ⟨i, v, h1, h2, _, _, h5⟩ := zero_spec (φ := φ) (w := w) hz
  obtain ⟨cells', g1, g2⟩ := fill_ok hp h5 h
  refine leaves_val hr (u := .agg cells') ?_ (.agg g2)
  simp only [Instr.build, Sem.run_bind, run_zero h1 h2, Result.andThen_ok, run_underlying ht, run_size he, g1, Sem.run_pure]

/-- n times a zero -/
theorem zeros_list : ∀ (n : Nat) (z : List Value), 0 < z.length → (List.range (n * z.length)).map (fun i => z.getD (i % z.length) undef) = (List.replicate n z).flatten
  | 0, z, _ => by simp
  | n + 1, z, h => by
    rw [List.replicate_succ', List.flatten_append, ← zeros_list n z h, Nat.succ_mul, List.range_add, List.map_append]
    congr 1
    simp only [List.map_map, List.flatten_cons, List.flatten_nil, List.append_nil]
    apply List.ext_getElem
    · simp
    · intro i h1 h2
      simp at h1
      simp [Nat.mul_comm n z.length, Nat.mod_eq_of_lt h1, h1]
theorem VRs.flat {l : List AV} {vs : List Value} (h : VRs φ w l vs) : ∀ n, VRs φ w (List.replicate n l).flatten (List.replicate n vs).flatten
  | 0 => .nil
  | n + 1 => by
    rw [List.replicate_succ, List.replicate_succ, List.flatten_cons, List.flatten_cons]
    exact h.append (h.flat n)
theorem getBang (z : Array Value) (i : Nat) (h : 0 < z.size) : z[i % z.size]! = z.toList.getD (i % z.toList.length) undef := by
  have hl : i % z.size < z.size := Nat.mod_lt _ h
  rw [getElem!_pos z (i % z.size) hl]
  have : i % z.toList.length < z.toList.length := by simpa using hl
  rw [List.getD_eq_getElem?_getD, List.getElem?_eq_getElem this]
  simp

theorem op_bslice (hr : HR φ w H) {nm : Nat} (hn : H.get nm = none) {t e : TypeId} {len : Nat} (ht : P.underlying t = some (.slice e)) {z : List AV} (hz : zeroC P e = some z) (hpos : 0 < z.length) (hle : len * P.cellsOf e ≤ 16777216)
    {ps : List (Nat × Nat × AV)} {ps' : Array (Nat × Value)} (hp : PR φ w (fun i => some (i * P.cellsOf e, P.cellsOf e)) ps ps'.toList) {l : List AV} (h : fill (List.replicate len z).flatten ps = some l) :
    Leaves φ w H ((do pure (Next.value (← Instr.buildSlice t len ps')) : Sem Next).run P w) (.sl nm 0 len len z.length) (H.mk' nm (.cells l e 0)) := by
  obtain ⟨i, v, h1, h2, h3, h4, h5⟩ := zero_spec (φ := φ) (w := w) hz
  have hsz : P.cellsOf e = i.size := by unfold Program.cellsOf; rw [h1]; rfl
  have hrun : (sizeOf e).run P w = .ok (P.cellsOf e) w := by simp [sizeOf, typeInfo, h1, Program.cellsOf]
  have hzs : 0 < v.cells.size := by omega
  have hzc : ((Array.range (len * P.cellsOf e)).map fun j => v.cells[j % v.cells.size]!) = (List.replicate len v.cells.toList).flatten.toArray := by
    rw [hsz, ← h3]
    apply Array.ext'
    have := zeros_list len v.cells.toList (by simpa using hzs)
    rw [Array.toList_map, Array.toList_range, List.toList_toArray, ← this]
    rw [show v.cells.toList.length = v.cells.size by simp]
    apply List.map_congr_left
    intro j _
    rw [getBang v.cells j hzs]
    simp
  obtain ⟨cells', g1, g2⟩ := fill_ok (cells := (List.replicate len v.cells.toList).flatten.toArray) hp (by simpa using h5.flat len) h
  have hlen := g2.length
  have hl : l.length = len * z.length := by
    have := fill_length h
    rw [this]; simp
  refine leaves_new (u := .slice (some ⟨w.heap.size, 0, none⟩) len len) hr hn g2 e e 0 ?_ ?_
  · have hle' : ¬ (len * P.cellsOf e > 2 ^ 24) := by omega
    simp only [Instr.buildSlice, Sem.run_bind, run_underlying ht, Result.andThen_ok, hrun]
    rw [if_neg hle']
    by_cases h0 : len * P.cellsOf e = 0
    · have hlen0 : len = 0 := by
        rcases Nat.mul_eq_zero.1 h0 with h | h
        · exact h
        · omega
      subst hlen0
      rw [if_pos h0]
      simp only [List.replicate_zero, List.flatten_nil] at g1
      have hr0 : Array.range (0 * P.cellsOf e) = #[] := by simp
      simp only [Sem.run_bind, Sem.run_pure, Result.andThen_ok, hr0, Array.map_empty, g1, newRow, run_newObj_alloc]
    · rw [if_neg h0]
      simp only [Sem.run_bind, run_zero h1 h2, Result.andThen_ok, Sem.run_pure, hzc, g1, newRow, run_newObj_alloc]
  · refine .sl (o := 0) (at_self _ _) (Nat.le_refl _) (Nat.le_refl _) (shape_new _ _) ?_
    have : cells'.size = l.length := by rw [hlen]; simp
    omega
end
end Go.Proofs.Ytinonmcnofjeeaa.VM
