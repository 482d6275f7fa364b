/- The small machine's operations stand for the program's: slices, elements, comparisons, new rows, maps. -/
import Derived.Test.YtinonmcnofjeeaaVM5
namespace Go.Proofs.Ytinonmcnofjeeaa.VM
set_option linter.unusedSimpArgs false
set_option linter.unusedVariables false
set_option linter.defProp false
set_option maxHeartbeats 1000000
open Go.RowKit

section
variable {P : Program} {φ : Env} {w : World} {H : Heap}

theorem un_ok {op : UnOp} {x v : AV} {u : Value} (hx : VR φ w x u) (h : un op x = some v) : ∃ r, Op.unary op u = pure r ∧ VR φ w v r := by
  cases hx <;> simp only [un] at h <;> try (cases h; done)
  case bool b => cases op <;> simp only at h <;> first | (cases h; done) | (cases h; exact ⟨_, rfl, .bool _⟩)
  case int k n =>
    cases op <;> simp only at h
    case neg => cases h; exact ⟨_, by simp [Op.unary, Op.intArith], .int _ _⟩
    case xor =>
      cases h
      refine ⟨_, ?_, .int _ _⟩
      simp only [Op.unary]
      exact run_intBits _ _ _ _ (.inr (.inr (.inl rfl)))
    all_goals cases h

/-- Perhaps a value. -/
def VRo (φ : Env) (w : World) : Option AV → Option Value → Prop
  | none, none => True
  | some x, some v => VR φ w x v
  | _, _ => False

theorem natOf_ok {x : AV} {u : Value} (hx : VR φ w x u) {y n : Nat} (h : natOf x y = some n) : ∃ k i, u = .int k i ∧ 0 ≤ i ∧ i ≤ y ∧ i.toNat = n := by
  cases hx <;> simp only [natOf] at h <;> try (cases h; done)
  split at h
  · rename_i c
    cases h
    exact ⟨_, _, rfl, c.1, c.2, rfl⟩
  · cases h
theorem bound_ok {x : AV} {u : Value} (hx : VR φ w x u) {y y' n : Nat} (hy : y ≤ y') (h : natOf x y = some n) (c : BoundsCode) : (Instr.sliceBound u y' c).run P w = .ok n w ∧ n ≤ y := by
  obtain ⟨k, i, rfl, h0, h1, rfl⟩ := natOf_ok hx h
  refine ⟨?_, by omega⟩
  have : 0 ≤ i ∧ i ≤ (y' : Int) := ⟨h0, by omega⟩
  simp [Instr.sliceBound, asIntOf, this]

theorem bounds_ok {len cap c : Nat} (hl : len ≤ cap) (hc : cap ≤ c) {lo hi mx : Option AV} {lo' hi' mx' : Option Value} (h1 : VRo φ w lo lo') (h2 : VRo φ w hi hi') (h3 : VRo φ w mx mx') {l h m : Nat}
    (e : bounds len cap lo hi mx = some (l, h, m)) (b : Bool) : ∃ m', (Instr.sliceBounds b len c lo' hi' mx').run P w = .ok (l, h, m') w ∧ m ≤ m' ∧ m' ≤ c ∧ l ≤ h ∧ h ≤ m ∧ (cap = c → m' = m) := by
  unfold bounds at e
  split at e
  · cases e
  · rename_i m0 hm0
    split at e
    · cases e
    · rename_i h0 hh0
      split at e
      · cases e
      · rename_i l0 hl0
        cases e
        -- max
        have A : ∃ m', (match mx' with | some v => Instr.sliceBound v c (if b then .slice3Acap else .slice3Alen) | none => pure c : Sem Nat).run P w = .ok m' w ∧ m ≤ m' ∧ m' ≤ c ∧ m ≤ cap ∧ (cap = c → m' = m) ∧ (mx.isSome = true → m' = m) ∧ (mx = none → m = cap) := by
          cases mx with
          | none =>
            cases mx' with
            | none => simp at hm0; subst hm0; exact ⟨c, rfl, hc, Nat.le_refl _, Nat.le_refl _, fun e => e.symm, by simp, fun _ => rfl⟩
            | some _ => exact h3.elim
          | some x =>
            cases mx' with
            | none => exact h3.elim
            | some v =>
              obtain ⟨g1, g2⟩ := bound_ok (P := P) h3 hc hm0 (if b then .slice3Acap else .slice3Alen)
              exact ⟨m, g1, Nat.le_refl _, by omega, g2, fun _ => rfl, fun _ => rfl, by simp⟩
        obtain ⟨m', a1, a2, a3, a4, a5, a6, a7⟩ := A
        have B : (match hi', mx' with
            | some v, some _ => Instr.sliceBound v m' .slice3B
            | some v, none => Instr.sliceBound v m' (if b then .sliceAcap else .sliceAlen)
            | none, none => pure len
            | none, some _ => stuck "Slice: max without high" : Sem Nat).run P w = .ok h w ∧ h ≤ m := by
          cases hi with
          | none =>
            cases hi' with
            | some _ => exact h2.elim
            | none =>
              simp only at hh0
              cases mx with
              | some _ => simp at hh0
              | none =>
                cases mx' with
                | some _ => exact h3.elim
                | none => simp at hh0; subst hh0; exact ⟨rfl, by rw [a7 rfl]; exact hl⟩
          | some x =>
            cases hi' with
            | none => exact h2.elim
            | some v =>
              simp only at hh0
              cases mx' with
              | none => exact bound_ok (P := P) h2 a2 hh0 _
              | some _ => exact bound_ok (P := P) h2 a2 hh0 _
        have C : (match lo' with | some v => Instr.sliceBound v h (if mx'.isSome then .slice3C else .sliceB) | none => pure 0 : Sem Nat).run P w = .ok l w ∧ l ≤ h := by
          cases lo with
          | none =>
            cases lo' with
            | some _ => exact h1.elim
            | none => simp at hl0; subst hl0; exact ⟨rfl, Nat.zero_le _⟩
          | some x =>
            cases lo' with
            | none => exact h1.elim
            | some v => exact bound_ok (P := P) h1 (Nat.le_refl _) hl0 _
        refine ⟨m', ?_, a2, a3, C.2, B.2, a5⟩
        cases mx' <;> cases hi' <;> cases lo' <;> simp only at a1 B C <;> simp [Instr.sliceBounds] <;> simp_all [stuck]

theorem tx_extract (s : ByteArray) (l h : Nat) : tx (s.extract l h) = ((tx s).drop l).take (h - l) := by
  simp only [tx, ByteArray.data_extract, Array.toList_extract, List.extract, List.map_take, List.map_drop]

theorem op_slice_slice (hr : HR φ w H) {t e : TypeId} (ht : P.underlying t = some (.slice e)) (he : has P e = true) {x v : AV} {u : Value} (hx : VR φ w x u) {lo hi mx : Option AV} {lo' hi' mx' : Option Value}
    (h1 : VRo φ w lo lo') (h2 : VRo φ w hi hi') (h3 : VRo φ w mx mx') (h : sliceV (P.cellsOf e) x lo hi mx = some v) :
    Leaves φ w H ((do pure (Next.value (← Instr.sliceAt t u lo' hi' mx')) : Sem Next).run P w) v H := by
  cases hx <;> simp only [sliceV] at h <;> try (cases h; done)
  case sl b off len cap sz B o c n ty hb hc hl hs hr' =>
    rw [T.beq_dec] at h
    by_cases esz : sz = P.cellsOf e
    · rw [decide_eq_true esz, cond_true] at h
      split at h
      · rename_i l hh m hbd
        cases h
        obtain ⟨m', g1, g2, g3, g4, g5, _⟩ := bounds_ok (P := P) hl hc h1 h2 h3 hbd true
        refine leaves_val hr (u := .slice (if m' = l then some ⟨B, o + off, none⟩ else some ⟨B, o + off + l * P.cellsOf e, none⟩) (hh - l) (m' - l)) ?_ ?_
        · simp only [Instr.sliceAt, Sem.run_bind, run_underlying ht, Result.andThen_ok, Instr.slice, g1, run_size he, Sem.run_pure]
          congr 2
          split
          · rfl
          · simp [add_none]
        · by_cases em : m' = l
          · rw [if_pos em]
            have e1 : hh - l = 0 := by omega
            have e2 : m - l = 0 := by omega
            have e3 : m' - l = 0 := by omega
            rw [e1, e2, e3]
            exact .sl0 _
          · rw [if_neg em]
            subst esz
            rw [show o + off + l * P.cellsOf e = o + (off + l * P.cellsOf e) by omega]
            refine .sl hb (by omega) (by omega) hs ?_
            have : (m' - l) * P.cellsOf e + l * P.cellsOf e ≤ c * P.cellsOf e := by rw [← Nat.add_mul]; exact Nat.mul_le_mul_right _ (by omega)
            omega
      · cases h
    · rw [decide_eq_false esz, cond_false] at h; cases h
  case sl0 b off sz a =>
    rw [T.beq_dec] at h
    by_cases esz : sz = P.cellsOf e
    · rw [decide_eq_true esz, cond_true] at h
      split at h
      · rename_i l hh m hbd
        cases h
        obtain ⟨m', g1, g2, g3, g4, g5, _⟩ := bounds_ok (P := P) (Nat.le_refl 0) (Nat.le_refl 0) h1 h2 h3 hbd true
        have e0 : m' = 0 := by omega
        have e1 : m = 0 := by omega
        have e2 : l = 0 := by omega
        have e3 : hh = 0 := by omega
        subst e0 e1 e2 e3
        refine leaves_val hr (u := .slice (some a) 0 0) ?_ (.sl0 a)
        simp [Instr.sliceAt, run_underlying ht, Instr.slice, g1, run_size he]
      · cases h
    · rw [decide_eq_false esz, cond_false] at h; cases h
  case nils =>
    split at h
    · rename_i r hbd
      cases h
      obtain ⟨l, hh, m⟩ := r
      obtain ⟨m', g1, g2, g3, g4, g5, _⟩ := bounds_ok (P := P) (Nat.le_refl 0) (Nat.le_refl 0) h1 h2 h3 hbd true
      have e0 : m' = 0 := by omega
      have e2 : l = 0 := by omega
      have e3 : hh = 0 := by omega
      subst e0 e2 e3
      refine leaves_val hr (u := .slice none 0 0) ?_ .nils
      simp [Instr.sliceAt, run_underlying ht, Instr.slice, g1, run_size he]
    · cases h
  case rs cs len B off c hl hB hlt hm =>
    split at h
    · rename_i l hh m hbd
      cases h
      cases mx with
      | some _ => simp at hbd
      | none =>
        simp only [Option.isSome_none, Bool.false_eq_true, if_false] at hbd
        obtain ⟨m', g1, g2, g3, g4, g5, _⟩ := bounds_ok (P := P) (Nat.le_refl len) hl h1 h2 h3 hbd true
        refine leaves_val hr (u := .slice (if m' = l then some ⟨B, off, none⟩ else some ⟨B, off + l * P.cellsOf e, none⟩) (hh - l) (m' - l)) ?_ ?_
        · simp only [Instr.sliceAt, Sem.run_bind, run_underlying ht, Result.andThen_ok, Instr.slice, g1, run_size he, Sem.run_pure]
          congr 2
          split
          · rfl
          · simp [add_none]
        · by_cases em : m' = l
          · rw [if_pos em]
            have e1 : hh - l = 0 := by omega
            rw [e1, Nat.zero_mul, List.take_zero]
            exact .rs (Nat.zero_le _) hB hlt .nil
          · rw [if_neg em]
            exact .rs (by omega) hB hlt ((hm.drop _).take _)
    · cases h
  case rs0 a c =>
    split at h
    · rename_i l hh m hbd
      cases h
      cases mx with
      | some _ => simp at hbd
      | none =>
        simp only [Option.isSome_none, Bool.false_eq_true, if_false] at hbd
        obtain ⟨m', g1, g2, g3, g4, g5, _⟩ := bounds_ok (P := P) (Nat.le_refl 0) (Nat.zero_le c) h1 h2 h3 hbd true
        have hm0 : m = 0 := by
          unfold bounds at hbd
          simp only at hbd
          split at hbd
          · cases hbd
          · split at hbd
            · cases hbd
            · cases hbd; rfl
        have e2 : l = 0 := by omega
        have e3 : hh = 0 := by omega
        subst e2 e3
        refine leaves_val hr (u := .slice (if m' = 0 then some a else some (a.add (0 * P.cellsOf e))) 0 m') ?_ ?_
        · simp only [Instr.sliceAt, Sem.run_bind, run_underlying ht, Result.andThen_ok, Instr.slice, g1, run_size he, Sem.run_pure]
          congr 2
        · simp only [List.drop_nil, List.take_nil, Nat.sub_self]
          split <;> exact .rs0 _ _
    · cases h

theorem op_sliceS (hr : HR φ w H) {t : TypeId} (ht : P.underlying t = some .string) {x v : AV} {u : Value} (hx : VR φ w x u) {lo hi : Option AV} {lo' hi' : Option Value}
    (h1 : VRo φ w lo lo') (h2 : VRo φ w hi hi') (h : sliceS x lo hi = some v) :
    Leaves φ w H ((do pure (Next.value (← Instr.sliceAt t u lo' hi' none)) : Sem Next).run P w) v H := by
  cases hx <;> simp only [sliceS] at h <;> try (cases h; done)
  case str s =>
    split at h
    · rename_i l hh m hbd
      cases h
      rw [show (List.map (fun c : UInt8 => c.toNat) s.data.toList).length = s.size from tx_length s] at hbd
      obtain ⟨m', g1, g2, g3, g4, g5, _⟩ := bounds_ok (P := P) (Nat.le_refl s.size) (Nat.le_refl s.size) h1 h2 (show VRo φ w none none from trivial) hbd false
      refine leaves_val hr (u := .string (s.extract l hh)) ?_ ?_
      · simp [Instr.sliceAt, run_underlying ht, Instr.slice, g1]
      · have := VR.str (φ := φ) (w := w) (s.extract l hh)
        rw [show (List.map (fun c : UInt8 => c.toNat) (s.extract l hh).data.toList) = _ from tx_extract s l hh] at this
        exact this
    · cases h

theorem op_slice_arr (hr : HR φ w H) {t e : TypeId} {n : Nat} (ht : P.underlying t = some (.array n e)) (he : has P e = true) {x v : AV} {u : Value} (hx : VR φ w x u) {lo hi mx : Option AV} {lo' hi' mx' : Option Value}
    (h1 : VRo φ w lo lo') (h2 : VRo φ w hi hi') (h3 : VRo φ w mx mx') (h : sliceA H (P.cellsOf e) n x lo hi mx = some v) :
    Leaves φ w H ((do pure (Next.value (← Instr.sliceAt t u lo' hi' mx')) : Sem Next).run P w) v H := by
  cases hx <;> simp only [sliceA] at h <;> try (cases h; done)
  case ptr b off B o hb =>
    split at h
    · rename_i l0 e0 ver hg
      split at h
      · rename_i hle
        split at h
        · rename_i l hh m hbd
          cases h
          obtain ⟨B', o', e', n', q1, q2, q3, q4, hroom⟩ := hr.cells hg
          rw [hb] at q1
          cases q1
          obtain ⟨m', g1, g2, g3, g4, g5, g6⟩ := bounds_ok (P := P) (Nat.le_refl n) (Nat.le_refl n) h1 h2 h3 hbd false
          have em := g6 rfl
          subst em
          refine leaves_val hr (u := .slice (if m' = l then some ⟨B, o + off, none⟩ else some ⟨B, o + off + l * P.cellsOf e, none⟩) (hh - l) (m' - l)) ?_ ?_
          · simp only [Instr.sliceAt, Sem.run_bind, run_underlying ht, Result.andThen_ok, Instr.sureAddr, Sem.run_pure, g1, run_size he]
            congr 2
            split
            · rfl
            · simp [add_none]
          · by_cases em : m' = l
            · rw [if_pos em]
              have e1 : hh - l = 0 := by omega
              have e2 : m' - l = 0 := by omega
              rw [e1, e2]
              exact .sl0 _
            · rw [if_neg em]
              rw [show o + off + l * P.cellsOf e = o + (off + l * P.cellsOf e) by omega]
              refine .sl hb (Nat.le_refl _) (by omega) q2 ?_
              have : (m' - l) * P.cellsOf e + l * P.cellsOf e ≤ n * P.cellsOf e := by rw [← Nat.add_mul]; exact Nat.mul_le_mul_right _ (by omega)
              omega
        · cases h
      · cases h
    · cases h

theorem op_iaddr_slice (hr : HR φ w H) {t e : TypeId} (ht : P.underlying t = some (.slice e)) (he : has P e = true) {x v : AV} {u iv : Value} {k : IntKind} {i : Int} (hx : VR φ w x u) (hi : VR φ w (.int k i) iv)
    (h : (match x with
      | .sl b o len _ sz => if 0 ≤ i ∧ i < len ∧ sz = P.cellsOf e then some (AV.ptr b (o + i.toNat * P.cellsOf e)) else none
      | .rs l len => if 0 ≤ i ∧ i < len then some (AV.rp (l.drop (i.toNat * P.cellsOf e))) else none
      | _ => none) = some v) : Leaves φ w H ((do pure (Next.value (← Instr.indexAt t u iv)) : Sem Next).run P w) v H := by
  cases hi
  cases hx <;> simp only at h <;> try (cases h; done)
  case sl b off len cap sz B o c n ty hb hc hl hs hr' =>
    split at h
    · rename_i c
      cases h
      refine leaves_val hr (u := .pointer (some ⟨B, o + (off + i.toNat * P.cellsOf e), none⟩)) ?_ (.ptr hb)
      have cc : 0 ≤ i ∧ i < (len : Int) := ⟨c.1, c.2.1⟩
      simp [Instr.indexAt, asIntOf, run_underlying ht, cc, run_size he, add_none, Nat.add_assoc]
    · cases h
  case sl0 b off sz a =>
    split at h
    · rename_i c; omega
    · cases h
  case rs0 a c =>
    split at h
    · rename_i c; omega
    · cases h
  case rs cs len B off c hl hB hlt hm =>
    split at h
    · rename_i cc
      cases h
      refine leaves_val hr (u := .pointer (some ⟨B, off + i.toNat * P.cellsOf e, none⟩)) ?_ (.rp hB hlt (hm.drop _))
      simp [Instr.indexAt, asIntOf, run_underlying ht, cc, run_size he, add_none]
    · cases h

theorem op_iaddr_arr (hr : HR φ w H) {t e : TypeId} {n : Nat} (ht : P.underlying t = some (.array n e)) (he : has P e = true) {x v : AV} {u iv : Value} {k : IntKind} {i : Int} (hx : VR φ w x u) (hi : VR φ w (.int k i) iv)
    (h : (match x with
      | .ptr b o => if 0 ≤ i ∧ i < n then some (AV.ptr b (o + i.toNat * P.cellsOf e)) else none
      | _ => none) = some v) : Leaves φ w H ((do pure (Next.value (← Instr.indexAt t u iv)) : Sem Next).run P w) v H := by
  cases hi
  cases hx <;> simp only at h <;> try (cases h; done)
  case ptr b off B o hb =>
    split at h
    · rename_i c
      cases h
      refine leaves_val hr (u := .pointer (some ⟨B, o + (off + i.toNat * P.cellsOf e), none⟩)) ?_ (.ptr hb)
      simp [Instr.indexAt, asIntOf, run_underlying ht, c, run_size he, add_none, Nat.add_assoc, Instr.sureAddr]
    · cases h

theorem op_index_arr (hr : HR φ w H) {t e : TypeId} {n : Nat} (ht : P.underlying t = some (.array n e)) (he : has P e = true) {l : List AV} {v : AV} {u iv : Value} {k : IntKind} {i : Int} (hx : VR φ w (.agg l) u) (hi : VR φ w (.int k i) iv)
    (hc : 0 ≤ i ∧ i < n) (h : part (isAggB P e) l (i.toNat * P.cellsOf e) (P.cellsOf e) = some v) : Leaves φ w H ((do pure (Next.value (← Instr.index t u iv)) : Sem Next).run P w) v H := by
  cases hi
  cases hx with
  | agg hl =>
    obtain ⟨u, hu, hv⟩ := part_ok he hl h
    exact leaves_val hr (by simp [Instr.index, asIntOf, run_underlying ht, hc, run_size he, hu]) hv

theorem op_index_str (hr : HR φ w H) {t : TypeId} (ht : P.underlying t = some .string) {s : List Nat} {v : AV} {u iv : Value} {k : IntKind} {i : Int} (hx : VR φ w (.str s) u) (hi : VR φ w (.int k i) iv)
    (hc : 0 ≤ i) (h : (s[i.toNat]?).map (fun c : Nat => AV.int .u8 c) = some v) : Leaves φ w H ((do pure (Next.value (← Instr.index t u iv)) : Sem Next).run P w) v H := by
  cases hi
  cases hx with
  | str s =>
    rw [Option.map_eq_some_iff] at h
    obtain ⟨c, hc1, rfl⟩ := h
    rw [List.getElem?_map, Option.map_eq_some_iff] at hc1
    obtain ⟨b, hb, rfl⟩ := hc1
    have hb' : s[i.toNat]? = some b := by
      rw [Array.getElem?_toList] at hb
      exact hb
    refine leaves_val hr (u := .int .u8 b.toNat) ?_ (.int _ _)
    simp [Instr.index, asIntOf, run_underlying ht, hc, hb']

end
end Go.Proofs.Ytinonmcnofjeeaa.VM
