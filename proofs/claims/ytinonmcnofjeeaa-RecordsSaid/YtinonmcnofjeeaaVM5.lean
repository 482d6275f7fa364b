/- The small machine's operations stand for the program's, one by one. -/
import Derived.Test.YtinonmcnofjeeaaVM3
import Derived.WalkLawsBesides
namespace Go.Proofs.Ytinonmcnofjeeaa.VM
set_option linter.unusedSimpArgs false
set_option linter.unusedVariables false
set_option linter.defProp false
set_option maxHeartbeats 1000000
open Go.RowKit

/-- What an operation leaves: its value, its memory. -/
def Leaves (φ : Env) (w : World) (H : Heap) (r : Result Next) (v : AV) (h' : Heap) : Prop :=
  ∃ φ' n w', r = .ok n w' ∧ ((∃ u, n = .value u ∧ VR φ' w' v u) ∨ (n = .skip ∧ v = .undef)) ∧ HR φ' w' h' ∧ UpdH φ w H φ' w' h'

section
variable {P : Program} {φ : Env} {w : World} {H : Heap}
/-- It only tells a value. -/
theorem leaves_val (hr : HR φ w H) {s : Sem Value} {u : Value} {v : AV} (hs : s.run P w = .ok u w) (hv : VR φ w v u) :
    Leaves φ w H ((do pure (Next.value (← s)) : Sem Next).run P w) v H :=
  ⟨φ, .value u, w, by simp [hs], .inl ⟨u, rfl, hv⟩, hr, UpdH.refl _ _ _⟩
theorem leaves_drew (hr : HR φ w H) {s : Sem Value} {u : Value} {v : AV} (hs : s.run P w = .ok u w) (hv : VR φ w v u) :
    Leaves φ w H ((do pure (Next.value (← s)) : Sem Next).run P w) v H := leaves_val hr hs hv

/-- It makes a block of cells. -/
theorem leaves_new (hr : HR φ w H) {nm : Nat} (hn : H.get nm = none) {l : List AV} {cs : Array Value} (hl : VRs φ w l cs.toList) (e e' : TypeId) (ver : Nat) {s : Sem Value} {u : Value} {v : AV}
    (hs : s.run P w = .ok u (w.alloc (.cells cs e'))) (hv : VR (φ.at nm (w.heap.size, 0)) (w.alloc (.cells cs e')) v u) :
    Leaves φ w H ((do pure (Next.value (← s)) : Sem Next).run P w) v (H.mk' nm (.cells l e ver)) := by
  have hφ : φ nm = none := by have := hr.blk nm; rw [hn] at this; exact this
  exact ⟨_, .value u, _, by simp [hs], .inl ⟨u, rfl, hv⟩, hr_alloc hr hn (br_new hl hφ e e' ver), updH_alloc hr hn _ _⟩

theorem at_self (nm : Nat) (p : Nat × Nat) : (φ.at nm p) nm = some p := by unfold Env.at; rw [if_pos rfl]
theorem shape_new (cs : Array Value) (e : TypeId) : (w.alloc (.cells cs e)).shape? w.heap.size = some (e, cs.size) := by
  unfold World.shape?
  rw [heap_alloc_new]

theorem zero_spec {t : TypeId} {l : List AV} (h : zeroC P t = some l) : ∃ i v, P.info? t = some i ∧ i.zero = some v ∧ v.cells.size = i.size ∧ l.length = i.size ∧ VRs φ w l v.cells.toList := by
  unfold zeroC at h
  split at h
  · rename_i i hi
    split at h
    · rename_i v hv
      split at h
      · rename_i l' hl
        split at h
        · rename_i c
          cases h
          rw [Option.bind_eq_some_iff] at hl
          obtain ⟨a, ha, hc⟩ := hl
          exact ⟨i, v, hi, hv, c.2, c.1, (avOf_ok ha).cells hc⟩
        · cases h
      · cases h
    · cases h
  · cases h
theorem run_zero {t : TypeId} {i : TypeInfo} {v : Value} (h1 : P.info? t = some i) (h2 : i.zero = some v) : (zeroValue t).run P w = .ok v w := by
  simp [zeroValue, typeInfo, h1, h2]

theorem op_alloc (hr : HR φ w H) {nm : Nat} (hn : H.get nm = none) {t : TypeId} {l : List AV} (h : zeroC P t = some l) :
    Leaves φ w H ((do pure (Next.value (← Instr.alloc t true (.tuple #[]))) : Sem Next).run P w) (.ptr nm 0) (H.mk' nm (.cells l t 0)) := by
  obtain ⟨i, v, h1, h2, _, _, h5⟩ := zero_spec (φ := φ) (w := w) h
  refine leaves_new (u := .pointer (some ⟨w.heap.size, 0, none⟩)) hr hn h5 t t 0 ?_ (.ptr (o := 0) (off := 0) (at_self _ _))
  simp [Instr.alloc, run_zero h1 h2, newVar, newRow]

theorem op_box (hr : HR φ w H) {nm : Nat} (hn : H.get nm = none) (t : TypeId) {x : AV} {u : Value} {l : List AV} (hx : VR φ w x u) (hl : x.cells = some l) :
    Leaves φ w H ((do pure (Next.value (← Instr.box t u)) : Sem Next).run P w) (.ptr nm 0) (H.mk' nm (.cells l t 0)) := by
  refine leaves_new (u := .pointer (some ⟨w.heap.size, 0, none⟩)) hr hn (hx.cells hl) t t 0 ?_ (.ptr (o := 0) (off := 0) (at_self _ _))
  simp [Instr.box, newVar, newRow]

theorem op_load (hr : HR φ w H) {t : TypeId} (ht : has P t = true) {x v : AV} {u : Value} (hx : VR φ w x u)
    (h : (match x with
      | .ptr b off => match H.get b with
        | some (.cells l _ _) => part (isAggB P t) l off (P.cellsOf t)
        | _ => none
      | .rp l => part (isAggB P t) l 0 (P.cellsOf t)
      | _ => none) = some v) : Leaves φ w H ((do pure (Next.value (← Instr.loadAt t u)) : Sem Next).run P w) v H := by
  cases hx <;> simp only at h <;> try (cases h; done)
  case ptr b off B o hb =>
    split at h
    · rename_i l e ver hg
      obtain ⟨B', o', e', n, h1, h2, h3, h4, _⟩ := hr.cells hg
      rw [hb] at h1
      cases h1
      obtain ⟨u, hu, hv⟩ := load_ok ht h3 h
      exact leaves_val hr (by simp [Instr.loadAt, Instr.sureAddr, hu]) hv
    · cases h
  case rp l B off hB hlt hm =>
    obtain ⟨u, hu, hv⟩ := load_ok ht hm h
    exact leaves_val hr (by simpa [Instr.loadAt, Instr.sureAddr] using hu) hv

theorem op_store (hr : HR φ w H) {t : TypeId} (ht : has P t = true) {b off : Nat} {x : AV} {pu u : Value} {c : List AV} {H' : Heap} (hp : VR φ w (.ptr b off) pu) (hx : VR φ w x u) (hc : x.cells = some c)
    (hn : c.length = P.cellsOf t) (e : writeAt H b off c = some H') :
    Leaves φ w H ((do Instr.storeAt t pu u; pure Next.skip : Sem Next).run P w) .undef H' := by
  cases hp with
  | ptr hb =>
    obtain ⟨w', h1, h2, h3⟩ := store_ok ht hr hb hx hc hn e
    exact ⟨φ, .skip, w', by simp [Instr.storeAt, Instr.sureAddr, h1], .inr ⟨rfl, rfl⟩, h2, h3⟩

theorem op_faddr (hr : HR φ w H) {s : TypeId} {fs : Array Field} {i : Nat} {f : Field} (hs : P.underlying s = some (.struct fs)) (hf : fs[i]? = some f) (ht : has P f.type = true) (hz : P.cellsOf f.type ≠ 0)
    {x v : AV} {u : Value} (hx : VR φ w x u)
    (h : (match x with
      | .ptr b o => some (AV.ptr b (o + f.offset))
      | .rp l => some (AV.rp (l.drop f.offset))
      | _ => none) = some v) : Leaves φ w H ((do pure (Next.value (← Instr.fieldAt s u i)) : Sem Next).run P w) v H := by
  cases hx <;> simp only at h <;> try (cases h; done)
  case ptr b off B o hb =>
    cases h
    refine leaves_val hr (u := .pointer (some ⟨B, o + (off + f.offset), none⟩)) ?_ (.ptr hb)
    simp [Instr.fieldAt, run_underlying hs, hf, Instr.sureAddr, fieldPlace, run_size ht, hz, add_none, Nat.add_assoc]
  case rp l B off hB hlt hm =>
    cases h
    refine leaves_val hr (u := .pointer (some ⟨B, off + f.offset, none⟩)) ?_ (.rp hB hlt (hm.drop _))
    simp [Instr.fieldAt, run_underlying hs, hf, Instr.sureAddr, fieldPlace, run_size ht, hz, add_none]

theorem part_ok {t : TypeId} (ht : has P t = true) {l : List AV} {vs : Array Value} (hm : VRs φ w l vs.toList) {off : Nat} {v : AV} (hp : part (isAggB P t) l off (P.cellsOf t) = some v) :
    ∃ u, (Go.part t vs off).run P w = .ok u w ∧ VR φ w v u := by
  obtain ⟨r, e1, e2, e3⟩ := part_spec hp
  have hm' := (hm.drop off).take (P.cellsOf t)
  rw [← e1] at hm'
  unfold Go.part
  rw [Sem.run_bind, run_agg ht, Result.andThen_ok]
  rcases e3 with ⟨ha, rfl⟩ | ⟨ha, rfl⟩
  · rw [ha]
    refine ⟨.agg (vs.extract off (off + P.cellsOf t)), by simp [run_size ht], .agg ?_⟩
    have : (vs.extract off (off + P.cellsOf t)).toList = (vs.toList.drop off).take (P.cellsOf t) := by
      simp [Array.toList_extract, List.extract]
    rw [this]
    exact hm'
  · rw [ha]
    simp only [List.length_cons, List.length_nil, Nat.zero_add] at e2
    rw [← e2] at hm'
    generalize hq : (vs.toList.drop off).take 1 = q at hm'
    cases hm' with
    | cons h t =>
      rename_i u vs'
      have hu : vs[off]? = some u := by
        have : ((vs.toList.drop off).take 1)[0]? = some u := by rw [hq]; rfl
        rw [List.getElem?_take_of_lt (by omega), List.getElem?_drop] at this
        simpa using this
      exact ⟨u, by simp [hu], h⟩

theorem op_field (hr : HR φ w H) {s : TypeId} {fs : Array Field} {i : Nat} {f : Field} (hs : P.underlying s = some (.struct fs)) (hf : fs[i]? = some f) (ht : has P f.type = true)
    {l : List AV} {v : AV} {u : Value} (hx : VR φ w (.agg l) u) (h : part (isAggB P f.type) l f.offset (P.cellsOf f.type) = some v) :
    Leaves φ w H ((do pure (Next.value (← Instr.field s u i)) : Sem Next).run P w) v H := by
  cases hx with
  | agg hl =>
    obtain ⟨u, hu, hv⟩ := part_ok ht hl h
    exact leaves_val hr (by simp [Instr.field, run_underlying hs, hf, asAgg, hu]) hv

theorem op_extract (hr : HR φ w H) {l : List AV} {v : AV} {u : Value} {i : Nat} (hx : VR φ w (.tup l) u) (h : l[i]? = some v) :
    Leaves φ w H ((do pure (Next.value (← Instr.extract u i)) : Sem Next).run P w) v H := by
  cases hx with
  | tup hl =>
    obtain ⟨u, hu, hv⟩ := hl.get h
    refine leaves_val hr (u := u) ?_ hv
    have hu' := by simpa using hu
    simp [Instr.extract, hu']

/-! ### numbers, texts -/
theorem bitsOf_eq (op : BinOp) (k : IntKind) (x y : Int) (h : op = .and ∨ op = .or ∨ op = .xor ∨ op = .andNot) : bitsOf op k x y = Go.bits op k x y := by
  have e : ∀ z : Int, (z % 2 ^ k.bits).toNat = (BitVec.ofInt k.bits z).toNat := fun z => by
    rw [BitVec.toNat_ofInt]; norm_cast
  unfold bitsOf Go.bits
  rw [e x, e y]
  rcases h with rfl | rfl | rfl | rfl
  · show k.wrap ((Nat.land _ _ : Nat) : Int) = k.wrap ((_ &&& _ : BitVec k.bits).toNat : Int)
    rw [BitVec.toNat_and]; rfl
  · show k.wrap ((Nat.lor _ _ : Nat) : Int) = k.wrap ((_ ||| _ : BitVec k.bits).toNat : Int)
    rw [BitVec.toNat_or]; rfl
  · show k.wrap ((Nat.xor _ _ : Nat) : Int) = k.wrap ((_ ^^^ _ : BitVec k.bits).toNat : Int)
    rw [BitVec.toNat_xor]; rfl
  · show k.wrap ((Nat.land _ (2 ^ k.bits - 1 - _) : Nat) : Int) = k.wrap ((_ &&& ~~~_ : BitVec k.bits).toNat : Int)
    rw [BitVec.toNat_and, BitVec.toNat_not]; rfl

theorem run_intBits (op : BinOp) (k : IntKind) (x y : Int) (h : op = .and ∨ op = .or ∨ op = .xor ∨ op = .andNot) : Op.intBits op k x y = pure (.int k (bitsOf op k x y)) := by
  rw [bitsOf_eq op k x y h]
  rcases h with rfl | rfl | rfl | rfl <;> rfl

theorem binInt_ok {op : BinOp} {k : IntKind} {x y : Int} {v : AV} (t : TypeId) (h : binInt op k x y = some v) :
    ∃ u, Go.binOp op t (.int k x) (.int k y) = pure u ∧ VR φ w v u := by
  cases op <;> simp only [binInt] at h
  case add => cases h; exact ⟨_, by simp [Go.binOp, Op.intArith], .int _ _⟩
  case sub => cases h; exact ⟨_, by simp [Go.binOp, Op.intArith], .int _ _⟩
  case mul => cases h; exact ⟨_, by simp [Go.binOp, Op.intArith], .int _ _⟩
  case quo =>
    split at h
    · cases h
    · rename_i hy; cases h; exact ⟨_, by simp [Go.binOp, Op.intDiv, hy], .int _ _⟩
  case rem =>
    split at h
    · cases h
    · rename_i hy; cases h; exact ⟨_, by simp [Go.binOp, Op.intDiv, hy], .int _ _⟩
  case and => cases h; exact ⟨_, by simp only [Go.binOp, ne_eq, not_true_eq_false, if_false]; exact run_intBits _ _ _ _ (.inl rfl), .int _ _⟩
  case or => cases h; exact ⟨_, by simp only [Go.binOp, ne_eq, not_true_eq_false, if_false]; exact run_intBits _ _ _ _ (.inr (.inl rfl)), .int _ _⟩
  case xor => cases h; exact ⟨_, by simp only [Go.binOp, ne_eq, not_true_eq_false, if_false]; exact run_intBits _ _ _ _ (.inr (.inr (.inl rfl))), .int _ _⟩
  case andNot => cases h; exact ⟨_, by simp only [Go.binOp, ne_eq, not_true_eq_false, if_false]; exact run_intBits _ _ _ _ (.inr (.inr (.inr rfl))), .int _ _⟩
  case eql => cases h; exact ⟨.bool (decide (x = y)), by simp [Go.binOp, Op.intCmp]; rfl, .bool _⟩
  case neq => cases h; exact ⟨.bool (!decide (x = y)), by simp [Go.binOp, Op.intCmp]; rfl, .bool _⟩
  case lss => cases h; exact ⟨_, by simp [Go.binOp, Op.intCmp], .bool _⟩
  case leq => cases h; exact ⟨_, by simp [Go.binOp, Op.intCmp], .bool _⟩
  case gtr => cases h; exact ⟨_, by simp [Go.binOp, Op.intCmp], .bool _⟩
  case geq => cases h; exact ⟨_, by simp [Go.binOp, Op.intCmp], .bool _⟩
  all_goals cases h

/-! #### texts -/
abbrev tx (s : ByteArray) : List Nat := s.data.toList.map fun c => c.toNat
theorem tx_inj {a b : List UInt8} : (a.map fun c : UInt8 => c.toNat) = (b.map fun c : UInt8 => c.toNat) ↔ a = b := by
  constructor
  · intro h
    exact List.map_inj_right (fun x y e => UInt8.toNat_inj.1 e) |>.1 h
  · rintro rfl; rfl
theorem strLess_ok : ∀ a b : List UInt8, strLess (a.map fun c => c.toNat) (b.map fun c => c.toNat) = Op.bytesLess a b
  | _, [] => by cases ‹List UInt8› <;> rfl
  | [], _ :: _ => rfl
  | x :: a, y :: b => by
    simp only [List.map_cons, strLess, Op.bytesLess, strLess_ok a b, T.beq_dec]
    have e1 : Nat.blt x.toNat y.toNat = decide (x < y) := by
      rw [Bool.eq_iff_iff, decide_eq_true_eq, UInt8.lt_iff_toNat_lt]
      rw [Nat.blt_eq]
    have e2 : decide (x.toNat = y.toNat) = (x == y) := by
      rw [Bool.eq_iff_iff, decide_eq_true_eq, beq_iff_eq, UInt8.toNat_inj]
    rw [e1, e2]
theorem toList_data (s : ByteArray) : s.toList = s.data.toList := ByteArray.toList_eq s

theorem tx_append (a b : ByteArray) : tx (a ++ b) = tx a ++ tx b := by
  simp [tx, ByteArray.data_append]
theorem tx_length (a : ByteArray) : (tx a).length = a.size := by simp [tx]

theorem binStr_ok {op : BinOp} {a b : ByteArray} {v : AV} (t : TypeId) (h : binStr op (tx a) (tx b) = some v) :
    ∃ u, Go.binOp op t (.string a) (.string b) = pure u ∧ VR φ w v u := by
  have eeq : (tx a == tx b) = (a.toList == b.toList) := by
    rw [Bool.eq_iff_iff, beq_iff_eq, beq_iff_eq, toList_data, toList_data]
    exact tx_inj
  have elt : strLess (tx a) (tx b) = Op.bytesLess a.toList b.toList := by
    rw [toList_data, toList_data]; exact strLess_ok _ _
  unfold binStr at h
  rw [eeq, elt] at h
  cases op <;> simp only at h
  case add =>
    split at h
    · rename_i hlt
      cases h
      refine ⟨.string (a ++ b), ?_, by rw [← tx_append]; exact .str _⟩
      rw [tx_length, tx_length] at hlt
      have : ¬ (((a.size + b.size : Nat) : Int) > IntKind.i64.max) := by
        have : IntKind.i64.max = 9223372036854775807 := by decide
        rw [this]; omega
      simp only [Go.binOp, Op.stringOp]
      rw [if_neg this]
    · cases h
  case eql => cases h; exact ⟨_, by simp only [Go.binOp, Op.stringOp], .bool _⟩
  case neq => cases h; exact ⟨_, by simp only [Go.binOp, Op.stringOp], .bool _⟩
  case lss => cases h; exact ⟨_, by simp only [Go.binOp, Op.stringOp], .bool _⟩
  case leq => cases h; exact ⟨_, by simp only [Go.binOp, Op.stringOp], .bool _⟩
  case gtr => cases h; exact ⟨_, by simp only [Go.binOp, Op.stringOp], .bool _⟩
  case geq => cases h; exact ⟨_, by simp only [Go.binOp, Op.stringOp], .bool _⟩
  all_goals cases h

theorem bin_ok {op : BinOp} {x y v : AV} {u u' : Value} (t : TypeId) (hx : VR φ w x u) (hy : VR φ w y u') (h : bin op x y = some v) :
    ∃ r, Go.binOp op t u u' = pure r ∧ VR φ w v r := by
  cases hx <;> cases hy <;> simp only [bin] at h <;> try (cases h; done)
  case int.int k a k' b =>
    by_cases e : op = .shl
    · subst e
      simp only at h
      split at h
      · cases h
      · rename_i hb
        cases h
        refine ⟨_, ?_, .int _ _⟩
        simp [Go.binOp, Op.shift, hb]
    · by_cases e' : op = .shr
      · subst e'
        simp only at h
        split at h
        · cases h
        · rename_i hb
          cases h
          refine ⟨_, ?_, .int _ _⟩
          simp [Go.binOp, Op.shift, hb]
      · have h' : (if k = k' then binInt op k a b else none) = some v := by
          cases op <;> first | exact h | (exact absurd rfl e) | (exact absurd rfl e')
        split at h'
        · rename_i ek
          subst ek
          exact binInt_ok t h'
        · cases h'
  case str.str a b => exact binStr_ok t h

end
end Go.Proofs.Ytinonmcnofjeeaa.VM
