/- The document's reader: numbers, points, rings, features. What it reads bytes as. -/
import Derived.Test.YtinonmcnofjeeaaL11RefM
import Derived.Test.YtinonmcnofjeeaaL11Get
namespace Go.Proofs.Ytinonmcnofjeeaa.VM
set_option linter.unusedSimpArgs false
set_option linter.unusedVariables false
set_option linter.defProp false
set_option maxHeartbeats 1000000
attribute [local irreducible] Af Nx EvO Ev Un Gd Cd EvR EvQ EvC Nc Gc Lp EvM NxM AfM GdM EvMR EvMQ EvMD EvMC Nm Gm
/-- so many bytes as a number; none: they ended -/
def rdM (n : Nat) : Option (List Nat) → Int × Option (List Nat)
  | none => (0, none)
  | some s => if s.length < n then (0, none) else ((beV (s.take n) : Int), some (s.drop n))
section
variable {α : Type}
def rpO (f : Option (List Nat) → α × Option (List Nat)) : Nat → Option (List Nat) → List α × Option (List Nat)
  | 0, st => ([], st)
  | _ + 1, none => ([], none)
  | n + 1, some s => ((f (some s)).1 :: (rpO f n (f (some s)).2).1, (rpO f n (f (some s)).2).2)
theorem rpO_none (f : Option (List Nat) → α × Option (List Nat)) : ∀ n, rpO f n none = ([], none)
  | 0 => rfl
  | _ + 1 => rfl
theorem rpO_len (f : Option (List Nat) → α × Option (List Nat)) : ∀ n st, (rpO f n st).1.length ≤ n
  | 0, _ => Nat.le_refl _
  | _ + 1, none => Nat.zero_le _
  | n + 1, some s => by
    have := rpO_len f n (f (some s)).2
    rw [rpO, List.length_cons]; omega
def ByO (st : Option (List Nat)) : Prop := ∀ s, st = some s → By s
theorem rpO_by {f : Option (List Nat) → α × Option (List Nat)} (hf : ∀ st, ByO st → ByO (f st).2) : ∀ n st, ByO st → ByO (rpO f n st).2
  | 0, _, h => h
  | _ + 1, none, _ => fun s e => by cases e
  | n + 1, some s, h => rpO_by hf n _ (hf _ h)
theorem rpO_all {f : Option (List Nat) → α × Option (List Nat)} {p : α → Prop} (hb : ∀ st, ByO st → ByO (f st).2) (hf : ∀ st, ByO st → p (f st).1) : ∀ n st, ByO st → ∀ x ∈ (rpO f n st).1, p x
  | 0, _, _, x, hx => by simp [rpO] at hx
  | _ + 1, none, _, x, hx => by simp [rpO] at hx
  | n + 1, some s, h, x, hx => by
    rcases List.mem_cons.1 hx with rfl | hx
    · exact hf _ h
    · exact rpO_all hb hf n _ (hb _ h) x hx
theorem rpO_put {f : Option (List Nat) → α × Option (List Nat)} {F : α → List Nat} : ∀ (l : List α) (t : List Nat), (∀ x ∈ l, ∀ t, f (some (F x ++ t)) = (x, some t)) → rpO f l.length (some ((l.map F).flatten ++ t)) = (l, some t)
  | [], t, _ => rfl
  | x :: l, t, h => by
    rw [List.length_cons, rpO, List.map_cons, List.flatten_cons, List.append_assoc, h x List.mem_cons_self, rpO_put l t fun y hy => h y (List.mem_cons_of_mem _ hy)]
end
theorem rdM_by {n : Nat} {st : Option (List Nat)} (h : ByO st) : ByO (rdM n st).2 := by
  cases st with
  | none => exact fun s e => by cases e
  | some t =>
    intro s e
    simp only [rdM] at e
    split at e
    · cases e
    · cases e
      exact (h t rfl).drop n
theorem rdM_le {n : Nat} (hn : n ≤ 4) {st : Option (List Nat)} (h : ByO st) : 0 ≤ (rdM n st).1 ∧ (rdM n st).1 ≤ 4294967295 := by
  cases st with
  | none => simp [rdM]
  | some t =>
    have := rdN_le hn (h t rfl)
    simp only [rdM]
    unfold rdN at this
    by_cases hl : t.length < n
    · simp [hl]
    · rw [if_neg hl] at this ⊢
      exact this
theorem rdM1_le {st : Option (List Nat)} (h : ByO st) : (rdM 1 st).1 ≤ 255 := by
  cases st with
  | none => simp [rdM]
  | some t =>
    have := rdN1_le (h t rfl)
    simp only [rdM]
    unfold rdN at this
    by_cases hl : t.length < 1
    · simp [hl]
    · rw [if_neg hl] at this ⊢
      exact this
theorem rdM_put {x : Int} {n : Nat} (h0 : 0 ≤ x) (h1 : x < ((256 ^ n : Nat) : Int)) (t : List Nat) : rdM n (some (numB x n ++ t)) = (x, some t) := by
  have hl := numB_len x n
  rw [rdM, if_neg (by rw [List.length_append]; omega), List.take_left' hl, List.drop_left' hl, beV_num h0 h1]
def rdPtM (st : Option (List Nat)) : Pt × Option (List Nat) := (⟨(rdM 4 st).1, (rdM 4 (rdM 4 st).2).1⟩, (rdM 4 (rdM 4 st).2).2)
def rdRingM (st : Option (List Nat)) : List Pt × Option (List Nat) := rpO rdPtM (rdM 1 st).1.toNat (rdM 1 st).2
def rdFeatM (st : Option (List Nat)) : Feat × Option (List Nat) :=
  let a := rdM 2 st; let b := rdM 1 a.2; let c := rdM 1 b.2; let d := rpO rdRingM c.1.toNat c.2
  (⟨a.1, b.1, d.1⟩, d.2)
theorem rdPtM_by {st : Option (List Nat)} (h : ByO st) : ByO (rdPtM st).2 := rdM_by (rdM_by h)
theorem rdRingM_by {st : Option (List Nat)} (h : ByO st) : ByO (rdRingM st).2 := rpO_by (fun _ h => rdPtM_by h) _ _ (rdM_by h)
theorem rdFeatM_by {st : Option (List Nat)} (h : ByO st) : ByO (rdFeatM st).2 := rpO_by (fun _ h => rdRingM_by h) _ _ (rdM_by (rdM_by (rdM_by h)))
theorem i64_rdM {n : Nat} (hn : n ≤ 4) {st : Option (List Nat)} (h : ByO st) : I64 (rdM n st).1 := by
  have := rdM_le hn h
  exact ⟨by omega, by omega⟩
theorem rdRingM_sm {st : Option (List Nat)} (h : ByO st) : ringSm (rdRingM st).1 := by
  refine ⟨?_, rpO_all (fun _ h => rdPtM_by h) (fun s h => ⟨i64_rdM (by decide) h, i64_rdM (by decide) (rdM_by h)⟩) _ _ (rdM_by h)⟩
  have := rpO_len rdPtM (rdM 1 st).1.toNat (rdM 1 st).2
  have := rdM1_le h
  rw [rdRingM]
  omega
theorem rdFeatM_sm {st : Option (List Nat)} (h : ByO st) : featSm (rdFeatM st).1 := by
  refine ⟨i64_rdM (by decide) h, i64_rdM (by decide) (rdM_by h), ?_, rpO_all (fun _ h => rdRingM_by h) (fun s h => rdRingM_sm h) _ _ (rdM_by (rdM_by (rdM_by h)))⟩
  have := rdM1_le (rdM_by (n := 1) (rdM_by (n := 2) h))
  have := rpO_len rdRingM (rdM 1 (rdM 1 (rdM 2 st).2).2).1.toNat (rdM 1 (rdM 1 (rdM 2 st).2).2).2
  show (rpO rdRingM _ _).1.length ≤ _
  omega
theorem rdPtM_put {p : Pt} (h : ptOk p) (t : List Nat) : rdPtM (some (ptB p ++ t)) = (p, some t) := by
  obtain ⟨⟨a, b⟩, ⟨c, d⟩⟩ := h
  rw [rdPtM, ptB, List.append_assoc, rdM_put a (by omega), rdM_put c (by omega)]
theorem rdRingM_put {r : List Pt} (hl : r.length ≤ 255) (h : ∀ p ∈ r, ptOk p) (t : List Nat) : rdRingM (some (ringB r ++ t)) = (r, some t) := by
  rw [rdRingM, ringB, List.append_assoc, rdM_put (by omega) (by omega)]
  simp only [Int.toNat_natCast]
  exact rpO_put r t fun p hp t => rdPtM_put (h p hp) t
theorem rdFeatM_put {f : Feat} (h : featOk f) (t : List Nat) : rdFeatM (some (featB f ++ t)) = (f, some t) := by
  obtain ⟨s0, s2, hp⟩ := featOk_pts h
  obtain ⟨a1, a2, a3, a4, _⟩ := h
  rw [rdFeatM, featB]
  simp only [List.append_assoc]
  rw [rdM_put (by omega) (by omega)]
  simp only
  rw [rdM_put (by omega) (by omega)]
  simp only
  rw [rdM_put (by omega) (by omega)]
  simp only [Int.toNat_natCast]
  rw [rpO_put f.rings t fun r hr t => rdRingM_put (hp r hr).1 (hp r hr).2 t]
/-- a reader that stands here -/
def RR (rb : Nat) (S : List Nat) (st : Option (List Nat)) (h : Heap) : Prop := rb < h.next ∧ By S ∧ S.length < 4611686018427387904 ∧ ∃ (e ver at_ : Nat) (bad : Bool), h.get rb = some (.cells [.str S, .int .i64 (at_ : Nat), .bool bad] e ver) ∧ at_ ≤ S.length ∧ st = (if bad = true then none else some (S.drop at_))
theorem RR.frame {rb : Nat} {S : List Nat} {st : Option (List Nat)} {h h' : Heap} (r : RR rb S st h) (hn : h.next ≤ h'.next) (k : h'.get rb = h.get rb) : RR rb S st h' := by
  obtain ⟨a, b, c, e, ver, x, y, d, z⟩ := r
  exact ⟨by omega, b, c, e, ver, x, y, k.trans d, z⟩
theorem RR.by {rb : Nat} {S : List Nat} {st : Option (List Nat)} {h : Heap} (r : RR rb S st h) : ByO st := by
  obtain ⟨a, b, c, e, ver, x, y, d, z, w⟩ := r
  intro s hs
  rw [w] at hs
  cases y with
  | true => cases hs
  | false =>
    cases hs
    exact b.drop x
section
variable {P : Program}
theorem rrnum_loop (g : Pg P tab) {rb N A : Nat} (hN : N ≤ 4) {t S : List Nat} (ht : By t) (hS : S.length < 4611686018427387904) (hA : A ≤ S.length) (et : t = S.drop A) (hl : N ≤ t.length) {h : Heap} {e : TypeId} {ver : Nat} {bad : Bool} (hb : h.get rb = some (.cells [.str S, .int .i64 (A : Nat), .bool bad] e ver)) (n : Nat) : ∀ (i : Nat) (s : T AV) (k : List Fr) (Q : Ex → T AV → Heap → Prop), i + n = N →
    sg s 0 = .ptr rb 0 → sg s 1 = .int .i64 N → sg s 6 = .int .i64 i → sg s 5 = .int .i64 (beV (t.take i)) →
    (∀ s', sg s' 0 = .ptr rb 0 → sg s' 1 = .int .i64 N → sg s' 5 = .int .i64 (beV (t.take N)) → Un P k Q (.exit 0) s' h) → Lp P b62_0 s h (Un P k Q) := by
  have hlen : t.length = S.length - A := by rw [et, List.length_drop]
  induction n with
  | zero =>
    intro i s k Q hi h0 h1 h6 h5 hQ
    refine g.lpe b62_0.eq_1 ?_
    have c1 : ¬ ((i : Int) < (N : Int)) := by omega
    simp only [h1, h6, c1, R0, R1, R2, R3, R4, R5, R6, R7, R8, R9, VOp.fresh, bxC, bsC, R10, un, most, callsOf, List.contains_nil, List.contains_cons, beq_iff_eq, List.getElem?_cons_zero, List.getElem?_cons_succ, seval, Option.map_none, Int.reducePow, ↓reduceIte, Nat.reduceEqDiff, reduceCtorEq, and_self]
    have e : i = N := by omega
    subst e
    refine hQ _ ?_ ?_ ?_
    · simp only [h0, sg_set, Nat.reduceEqDiff, ↓reduceIte]
    · simp only [h1, sg_set, Nat.reduceEqDiff, ↓reduceIte]
    · simp only [h5, sg_set, Nat.reduceEqDiff, ↓reduceIte]
  | succ n ih =>
    intro i s k Q hi h0 h1 h6 h5 hQ
    refine g.lpe b62_0.eq_1 ?_
    have c1 : (i : Int) < (N : Int) := by omega
    have c2 : (0 : Int) ≤ ((A + i : Nat) : Int) := by omega
    have hb' : t[i]? = some t[i] := List.getElem?_eq_getElem (by omega)
    have hbS : S[A + i]? = some t[i] := by rw [← hb', et, List.getElem?_drop]
    have h256 : t[i] < 256 := ht _ (List.getElem_mem _)
    have hx := beV_lt (ht.take i)
    rw [List.length_take, Nat.min_eq_left (by omega)] at hx
    have hp : 256 ^ i ≤ 256 ^ 3 := Nat.pow_le_pow_right (by decide) (by omega)
    have w0 : IntKind.i64.wrap ((A : Int) + (i : Int)) = ((A + i : Nat) : Int) := by rw [w64 (by omega) (by omega)]; push_cast; rfl
    have w1 : IntKind.i64.wrap ((i : Int) + 1) = ((i + 1 : Nat) : Int) := by rw [w64 (by omega) (by omega)]; push_cast; rfl
    have w2 : IntKind.i64.wrap ((beV (t.take i) : Int) * 256) = (beV (t.take i) : Int) * 256 := w64 (by omega) (by omega)
    have w3 : IntKind.i64.wrap (t[i] : Int) = (t[i] : Int) := w64 (by omega) (by omega)
    have w4 := or_low (x := beV (t.take i)) h256 (by omega)
    have w5 : beV (t.take i) * 256 + t[i] = beV (t.take (i + 1)) := by
      rw [List.take_add_one, hb']
      exact (beV_snoc _ _).symm
    simp only [h0, h1, h5, h6, c1, c2, hb, RS, hbS, w0, w1, w2, w3, w4, w5, R0, R1, R2, R3, R4, R5, R6, R7, R8, R9, VOp.fresh, bxC, bsC, R10, un, most, callsOf, List.contains_nil, List.contains_cons, beq_iff_eq, List.getElem?_cons_zero, List.getElem?_cons_succ, seval, Option.map_none, Int.reducePow, ↓reduceIte, Nat.reduceEqDiff, reduceCtorEq, and_self]
    refine ih (i + 1) _ k Q (by omega) ?_ ?_ ?_ ?_ hQ
    · simp only [h0, sg_set, Nat.reduceEqDiff, ↓reduceIte]
    · simp only [h1, sg_set, Nat.reduceEqDiff, ↓reduceIte]
    · simp only [sg_set, Nat.reduceEqDiff, ↓reduceIte]
    · simp only [sg_set, Nat.reduceEqDiff, ↓reduceIte]
/-- one number: where it leaves the reader -/
theorem rrnum (g : Pg P tab) {rb N : Nat} (hN : N ≤ 4) {S : List Nat} {st : Option (List Nat)} {h : Heap} (r : RR rb S st h) : ∃ (e ver at_ : Nat) (bad : Bool), OK P 62 [.ptr rb 0, .int .i64 N] h (.int .i64 (rdM N st).1) (h.put rb (.cells [.str S, .int .i64 (at_ : Nat), .bool bad] e ver)) ∧
    at_ ≤ S.length ∧ (rdM N st).2 = (if bad = true then none else some (S.drop at_)) := by
  obtain ⟨hrb, hby, hSl, e, ver, A, bad, hb, hA, rfl⟩ := r
  have hlen : (S.drop A).length = S.length - A := List.length_drop
  cases bad with
  | true =>
    refine ⟨e, ver + 1, A, true, OK.of_cl (g.cl (vf := v62) rfl rfl ?_), hA, by simp [rdM]⟩
    simp only [v62, hb, RW, rdM, R0, R1, R2, R3, R4, R5, R6, R7, R8, R9, VOp.fresh, bxC, bsC, R10, un, most, callsOf, List.contains_nil, List.contains_cons, beq_iff_eq, List.getElem?_cons_zero, List.getElem?_cons_succ, seval, Option.map_none, Int.reducePow, ↓reduceIte, Nat.reduceEqDiff, reduceCtorEq, and_self]
  | false =>
    have w0 : IntKind.i64.wrap ((S.length : Int) - (A : Int)) = ((S.length - A : Nat) : Int) := by rw [w64 (by omega) (by omega)]; omega
    by_cases hl : S.length - A < N
    · have c1 : ((S.length - A : Nat) : Int) < (N : Int) := by omega
      refine ⟨e, ver + 1, A, true, OK.of_cl (g.cl (vf := v62) rfl rfl ?_), hA, ?_⟩
      · simp only [v62, hb, RW, w0, c1, rdM, hlen, hl, R0, R1, R2, R3, R4, R5, R6, R7, R8, R9, VOp.fresh, bxC, bsC, R10, un, most, callsOf, List.contains_nil, List.contains_cons, beq_iff_eq, List.getElem?_cons_zero, List.getElem?_cons_succ, seval, Option.map_none, Int.reducePow, ↓reduceIte, Nat.reduceEqDiff, reduceCtorEq, and_self]
      · simp [rdM, hl]
    · have c1 : ¬ ((S.length - A : Nat) : Int) < (N : Int) := by omega
      have w1 : IntKind.i64.wrap ((A : Int) + (N : Int)) = ((A + N : Nat) : Int) := by rw [w64 (by omega) (by omega)]; push_cast; rfl
      refine ⟨e, ver + 1, A + N, false, OK.of_cl (g.cl (vf := v62) rfl rfl ?_), by omega, ?_⟩
      · simp only [v62, hb, w0, c1, R0, R1, R2, R3, R4, R5, R6, R7, R8, R9, VOp.fresh, bxC, bsC, R10, un, most, callsOf, List.contains_nil, List.contains_cons, beq_iff_eq, List.getElem?_cons_zero, List.getElem?_cons_succ, seval, Option.map_none, Int.reducePow, ↓reduceIte, Nat.reduceEqDiff, reduceCtorEq, and_self]
        refine rrnum_loop g hN (hby.drop A) hSl hA rfl (by omega) hb N 0 _ _ _ (by omega) ?_ ?_ ?_ ?_ ?_
        · simp only [sg_set, Nat.reduceEqDiff, ↓reduceIte]
        · simp only [sg_set, Nat.reduceEqDiff, ↓reduceIte]
        · simp only [sg_set, Nat.reduceEqDiff, ↓reduceIte]
          rfl
        · simp only [sg_set, Nat.reduceEqDiff, ↓reduceIte]
          rfl
        · intro s' a0 a1 a5
          simp only [a0, a1, a5, hb, w1, RW, rdM, hlen, hl, R0, R1, R2, R3, R4, R5, R6, R7, R8, R9, VOp.fresh, bxC, bsC, R10, un, most, callsOf, List.contains_nil, List.contains_cons, beq_iff_eq, List.getElem?_cons_zero, List.getElem?_cons_succ, seval, Option.map_none, Int.reducePow, ↓reduceIte, Nat.reduceEqDiff, reduceCtorEq, and_self]
      · simp [rdM, hl, List.drop_drop]
theorem rrnum_cl (g : Pg P tab) {rb N : Nat} (hN : N ≤ 4) {S : List Nat} {st : Option (List Nat)} {h : Heap} (r : RR rb S st h) {Q : AV → Heap → Prop} (q : ∀ h', RR rb S (rdM N st).2 h' → Nx1 rb h h' → Q (.int .i64 (rdM N st).1) h') : Cl P 62 [.ptr rb 0, .int .i64 N] h Q := by
  obtain ⟨e, ver, a, bad, ok, ha, hs⟩ := rrnum g hN r
  obtain ⟨hrb, hby, hSl, _⟩ := r
  exact ok.cl (q _ ⟨hrb, hby, hSl, e, ver, a, bad, by rw [Heap.get_put, if_pos rfl], ha, hs⟩ ⟨rfl, fun b hb => by rw [Heap.get_put, if_neg hb]⟩)
end
end Go.Proofs.Ytinonmcnofjeeaa.VM
