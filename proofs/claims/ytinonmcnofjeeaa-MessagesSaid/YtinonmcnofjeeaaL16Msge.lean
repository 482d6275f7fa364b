/- Part of a proof: what stands for the program, and its walk. No condition. -/
import Derived.Below
import Derived.ChangeArms
import Derived.ChangeMaps5
import Derived.KernelRfl
import Derived.Laws.Cells
import Derived.Laws.IdiomCopy
import Derived.MapKept
import Derived.Orders
import Derived.SizedLaws
import Derived.WalkKit
import Derived.WalkLawsBesides
import GoSem.Claim
import Derived.Test.YtinonmcnofjeeaaL16Msgd
set_option linter.unusedSimpArgs false
set_option linter.unusedVariables false
set_option linter.defProp false
set_option maxHeartbeats 1000000
namespace Go.Proofs.Ytinonmcnofjeeaa.VM
attribute [local irreducible] Af Nx EvO Ev Un Gd Cd EvR EvQ EvC Nc Gc Lp EvM NxM AfM GdM EvMR EvMQ EvMD EvMC Nm Gm
/-- so many bytes as a number; none: they ended -/
def rdM (n : Nat) : Option (List Nat) → Int × Option (List Nat)
  | none => (0, none)
  | some s => if s.length < n then (0, none) else ((beV (s.take n) : Int), some (s.drop n))
section
variable {α : Type}
def rpO (f : Option (List Nat) → α × Option (List Nat)) : Nat → Option (List Nat) → List α × Option (List Nat)
  | 0, st => ([], st)
  | _ + 1, none => ([], none)
  | n + 1, some s => ((f (some s)).1 :: (rpO f n (f (some s)).2).1, (rpO f n (f (some s)).2).2)
theorem rpO_len (f : Option (List Nat) → α × Option (List Nat)) : ∀ n st, (rpO f n st).1.length ≤ n
  | 0, _ => Nat.le_refl _
  | _ + 1, none => Nat.zero_le _
  | n + 1, some s => by
    have := rpO_len f n (f (some s)).2
    rw [rpO, List.length_cons]; omega
def ByO (st : Option (List Nat)) : Prop := ∀ s, st = some s → By s
theorem rpO_by {f : Option (List Nat) → α × Option (List Nat)} (hf : ∀ st, ByO st → ByO (f st).2) : ∀ n st, ByO st → ByO (rpO f n st).2
  | 0, _, h => h
  | _ + 1, none, _ => fun s e => by cases e
  | n + 1, some s, h => rpO_by hf n _ (hf _ h)
theorem rpO_all {f : Option (List Nat) → α × Option (List Nat)} {p : α → Prop} (hb : ∀ st, ByO st → ByO (f st).2) (hf : ∀ st, ByO st → p (f st).1) : ∀ n st, ByO st → ∀ x ∈ (rpO f n st).1, p x
  | 0, _, _, x, hx => by simp [rpO] at hx
  | _ + 1, none, _, x, hx => by simp [rpO] at hx
  | n + 1, some s, h, x, hx => by
    rcases List.mem_cons.1 hx with rfl | hx
    · exact hf _ h
    · exact rpO_all hb hf n _ (hb _ h) x hx
theorem rpO_put {f : Option (List Nat) → α × Option (List Nat)} {F : α → List Nat} : ∀ (l : List α) (t : List Nat), (∀ x ∈ l, ∀ t, f (some (F x ++ t)) = (x, some t)) → rpO f l.length (some ((l.map F).flatten ++ t)) = (l, some t)
  | [], t, _ => rfl
  | x :: l, t, h => by
    rw [List.length_cons, rpO, List.map_cons, List.flatten_cons, List.append_assoc, h x List.mem_cons_self, rpO_put l t fun y hy => h y (List.mem_cons_of_mem _ hy)]
end
theorem rdM_by {n : Nat} {st : Option (List Nat)} (h : ByO st) : ByO (rdM n st).2 := by
  cases st with
  | none => exact fun s e => by cases e
  | some t =>
    intro s e
    simp only [rdM] at e
    split at e
    · cases e
    · cases e
      exact (h t rfl).drop n
theorem rdM_le {n : Nat} (hn : n ≤ 4) {st : Option (List Nat)} (h : ByO st) : 0 ≤ (rdM n st).1 ∧ (rdM n st).1 ≤ 4294967295 := by
  cases st with
  | none => simp [rdM]
  | some t =>
    have := rdN_le hn (h t rfl)
    simp only [rdM]
    unfold rdN at this
    by_cases hl : t.length < n
    · simp [hl]
    · rw [if_neg hl] at this ⊢
      exact this
theorem rdM1_le {st : Option (List Nat)} (h : ByO st) : (rdM 1 st).1 ≤ 255 := by
  cases st with
  | none => simp [rdM]
  | some t =>
    have := rdN1_le (h t rfl)
    simp only [rdM]
    unfold rdN at this
    by_cases hl : t.length < 1
    · simp [hl]
    · rw [if_neg hl] at this ⊢
      exact this
theorem rdM_put {x : Int} {n : Nat} (h0 : 0 ≤ x) (h1 : x < ((256 ^ n : Nat) : Int)) (t : List Nat) : rdM n (some (numB x n ++ t)) = (x, some t) := by
  have hl := numB_len x n
  rw [rdM, if_neg (by rw [List.length_append]; omega), List.take_left' hl, List.drop_left' hl, beV_num h0 h1]
def rdPtM (st : Option (List Nat)) : Pt × Option (List Nat) := (⟨(rdM 4 st).1, (rdM 4 (rdM 4 st).2).1⟩, (rdM 4 (rdM 4 st).2).2)
def rdRingM (st : Option (List Nat)) : List Pt × Option (List Nat) := rpO rdPtM (rdM 1 st).1.toNat (rdM 1 st).2
def rdFeatM (st : Option (List Nat)) : Feat × Option (List Nat) :=
  let a := rdM 2 st; let b := rdM 1 a.2; let c := rdM 1 b.2; let d := rpO rdRingM c.1.toNat c.2
  (⟨a.1, b.1, d.1⟩, d.2)
theorem rdPtM_by {st : Option (List Nat)} (h : ByO st) : ByO (rdPtM st).2 := rdM_by (rdM_by h)
theorem rdRingM_by {st : Option (List Nat)} (h : ByO st) : ByO (rdRingM st).2 := rpO_by (fun _ h => rdPtM_by h) _ _ (rdM_by h)
theorem rdFeatM_by {st : Option (List Nat)} (h : ByO st) : ByO (rdFeatM st).2 := rpO_by (fun _ h => rdRingM_by h) _ _ (rdM_by (rdM_by (rdM_by h)))
theorem i64_rdM {n : Nat} (hn : n ≤ 4) {st : Option (List Nat)} (h : ByO st) : I64 (rdM n st).1 := by
  have := rdM_le hn h
  exact ⟨by omega, by omega⟩
theorem rdRingM_sm {st : Option (List Nat)} (h : ByO st) : ringSm (rdRingM st).1 := by
  refine ⟨?_, rpO_all (fun _ h => rdPtM_by h) (fun s h => ⟨i64_rdM (by decide) h, i64_rdM (by decide) (rdM_by h)⟩) _ _ (rdM_by h)⟩
  have := rpO_len rdPtM (rdM 1 st).1.toNat (rdM 1 st).2
  have := rdM1_le h
  rw [rdRingM]
  omega
theorem rdFeatM_sm {st : Option (List Nat)} (h : ByO st) : featSm (rdFeatM st).1 := by
  refine ⟨i64_rdM (by decide) h, i64_rdM (by decide) (rdM_by h), ?_, rpO_all (fun _ h => rdRingM_by h) (fun s h => rdRingM_sm h) _ _ (rdM_by (rdM_by (rdM_by h)))⟩
  have := rdM1_le (rdM_by (n := 1) (rdM_by (n := 2) h))
  have := rpO_len rdRingM (rdM 1 (rdM 1 (rdM 2 st).2).2).1.toNat (rdM 1 (rdM 1 (rdM 2 st).2).2).2
  show (rpO rdRingM _ _).1.length ≤ _
  omega
theorem rdPtM_put {p : Pt} (h : ptOk p) (t : List Nat) : rdPtM (some (ptB p ++ t)) = (p, some t) := by
  obtain ⟨⟨a, b⟩, ⟨c, d⟩⟩ := h
  rw [rdPtM, ptB, List.append_assoc, rdM_put a (by omega), rdM_put c (by omega)]
theorem rdRingM_put {r : List Pt} (hl : r.length ≤ 255) (h : ∀ p ∈ r, ptOk p) (t : List Nat) : rdRingM (some (ringB r ++ t)) = (r, some t) := by
  rw [rdRingM, ringB, List.append_assoc, rdM_put (by omega) (by omega)]
  simp only [Int.toNat_natCast]
  exact rpO_put r t fun p hp t => rdPtM_put (h p hp) t
theorem rdFeatM_put {f : Feat} (h : featOk f) (t : List Nat) : rdFeatM (some (featB f ++ t)) = (f, some t) := by
  obtain ⟨s0, s2, hp⟩ := featOk_pts h
  obtain ⟨a1, a2, a3, a4, _⟩ := h
  rw [rdFeatM, featB]
  simp only [List.append_assoc]
  rw [rdM_put (by omega) (by omega)]
  simp only
  rw [rdM_put (by omega) (by omega)]
  simp only
  rw [rdM_put (by omega) (by omega)]
  simp only [Int.toNat_natCast]
  rw [rpO_put f.rings t fun r hr t => rdRingM_put (hp r hr).1 (hp r hr).2 t]
/-- a reader that stands here -/
def RR (rb : Nat) (S : List Nat) (st : Option (List Nat)) (h : Heap) : Prop := rb < h.next ∧ By S ∧ S.length < 4611686018427387904 ∧ ∃ (e ver at_ : Nat) (bad : Bool), h.get rb = some (.cells [.str S, .int .i64 (at_ : Nat), .bool bad] e ver) ∧ at_ ≤ S.length ∧ st = (if bad = true then none else some (S.drop at_))
theorem RR.frame {rb : Nat} {S : List Nat} {st : Option (List Nat)} {h h' : Heap} (r : RR rb S st h) (hn : h.next ≤ h'.next) (k : h'.get rb = h.get rb) : RR rb S st h' := by
  obtain ⟨a, b, c, e, ver, x, y, d, z⟩ := r
  exact ⟨by omega, b, c, e, ver, x, y, k.trans d, z⟩
theorem RR.by {rb : Nat} {S : List Nat} {st : Option (List Nat)} {h : Heap} (r : RR rb S st h) : ByO st := by
  obtain ⟨a, b, c, e, ver, x, y, d, z, w⟩ := r
  intro s hs
  rw [w] at hs
  cases y with
  | true => cases hs
  | false =>
    cases hs
    exact b.drop x
section
variable {P : Program}
theorem rrnum_loop (g : Pg P tab) {rb N A : Nat} (hN : N ≤ 4) {t S : List Nat} (ht : By t) (hS : S.length < 4611686018427387904) (hA : A ≤ S.length) (et : t = S.drop A) (hl : N ≤ t.length) {h : Heap} {e : TypeId} {ver : Nat} {bad : Bool} (hb : h.get rb = some (.cells [.str S, .int .i64 (A : Nat), .bool bad] e ver)) (n : Nat) : ∀ (i : Nat) (s : T AV) (k : List Fr) (Q : Ex → T AV → Heap → Prop), i + n = N →
    sg s 0 = .ptr rb 0 → sg s 1 = .int .i64 N → sg s 6 = .int .i64 i → sg s 5 = .int .i64 (beV (t.take i)) →
    (∀ s', sg s' 0 = .ptr rb 0 → sg s' 1 = .int .i64 N → sg s' 5 = .int .i64 (beV (t.take N)) → Un P k Q (.exit 0) s' h) → Lp P b62_0 s h (Un P k Q) := by
  have hlen : t.length = S.length - A := by rw [et, List.length_drop]
  induction n with
  | zero =>
    intro i s k Q hi h0 h1 h6 h5 hQ
    refine g.lpe b62_0.eq_1 ?_
    have c1 : ¬ ((i : Int) < (N : Int)) := by omega
    simp only [h1, h6, c1, RX, VOp.fresh, bxC, bsC, un, most, callsOf, seval, Int.reducePow, ↓reduceIte, Nat.reduceEqDiff, reduceCtorEq]
    have e : i = N := by omega
    subst e
    refine hQ _ ?_ ?_ ?_
    · simp only [h0, sg_set, Nat.reduceEqDiff, ↓reduceIte]
    · simp only [h1, sg_set, Nat.reduceEqDiff, ↓reduceIte]
    · simp only [h5, sg_set, Nat.reduceEqDiff, ↓reduceIte]
  | succ n ih =>
    intro i s k Q hi h0 h1 h6 h5 hQ
    refine g.lpe b62_0.eq_1 ?_
    have c1 : (i : Int) < (N : Int) := by omega
    have c2 : (0 : Int) ≤ ((A + i : Nat) : Int) := by omega
    have hb' : t[i]? = some t[i] := List.getElem?_eq_getElem (by omega)
    have hbS : S[A + i]? = some t[i] := by rw [← hb', et, List.getElem?_drop]
    have h256 : t[i] < 256 := ht _ (List.getElem_mem _)
    have hx := beV_lt (ht.take i)
    rw [List.length_take, Nat.min_eq_left (by omega)] at hx
    have hp : 256 ^ i ≤ 256 ^ 3 := Nat.pow_le_pow_right (by decide) (by omega)
    have w0 : IntKind.i64.wrap ((A : Int) + (i : Int)) = ((A + i : Nat) : Int) := by rw [w64 (by omega) (by omega)]; push_cast; rfl
    have w1 : IntKind.i64.wrap ((i : Int) + 1) = ((i + 1 : Nat) : Int) := by rw [w64 (by omega) (by omega)]; push_cast; rfl
    have w2 : IntKind.i64.wrap ((beV (t.take i) : Int) * 256) = (beV (t.take i) : Int) * 256 := w64 (by omega) (by omega)
    have w3 : IntKind.i64.wrap (t[i] : Int) = (t[i] : Int) := w64 (by omega) (by omega)
    have w4 := or_low (x := beV (t.take i)) h256 (by omega)
    have w5 : beV (t.take i) * 256 + t[i] = beV (t.take (i + 1)) := by
      rw [List.take_add_one, hb']
      exact (beV_snoc _ _).symm
    simp only [h0, h1, h5, h6, c1, c2, hb, RS, hbS, w0, w1, w2, w3, w4, w5, RX, VOp.fresh, bxC, bsC, un, most, callsOf, seval, Int.reducePow, ↓reduceIte, Nat.reduceEqDiff, reduceCtorEq]
    refine ih (i + 1) _ k Q (by omega) ?_ ?_ ?_ ?_ hQ
    · simp only [h0, sg_set, Nat.reduceEqDiff, ↓reduceIte]
    · simp only [h1, sg_set, Nat.reduceEqDiff, ↓reduceIte]
    · simp only [sg_set, Nat.reduceEqDiff, ↓reduceIte]
    · simp only [sg_set, Nat.reduceEqDiff, ↓reduceIte]
/-- one number: where it leaves the reader -/
theorem rrnum (g : Pg P tab) {rb N : Nat} (hN : N ≤ 4) {S : List Nat} {st : Option (List Nat)} {h : Heap} (r : RR rb S st h) : ∃ (e ver at_ : Nat) (bad : Bool), OK P 62 [.ptr rb 0, .int .i64 N] h (.int .i64 (rdM N st).1) (h.put rb (.cells [.str S, .int .i64 (at_ : Nat), .bool bad] e ver)) ∧
    at_ ≤ S.length ∧ (rdM N st).2 = (if bad = true then none else some (S.drop at_)) := by
  obtain ⟨hrb, hby, hSl, e, ver, A, bad, hb, hA, rfl⟩ := r
  have hlen : (S.drop A).length = S.length - A := List.length_drop
  cases bad with
  | true =>
    refine ⟨e, ver + 1, A, true, OK.of_cl (g.cl (vf := v62) rfl rfl ?_), hA, by simp [rdM]⟩
    simp only [v62, hb, RW, rdM, RX, VOp.fresh, bxC, bsC, un, most, callsOf, seval, Int.reducePow, ↓reduceIte, Nat.reduceEqDiff, reduceCtorEq]
  | false =>
    have w0 : IntKind.i64.wrap ((S.length : Int) - (A : Int)) = ((S.length - A : Nat) : Int) := by rw [w64 (by omega) (by omega)]; omega
    by_cases hl : S.length - A < N
    · have c1 : ((S.length - A : Nat) : Int) < (N : Int) := by omega
      refine ⟨e, ver + 1, A, true, OK.of_cl (g.cl (vf := v62) rfl rfl ?_), hA, ?_⟩
      · simp only [v62, hb, RW, w0, c1, rdM, hlen, hl, RX, VOp.fresh, bxC, bsC, un, most, callsOf, seval, Int.reducePow, ↓reduceIte, Nat.reduceEqDiff, reduceCtorEq]
      · simp [rdM, hl]
    · have c1 : ¬ ((S.length - A : Nat) : Int) < (N : Int) := by omega
      have w1 : IntKind.i64.wrap ((A : Int) + (N : Int)) = ((A + N : Nat) : Int) := by rw [w64 (by omega) (by omega)]; push_cast; rfl
      refine ⟨e, ver + 1, A + N, false, OK.of_cl (g.cl (vf := v62) rfl rfl ?_), by omega, ?_⟩
      · simp only [v62, hb, w0, c1, RX, VOp.fresh, bxC, bsC, un, most, callsOf, seval, Int.reducePow, ↓reduceIte, Nat.reduceEqDiff, reduceCtorEq]
        refine rrnum_loop g hN (hby.drop A) hSl hA rfl (by omega) hb N 0 _ _ _ (by omega) ?_ ?_ ?_ ?_ ?_
        · simp only [sg_set, Nat.reduceEqDiff, ↓reduceIte]
        · simp only [sg_set, Nat.reduceEqDiff, ↓reduceIte]
        · simp only [sg_set, Nat.reduceEqDiff, ↓reduceIte]
          rfl
        · simp only [sg_set, Nat.reduceEqDiff, ↓reduceIte]
          rfl
        · intro s' a0 a1 a5
          simp only [a0, a1, a5, hb, w1, RW, rdM, hlen, hl, RX, VOp.fresh, bxC, bsC, un, most, callsOf, seval, Int.reducePow, ↓reduceIte, Nat.reduceEqDiff, reduceCtorEq]
      · simp [rdM, hl, List.drop_drop]
theorem rrnum_cl (g : Pg P tab) {rb N : Nat} (hN : N ≤ 4) {S : List Nat} {st : Option (List Nat)} {h : Heap} (r : RR rb S st h) {Q : AV → Heap → Prop} (q : ∀ h', RR rb S (rdM N st).2 h' → Nx1 rb h h' → Q (.int .i64 (rdM N st).1) h') : Cl P 62 [.ptr rb 0, .int .i64 N] h Q := by
  obtain ⟨e, ver, a, bad, ok, ha, hs⟩ := rrnum g hN r
  obtain ⟨hrb, hby, hSl, _⟩ := r
  exact ok.cl (q _ ⟨hrb, hby, hSl, e, ver, a, bad, by rw [Heap.get_put, if_pos rfl], ha, hs⟩ ⟨rfl, fun b hb => by rw [Heap.get_put, if_neg hb]⟩)
end
end Go.Proofs.Ytinonmcnofjeeaa.VM
namespace Go.Proofs.Ytinonmcnofjeeaa.VM
attribute [local irreducible] Af Nx EvO Ev Un Gd Cd EvR EvQ EvC Nc Gc Lp EvM NxM AfM GdM EvMR EvMQ EvMD EvMC Nm Gm
theorem RR.none {rb : Nat} {S : List Nat} {h : Heap} (r : RR rb S none h) : ∃ e ver x, h.get rb = some (.cells [.str S, .int .i64 x, .bool true] e ver) := by
  obtain ⟨a, b, c, e, ver, x, y, d, z, w⟩ := r
  cases y with
  | true => exact ⟨e, ver, _, d⟩
  | false => simp at w
theorem RR.some {rb : Nat} {S t : List Nat} {h : Heap} (r : RR rb S (some t) h) : ∃ e ver x, h.get rb = some (.cells [.str S, .int .i64 x, .bool false] e ver) := by
  obtain ⟨a, b, c, e, ver, x, y, d, z, w⟩ := r
  cases y with
  | true => simp at w
  | false => exact ⟨e, ver, _, d⟩
section
variable {P : Program}
theorem rr_pts (g : Pg P tab) {rb : Nat} {S : List Nat} {h1 : Heap} (hrb : rb < h1.next) (n : Nat) : ∀ (done : List Pt) (st : Option (List Nat)) (s : T AV) (h : Heap) (k : List Fr) (Q : Ex → T AV → Heap → Prop), done.length + n ≤ 1000 →
    LR h (h1.next ≤ ·) (sg s 7) 2 ((done.map cPt).flatten) done.length → RR rb S st h → ExtX rb h1 h → sg s 0 = .ptr rb 0 → sg s 6 = .int .i64 (done.length + n : Nat) → sg s 8 = .int .i64 done.length →
    (∀ s' h', LR h' (h1.next ≤ ·) (sg s' 7) 2 (((done ++ (rpO rdPtM n st).1).map cPt).flatten) (done ++ (rpO rdPtM n st).1).length → RR rb S (rpO rdPtM n st).2 h' → ExtX rb h1 h' → (∀ j, j = 0 ∨ j = 2 ∨ j = 3 ∨ j = 4 ∨ j = 5 → sg s' j = sg s j) → Un P k Q (.exit 2) s' h') → Lp P b80_0 s h (Un P k Q) := by
  induction n with
  | zero =>
    intro done st s h k Q hl r rp ex h0 h6 h8 hQ
    refine g.lpe b80_0.eq_1 ?_
    have c1 : ¬ ((done.length : Int) < (done.length : Int)) := by omega
    rw [Nat.add_zero] at h6
    simp only [h6, h8, c1, RX, VOp.fresh, bxC, bsC, un, most, callsOf, seval, Int.reducePow, ↓reduceIte, Nat.reduceEqDiff, reduceCtorEq]
    refine hQ _ _ ?_ rp ex ?_
    · simp only [sg_set, Nat.reduceEqDiff, ↓reduceIte]
      simpa [rpO] using r
    · rintro j (rfl | rfl | rfl | rfl | rfl) <;> simp only [sg_set, Nat.reduceEqDiff, ↓reduceIte]
  | succ n ih =>
    intro done st s h k Q hl r rp ex h0 h6 h8 hQ
    refine g.lpe b80_0.eq_1 ?_
    have c1 : (done.length : Int) < ((done.length + (n + 1) : Nat) : Int) := by omega
    have w1 : IntKind.i64.wrap ((done.length : Int) + 1) = ((done.length + 1 : Nat) : Int) := by rw [w64 (by omega) (by omega)]; push_cast; rfl
    cases st with
    | none =>
      obtain ⟨e, ver, x, gb⟩ := rp.none
      simp only [h0, h6, h8, c1, gb, RX, VOp.fresh, bxC, bsC, un, most, callsOf, seval, Int.reducePow, ↓reduceIte, Nat.reduceEqDiff, reduceCtorEq]
      refine hQ _ _ ?_ rp ex ?_
      · simp only [sg_set, Nat.reduceEqDiff, ↓reduceIte]
        simpa [rpO] using r
      · rintro j (rfl | rfl | rfl | rfl | rfl) <;> simp only [sg_set, Nat.reduceEqDiff, ↓reduceIte]
    | some t =>
      obtain ⟨e, ver, x, gb⟩ := rp.some
      simp only [h0, h6, h8, c1, gb, RX, VOp.fresh, bxC, bsC, un, most, callsOf, seval, Int.reducePow, ↓reduceIte, Nat.reduceEqDiff, reduceCtorEq]
      refine rrnum_cl g (N := 4) (by decide) rp fun h2 rp2 x2 => ?_
      simp only [h0, RX, VOp.fresh, bxC, bsC, un, most, callsOf, seval, Int.reducePow, ↓reduceIte, Nat.reduceEqDiff, reduceCtorEq]
      refine rrnum_cl g (N := 4) (by decide) rp2 fun h3 rp3 x3 => ?_
      have hnb : ¬ h1.next ≤ rb := by omega
      have r3 := (r.nx x2 hnb).nx x3 hnb
      have ex3 := (ex.trans x2.x).trans x3.x
      have em := Ext.mk (h := h3) (.cells [.int .i64 (rdM 4 (some t)).1, .int .i64 (rdM 4 (rdM 4 (some t)).2).1] 48 0)
      have hn3 : (h3.mk' h3.next (.cells [.int .i64 (rdM 4 (some t)).1, .int .i64 (rdM 4 (rdM 4 (some t)).2).1] 48 0)).next = h3.next + 1 := by rw [mk_next]; omega
      obtain ⟨h4, e4, r4, n4, k4⟩ := (r3.frame em.1 fun b _ hb => em.2 b hb).push (nb := h3.next) (eb := 48) (vb := 0) (c := [.int .i64 (rdM 4 (some t)).1, .int .i64 (rdM 4 (rdM 4 (some t)).2).1]) (by rw [Heap.get_mk, if_pos rfl]) rfl rfl (Lvs.tolds rfl rfl) (by rw [hn3]; have := ex3.1; omega) (bytes := 16) (by unfold most2; omega) 48
      rw [hn3] at e4 r4 n4 k4
      have hv := r3.inB
      have kk : ∀ b, b < h3.next → b ∉ blkOf (sg s 7) → h4.get b = h3.get b := fun b hb hn => (k4 b hn (by omega)).trans (em.2 b hb)
      have hrb3 : rb < h3.next := rp3.1
      simp only [h0, h8, e4, w1, RX, VOp.fresh, bxC, bsC, un, most, callsOf, seval, Int.reducePow, ↓reduceIte, Nat.reduceEqDiff, reduceCtorEq]
      refine ih (done ++ [⟨(rdM 4 (some t)).1, (rdM 4 (rdM 4 (some t)).2).1⟩]) (rdM 4 (rdM 4 (some t)).2).2 _ h4 k Q (by rw [List.length_append, List.length_singleton]; omega) ?_ ?_ ?_ ?_ ?_ ?_ ?_
      · simp only [sg_set, Nat.reduceEqDiff, ↓reduceIte]
        simpa only [List.map_append, List.flatten_append, List.map_cons, List.map_nil, List.flatten_cons, List.flatten_nil, List.append_nil, List.length_append, List.length_singleton, cPt] using r4
      · exact rp3.frame (by omega) (kk rb hrb3 fun hc => hnb (hv rb hc))
      · exact ⟨by have := ex3.1; omega, fun b hb hx => (kk b (by have := ex3.1; omega) fun hc => by have := hv b hc; omega).trans (ex3.2 b hb hx)⟩
      · simp only [h0, sg_set, Nat.reduceEqDiff, ↓reduceIte]
      · simp only [h6, sg_set, Nat.reduceEqDiff, ↓reduceIte]
        rw [List.length_append, List.length_singleton]
        congr 2; omega
      · simp only [sg_set, Nat.reduceEqDiff, ↓reduceIte]
        rw [List.length_append, List.length_singleton]
      · intro s' h' q1 q2 q3 q4
        refine hQ s' h' ?_ q2 q3 fun j hj => (q4 j hj).trans ?_
        · simpa only [rpO, rdPtM, List.append_assoc, List.cons_append, List.nil_append] using q1
        · rcases hj with rfl | rfl | rfl | rfl | rfl <;> simp only [sg_set, Nat.reduceEqDiff, ↓reduceIte]
theorem rr_rings (g : Pg P tab) {rb fb N0 : Nat} {S : List Nat} {G : Nat → Option Blk} {p0 p1 : AV} (hrb : rb < N0) (hfb : fb < N0) (hne : fb ≠ rb) (n : Nat) : ∀ (done : List (List Pt)) (st : Option (List Nat)) (s : T AV) (h : Heap) (rv : AV) (k : List Fr) (Q : Ex → T AV → Heap → Prop), done.length + n ≤ 1000 →
    N0 ≤ h.next → (∃ e ver, h.get fb = some (.cells [p0, p1, rv] e ver)) → LR h (N0 ≤ ·) rv 1 (done.map cRing) done.length → RR rb S st h → (∀ b, b < N0 → b ≠ rb → b ≠ fb → h.get b = G b) → sg s 0 = .ptr rb 0 → sg s 3 = .ptr fb 0 → sg s 4 = .int .i64 (done.length + n : Nat) → sg s 5 = .int .i64 done.length →
    (∀ s' h' rv', (∃ e ver, h'.get fb = some (.cells [p0, p1, rv'] e ver)) → LR h' (N0 ≤ ·) rv' 1 ((done ++ (rpO rdRingM n st).1).map cRing) (done ++ (rpO rdRingM n st).1).length → RR rb S (rpO rdRingM n st).2 h' → (∀ b, b < N0 → b ≠ rb → b ≠ fb → h'.get b = G b) → N0 ≤ h'.next → (∀ j, j = 2 ∨ j = 3 → sg s' j = sg s j) → Un P k Q (.exit 0) s' h') → Lp P b80_1 s h (Un P k Q) := by
  induction n with
  | zero =>
    intro done st s h rv k Q hl hn0 hf r rp ex h0 h3 h4 h5 hQ
    refine g.lpe b80_1.eq_1 ?_
    have c1 : ¬ ((done.length : Int) < (done.length : Int)) := by omega
    rw [Nat.add_zero] at h4
    simp only [h4, h5, c1, RX, VOp.fresh, bxC, bsC, un, most, callsOf, seval, Int.reducePow, ↓reduceIte, Nat.reduceEqDiff, reduceCtorEq]
    refine hQ _ _ rv hf ?_ rp ex hn0 ?_
    · simpa [rpO] using r
    · rintro j (rfl | rfl) <;> simp only [sg_set, Nat.reduceEqDiff, ↓reduceIte]
  | succ n ih =>
    intro done st s h rv k Q hl hn0 hf r rp ex h0 h3 h4 h5 hQ
    refine g.lpe b80_1.eq_1 ?_
    have c1 : (done.length : Int) < ((done.length + (n + 1) : Nat) : Int) := by omega
    have w1 : IntKind.i64.wrap ((done.length : Int) + 1) = ((done.length + 1 : Nat) : Int) := by rw [w64 (by omega) (by omega)]; push_cast; rfl
    have hnb : ¬ N0 ≤ rb := by omega
    cases st with
    | none =>
      obtain ⟨e, ver, x, gb⟩ := rp.none
      simp only [h0, h4, h5, c1, gb, RX, VOp.fresh, bxC, bsC, un, most, callsOf, seval, Int.reducePow, ↓reduceIte, Nat.reduceEqDiff, reduceCtorEq]
      refine hQ _ _ rv hf ?_ rp ex hn0 ?_
      · simpa [rpO] using r
      · rintro j (rfl | rfl) <;> simp only [sg_set, Nat.reduceEqDiff, ↓reduceIte]
    | some t =>
      obtain ⟨e, ver, x, gb⟩ := rp.some
      simp only [h0, h4, h5, c1, gb, RX, VOp.fresh, bxC, bsC, un, most, callsOf, seval, Int.reducePow, ↓reduceIte, Nat.reduceEqDiff, reduceCtorEq]
      refine rrnum_cl g (N := 1) (by decide) rp fun h2 rp2 x2 => ?_
      have hby := rp.by
      have hk := rdM1_le hby
      have hk0 := (rdM_le (n := 1) (by decide) hby).1
      obtain ⟨m, hm⟩ : ∃ m : Nat, (rdM 1 (some t)).1 = (m : Int) := ⟨(rdM 1 (some t)).1.toNat, by omega⟩
      have e2 := x2.next
      simp only [h0, h3, h4, h5, hm, RX, VOp.fresh, bxC, bsC, un, most, callsOf, seval, Int.reducePow, ↓reduceIte, Nat.reduceEqDiff, reduceCtorEq]
      refine rr_pts g (h1 := h2) (by omega) m [] _ _ h2 _ _ (by simp; omega) ?_ rp2 ExtX.refl ?_ ?_ ?_ ?_
      · simp only [sg_set, Nat.reduceEqDiff, ↓reduceIte]
        exact .nil _ _ _
      · simp only [h0, sg_set, Nat.reduceEqDiff, ↓reduceIte]
      · simp only [sg_set, Nat.reduceEqDiff, ↓reduceIte]
        simp
      · simp only [sg_set, Nat.reduceEqDiff, ↓reduceIte]
        rfl
      intro s' h4' r4 rp4 x4 ks
      have a0 := ks 0 (by simp)
      have a2 := ks 2 (by simp)
      have a3 := ks 3 (by simp)
      have a4 := ks 4 (by simp)
      have a5 := ks 5 (by simp)
      simp only [sg_set, Nat.reduceEqDiff, ↓reduceIte, h0, h3, h4, h5] at a0 a2 a3 a4 a5
      clear ks
      obtain ⟨ef, vf, hf⟩ := hf
      have hf4 : h4'.get fb = some (.cells [p0, p1, rv] ef vf) := (x4.2 fb (by omega) hne).trans ((x2.keep fb hne).trans hf)
      have r4' : LR h4' (N0 ≤ ·) rv 1 (done.map cRing) done.length := (r.nx x2 hnb).frame x4.1 fun b hb hlt => x4.2 b hlt fun e => hnb (e ▸ hb)
      rw [List.nil_append] at r4
      generalize hv4 : sg s' 7 = v4 at r4
      have em := Ext.mk (h := h4') (.cells [v4] 49 0)
      have hn4 : (h4'.mk' h4'.next (.cells [v4] 49 0)).next = h4'.next + 1 := by rw [mk_next]; omega
      have hlt2 := (r.nx x2 hnb).lt
      have lv4 : Lvs (h4'.mk' h4'.next (.cells [v4] 49 0)) (fun b => N0 ≤ b ∧ b ∉ blkOf rv) [v4] [cRing (rpO rdPtM m (rdM 1 (some t)).2).1] := by
        refine .cons ?_ .nil
        have l := r4.lv
        exact (l.frame em.1 fun b _ hb => em.2 b hb).weak fun b hb _ => ⟨by omega, fun hc => by have := hlt2 b hc; omega⟩
      obtain ⟨h5', e5, r5, n5, k5⟩ := (r4'.frame em.1 fun b _ hb => em.2 b hb).push (nb := h4'.next) (eb := 49) (vb := 0) (c := [v4]) (by rw [Heap.get_mk, if_pos rfl]) rfl (by simp [r4.one]) lv4 (by rw [hn4]; have := x4.1; omega) (bytes := 24) (by unfold most2; omega) 49
      rw [hn4] at e5 r5 n5 k5
      have kk : ∀ b, b < h4'.next → b ∉ blkOf rv → h5'.get b = h4'.get b := fun b hb hn => (k5 b hn (by omega)).trans (em.2 b hb)
      have hv := r4'.inB
      have hf5 : h5'.get fb = some (.cells [p0, p1, rv] ef vf) := (kk fb (by have := x4.1; omega) fun hc => by have := hv fb hc; omega).trans hf4
      have hfn : ¬ fb = h4'.next := by have := x4.1; omega
      have hvc := r4.cells
      simp only [a0, a3, a4, a5, hv4, hf4, hf5, hfn, e5, w1, RW, hvc, RX, VOp.fresh, bxC, bsC, un, most, callsOf, seval, Int.reducePow, ↓reduceIte, Nat.reduceEqDiff, reduceCtorEq]
      have er : rdRingM (some t) = (rpO rdPtM m (rdM 1 (some t)).2) := by rw [rdRingM, hm, Int.toNat_natCast]
      rw [← er] at lv4 r5 rp4
      refine ih (done ++ [(rdRingM (some t)).1]) (rdRingM (some t)).2 _ _ (.sl (h4'.next + 1) 0 (done.length + 1) (done.length + 1) 1) k Q (by rw [List.length_append, List.length_singleton]; omega) ?_ ?_ ?_ ?_ ?_ ?_ ?_ ?_ ?_ ?_
      · rw [put_next]; have := x4.1; omega
      · exact ⟨ef, vf + 1, by rw [Heap.get_put, if_pos rfl]⟩
      · have r6 := (r5.weak (B' := fun b => N0 ≤ b ∧ b ≠ fb) fun b hb _ => ⟨hb, by omega⟩).frame (h' := h5'.put fb (.cells [p0, p1, .sl (h4'.next + 1) 0 (done.length + 1) (done.length + 1) 1] ef (vf + 1))) (by rw [put_next]; exact Nat.le_refl _) fun b hb _ => by rw [Heap.get_put, if_neg hb.2]
        have r7 := r6.weak (B' := (N0 ≤ ·)) fun b hb _ => hb.1
        simpa only [List.map_append, List.map_cons, List.map_nil, List.length_append, List.length_singleton] using r7
      · exact (rp4.frame (by omega) (kk rb rp4.1 fun hc => by have := hv rb hc; omega)).frame (by rw [put_next]; exact Nat.le_refl _) (by rw [Heap.get_put, if_neg (fun e => hne e.symm)])
      · intro b hb hx hf'
        rw [Heap.get_put, if_neg hf', kk b (by have := x4.1; omega) (fun hc => by have := hv b hc; omega), x4.2 b (by omega) hx, x2.keep b hx, ex b hb hx hf']
      · simp only [a0, sg_set, Nat.reduceEqDiff, ↓reduceIte]
      · simp only [a3, sg_set, Nat.reduceEqDiff, ↓reduceIte]
      · simp only [a4, sg_set, Nat.reduceEqDiff, ↓reduceIte]
        rw [List.length_append, List.length_singleton]
        congr 2; omega
      · simp only [sg_set, Nat.reduceEqDiff, ↓reduceIte]
        rw [List.length_append, List.length_singleton]
      · intro s'' h' rv' q0 q1 q2 q3 q4 q5
        refine hQ s'' h' rv' q0 ?_ q2 q3 q4 fun j hj => (q5 j hj).trans ?_
        · simpa only [rpO, List.append_assoc, List.cons_append, List.nil_append] using q1
        · rcases hj with rfl | rfl
          · simp only [a2, sg_set, Nat.reduceEqDiff, ↓reduceIte]
          · simp only [a3, h3, sg_set, Nat.reduceEqDiff, ↓reduceIte]
end
end Go.Proofs.Ytinonmcnofjeeaa.VM
namespace Go.Proofs.Ytinonmcnofjeeaa.VM
attribute [local irreducible] Af Nx EvO Ev Un Gd Cd EvR EvQ EvC Nc Gc Lp EvM NxM AfM GdM EvMR EvMQ EvMD EvMC Nm Gm
def rdMpM (st : Option (List Nat)) : Mp × Option (List Nat) :=
  let a := rdM 2 st; let b := rdM 1 a.2; let c := rpO (rdM 4) b.1.toNat b.2; let d := rpO (rdM 1) b.1.toNat c.2
  (⟨a.1, c.1, d.1⟩, d.2)
theorem rdMpM_by {st : Option (List Nat)} (h : ByO st) : ByO (rdMpM st).2 := rpO_by (fun _ h => rdM_by h) _ _ (rpO_by (fun _ h => rdM_by h) _ _ (rdM_by (rdM_by h)))
theorem rdMpM_sm {st : Option (List Nat)} (h : ByO st) : mpSm (rdMpM st).1 := by
  have := rdM1_le (rdM_by (n := 2) h)
  refine ⟨i64_rdM (by decide) h, ⟨?_, rpO_all (fun _ h => rdM_by h) (fun s h => i64_rdM (by decide) h) _ _ (rdM_by (rdM_by h))⟩, ⟨?_, rpO_all (fun _ h => rdM_by h) (fun s h => i64_rdM (by decide) h) _ _ (rpO_by (fun _ h => rdM_by h) _ _ (rdM_by (rdM_by h)))⟩⟩
  · have := rpO_len (rdM 4) (rdM 1 (rdM 2 st).2).1.toNat (rdM 1 (rdM 2 st).2).2
    show (rpO (rdM 4) _ _).1.length ≤ _
    omega
  · have := rpO_len (rdM 1) (rdM 1 (rdM 2 st).2).1.toNat (rpO (rdM 4) (rdM 1 (rdM 2 st).2).1.toNat (rdM 1 (rdM 2 st).2).2).2
    show (rpO (rdM 1) _ _).1.length ≤ _
    omega
theorem rdMpM_put {m : Mp} {nodes : Int} (h : mpOk nodes m) (t : List Nat) : rdMpM (some (mpB m ++ t)) = (m, some t) := by
  obtain ⟨h1, h2⟩ := mpOk_pts h
  obtain ⟨a1, a2, a3, a4, a5, a6, a7, a8, _⟩ := h
  rw [rdMpM, mpB]
  simp only [List.append_assoc]
  rw [rdM_put (by omega) (by omega)]
  simp only
  rw [rdM_put (by omega) (by omega)]
  simp only [Int.toNat_natCast]
  rw [rpO_put m.starts _ fun x hx t => rdM_put (h1 x hx).1 (by have := (h1 x hx).2; omega) t]
  simp only
  rw [← a7, rpO_put m.owners t fun x hx t => rdM_put (h2 x hx).1 (by have := (h2 x hx).2; omega) t]
section
variable {P : Program}
theorem rr_feat (g : Pg P tab) {rb : Nat} {S : List Nat} {t : Option (List Nat)} {h : Heap} (rp : RR rb S t h) {Q : AV → Heap → Prop} (q : ∀ rv h', LR h' (h.next ≤ ·) rv 1 ((rdFeatM t).1.rings.map cRing) (rdFeatM t).1.rings.length → RR rb S (rdFeatM t).2 h' → ExtX rb h h' → Q (.agg [.int .i64 (rdFeatM t).1.id, .int .i64 (rdFeatM t).1.shape, rv]) h') : Cl P 80 [.ptr rb 0] h Q := by
  refine g.cl (vf := v80) rfl rfl ?_
  have hrb := rp.1
  have n1 : (h.mk' h.next (.cells [.int .i64 0, .int .i64 0, .nils] 52 0)).next = h.next + 1 := by rw [mk_next]; omega
  have x1 := Ext.mk (h := h) (.cells [.int .i64 0, .int .i64 0, .nils] 52 0)
  have x1b := Ext.mk (h := h.mk' h.next (.cells [.int .i64 0, .int .i64 0, .nils] 52 0)) (.cells [.int .i64 0, .int .i64 0, .nils] 52 0)
  rw [n1] at x1b
  have x1' := x1.trans x1b
  have g1 : ((h.mk' h.next (.cells [.int .i64 0, .int .i64 0, .nils] 52 0)).mk' (h.next + 1) (.cells [.int .i64 0, .int .i64 0, .nils] 52 0)).get h.next = some (.cells [.int .i64 0, .int .i64 0, .nils] 52 0) := by rw [Heap.get_mk, if_neg (by omega), Heap.get_mk, if_pos rfl]
  have g1b : ((h.mk' h.next (.cells [.int .i64 0, .int .i64 0, .nils] 52 0)).mk' (h.next + 1) (.cells [.int .i64 0, .int .i64 0, .nils] 52 0)).get (h.next + 1) = some (.cells [.int .i64 0, .int .i64 0, .nils] 52 0) := by rw [Heap.get_mk, if_pos rfl]
  have n1b : ((h.mk' h.next (.cells [.int .i64 0, .int .i64 0, .nils] 52 0)).mk' (h.next + 1) (.cells [.int .i64 0, .int .i64 0, .nils] 52 0)).next = h.next + 2 := by rw [mk_next, n1]; omega
  have rp1 := rp.frame x1'.1 (x1'.2 rb hrb)
  simp only [v80, RX, VOp.fresh, bxC, bsC, un, most, callsOf, seval, Int.reducePow, ↓reduceIte, Nat.reduceEqDiff, reduceCtorEq]
  generalize (h.mk' h.next (.cells [.int .i64 0, .int .i64 0, .nils] 52 0)).mk' (h.next + 1) (.cells [.int .i64 0, .int .i64 0, .nils] 52 0) = h1 at *
  refine rrnum_cl g (N := 2) (by decide) rp1 fun h2 rp2 x2 => ?_
  have e2 := x2.next
  have g2 := (x2.keep (h.next + 1) (by omega)).trans g1b
  have g2' := (x2.keep h.next (by omega)).trans g1
  have rp2' : RR rb S (rdM 2 t).2 (h2.put (h.next + 1) (.cells [.int .i64 (rdM 2 t).1, .int .i64 0, .nils] 52 1)) := rp2.frame (Nat.le_refl _) (by rw [Heap.get_put, if_neg (by omega)])
  simp only [g2, RW, RX, VOp.fresh, bxC, bsC, un, most, callsOf, seval, Int.reducePow, ↓reduceIte, Nat.reduceEqDiff, reduceCtorEq]
  refine rrnum_cl g (N := 1) (by decide) rp2' fun h3 rp3 x3 => ?_
  have e3 : h3.next = h2.next := x3.next
  have g3 := (x3.keep (h.next + 1) (by omega)).trans (by rw [Heap.get_put, if_pos rfl])
  have g3' := ((x3.keep h.next (by omega)).trans (by rw [Heap.get_put, if_neg (by omega)])).trans g2'
  have rp3' : RR rb S (rdM 1 (rdM 2 t).2).2 (h3.put (h.next + 1) (.cells [.int .i64 (rdM 2 t).1, .int .i64 (rdM 1 (rdM 2 t).2).1, .nils] 52 2)) := rp3.frame (Nat.le_refl _) (by rw [Heap.get_put, if_neg (by omega)])
  simp only [g3, RW, RX, VOp.fresh, bxC, bsC, un, most, callsOf, seval, Int.reducePow, ↓reduceIte, Nat.reduceEqDiff, reduceCtorEq]
  refine rrnum_cl g (N := 1) (by decide) rp3' fun h5 rp5 x5 => ?_
  have e5 : h5.next = h3.next := x5.next
  have hby := rp3.by
  have hk := rdM1_le hby
  have hk0 := (rdM_le (n := 1) (by decide) hby).1
  obtain ⟨m, hm⟩ : ∃ m : Nat, (rdM 1 (rdM 1 (rdM 2 t).2).2).1 = (m : Int) := ⟨(rdM 1 (rdM 1 (rdM 2 t).2).2).1.toNat, by omega⟩
  have g5 := (x5.keep (h.next + 1) (by omega)).trans (by rw [Heap.get_put, if_pos rfl])
  have g5b := ((x5.keep h.next (by omega)).trans (by rw [Heap.get_put, if_neg (by omega)])).trans g3'
  have xa : ExtX rb h h5 := ⟨by omega, fun b hb hx => by rw [x5.keep b hx, Heap.get_put, if_neg (by omega), x3.keep b hx, Heap.get_put, if_neg (by omega), x2.keep b hx]; exact x1'.2 b hb⟩
  simp only [hm, RX, VOp.fresh, bxC, bsC, un, most, callsOf, seval, Int.reducePow, ↓reduceIte, Nat.reduceEqDiff, reduceCtorEq]
  refine rr_rings g (N0 := h5.next) (G := h5.get) (fb := h.next + 1) (p0 := .int .i64 (rdM 2 t).1) (p1 := .int .i64 (rdM 1 (rdM 2 t).2).1) (by have := rp5.1; omega) (by omega) (by omega) m [] _ _ h5 .nils _ _ (by simp; omega) (Nat.le_refl _) ⟨_, _, g5⟩ (.nil _ _ _) rp5 (fun _ _ _ _ => rfl) ?_ ?_ ?_ ?_ ?_
  · simp only [sg_set, Nat.reduceEqDiff, ↓reduceIte]
  · simp only [sg_set, Nat.reduceEqDiff, ↓reduceIte]
  · simp only [sg_set, Nat.reduceEqDiff, ↓reduceIte]
    simp
  · simp only [sg_set, Nat.reduceEqDiff, ↓reduceIte]
    rfl
  intro s' h6 rv ⟨ef, vf, g6⟩ r6 rp6 x6 n6 ks
  have a2 := ks 2 (by simp)
  have a3 := ks 3 (by simp)
  simp only [sg_set, Nat.reduceEqDiff, ↓reduceIte] at a2 a3
  have er : (rdFeatM t) = (⟨(rdM 2 t).1, (rdM 1 (rdM 2 t).2).1, (rpO rdRingM m (rdM 1 (rdM 1 (rdM 2 t).2).2).2).1⟩, (rpO rdRingM m (rdM 1 (rdM 1 (rdM 2 t).2).2).2).2) := by
    rw [rdFeatM]
    simp only [hm, Int.toNat_natCast]
  have g6b := (x6 h.next (by omega) (by omega) (by omega)).trans g5b
  simp only [a2, a3, g6, g6b, RW, r6.one, RX, VOp.fresh, bxC, bsC, un, most, callsOf, seval, Int.reducePow, ↓reduceIte, Nat.reduceEqDiff, reduceCtorEq]
  rw [List.nil_append] at r6
  have hq := q rv (h6.put h.next (.cells [.int .i64 (rdM 2 t).1, .int .i64 (rdM 1 (rdM 2 t).2).1, rv] 52 1))
  rw [er] at hq
  refine hq ?_ ?_ ?_
  · exact ((r6.weak (B' := fun b => h.next ≤ b ∧ b ≠ h.next) fun b hb _ => ⟨by omega, by omega⟩).frame (by rw [put_next]; exact Nat.le_refl _) fun b hb _ => by rw [Heap.get_put, if_neg hb.2]).weak fun b hb _ => hb.1
  · exact rp6.frame (by rw [put_next]; exact Nat.le_refl _) (by rw [Heap.get_put, if_neg (by omega)])
  · refine ⟨by rw [put_next]; omega, fun b hb hx => ?_⟩
    rw [Heap.get_put, if_neg (by omega), x6 b (by have := xa.1; omega) hx (by omega)]
    exact xa.2 b hb hx
theorem rr_ints0 (g : Pg P tab) {rb fb N0 : Nat} {S : List Nat} {G : Nat → Option Blk} {p0 p1 : AV} (hrb : rb < N0) (hfb : fb < N0) (hne : fb ≠ rb) (n : Nat) : ∀ (done : List Int) (st : Option (List Nat)) (s : T AV) (h : Heap) (rv : AV) (k : List Fr) (Q : Ex → T AV → Heap → Prop), done.length + n ≤ 1000 →
    N0 ≤ h.next → (∃ e ver, h.get fb = some (.cells [p0, rv, p1] e ver)) → LR h (N0 ≤ ·) rv 1 (done.map (AV.int .i64)) done.length → RR rb S st h → (∀ b, b < N0 → b ≠ rb → b ≠ fb → h.get b = G b) → sg s 0 = .ptr rb 0 → sg s 3 = .ptr fb 0 → sg s 4 = .int .i64 (done.length + n : Nat) → sg s 5 = .int .i64 done.length →
    (∀ s' h' rv', (∃ e ver, h'.get fb = some (.cells [p0, rv', p1] e ver)) → LR h' (N0 ≤ ·) rv' 1 ((done ++ (rpO (rdM 4) n st).1).map (AV.int .i64)) (done ++ (rpO (rdM 4) n st).1).length → RR rb S (rpO (rdM 4) n st).2 h' → (∀ b, b < N0 → b ≠ rb → b ≠ fb → h'.get b = G b) → N0 ≤ h'.next → (∀ j, j = 0 ∨ j = 2 ∨ j = 3 ∨ j = 4 → sg s' j = sg s j) → Un P k Q (.exit 0) s' h') → Lp P b63_0 s h (Un P k Q) := by
  induction n with
  | zero =>
    intro done st s h rv k Q hl hn0 hf r rp ex h0 h3 h4 h13 hQ
    refine g.lpe b63_0.eq_1 ?_
    have c1 : ¬ ((done.length : Int) < (done.length : Int)) := by omega
    rw [Nat.add_zero] at h4
    simp only [h4, h13, c1, RX, VOp.fresh, bxC, bsC, un, most, callsOf, seval, Int.reducePow, ↓reduceIte, Nat.reduceEqDiff, reduceCtorEq]
    refine hQ _ _ rv hf ?_ rp ex hn0 ?_
    · simpa [rpO] using r
    · rintro j (rfl | rfl | rfl | rfl) <;> simp only [sg_set, Nat.reduceEqDiff, ↓reduceIte]
  | succ n ih =>
    intro done st s h rv k Q hl hn0 hf r rp ex h0 h3 h4 h13 hQ
    refine g.lpe b63_0.eq_1 ?_
    have c1 : (done.length : Int) < ((done.length + (n + 1) : Nat) : Int) := by omega
    have w1 : IntKind.i64.wrap ((done.length : Int) + 1) = ((done.length + 1 : Nat) : Int) := by rw [w64 (by omega) (by omega)]; push_cast; rfl
    have hnb : ¬ N0 ≤ rb := by omega
    cases st with
    | none =>
      obtain ⟨e, ver, x, gb⟩ := rp.none
      simp only [h0, h4, h13, c1, gb, RX, VOp.fresh, bxC, bsC, un, most, callsOf, seval, Int.reducePow, ↓reduceIte, Nat.reduceEqDiff, reduceCtorEq]
      refine hQ _ _ rv hf ?_ rp ex hn0 ?_
      · simpa [rpO] using r
      · rintro j (rfl | rfl | rfl | rfl) <;> simp only [sg_set, Nat.reduceEqDiff, ↓reduceIte]
    | some t =>
      obtain ⟨e0, ver0, x0, gb⟩ := rp.some
      obtain ⟨ef, vf, hf⟩ := hf
      obtain ⟨e, ver, a, bad, hok, ha, hs⟩ := rrnum g (N := 4) (by decide) rp
      replace hok : OK P 62 [.ptr rb 0, .int .i64 4] h (.int .i64 (rdM 4 (some t)).1) (h.put rb (.cells [.str S, .int .i64 (a : Nat), .bool bad] e ver)) := hok
      simp only [h0, h3, h4, h13, c1, gb, RX, VOp.fresh, bxC, bsC, un, most, callsOf, seval, Int.reducePow, ↓reduceIte, Nat.reduceEqDiff, reduceCtorEq]
      refine EvD.lk (fun _ _ h => (.int .i64 (rdM 4 (some t)).1, h.put rb (.cells [.str S, .int .i64 (a : Nat), .bool bad] e ver))) ?_
      have x2 : Nx1 rb h (h.put rb (.cells [.str S, .int .i64 (a : Nat), .bool bad] e ver)) := ⟨rfl, fun b hb => by rw [Heap.get_put, if_neg hb]⟩
      have rp2 : RR rb S (rdM 4 (some t)).2 (h.put rb (.cells [.str S, .int .i64 (a : Nat), .bool bad] e ver)) := ⟨rp.1, rp.2.1, rp.2.2.1, e, ver, a, bad, by rw [Heap.get_put, if_pos rfl], ha, hs⟩
      generalize hh2 : h.put rb (.cells [.str S, .int .i64 (a : Nat), .bool bad] e ver) = h2 at hok x2 rp2
      have e2 := x2.next
      have r2 := r.nx x2 hnb
      have hf2 := (x2.keep fb hne).trans hf
      have em := Ext.mk (h := h2) (.cells [.int .i64 (rdM 4 (some t)).1] 3 0)
      have hn4 : (h2.mk' h2.next (.cells [.int .i64 (rdM 4 (some t)).1] 3 0)).next = h2.next + 1 := by rw [mk_next]; omega
      obtain ⟨h5, e5, r5, n5, k5⟩ := (r2.frame em.1 fun b _ hb => em.2 b hb).push (nb := h2.next) (eb := 3) (vb := 0) (c := [.int .i64 (rdM 4 (some t)).1]) (by rw [Heap.get_mk, if_pos rfl]) rfl rfl (Lvs.tolds rfl rfl) (by rw [hn4]; omega) (bytes := 8) (by unfold most2; omega) 3
      rw [hn4] at e5 r5 n5 k5
      have hv := r2.inB
      have kk : ∀ b, b < h2.next → b ∉ blkOf rv → h5.get b = h2.get b := fun b hb hn => (k5 b hn (by omega)).trans (em.2 b hb)
      have hf5 := (kk fb (by omega) fun hc => by have := hv fb hc; omega).trans hf2
      have hfn : ¬ fb = h2.next := by omega
      have hfr : ¬ fb = rb := hne
      simp only [h0, h3, hf, hf2, hf5, hfn, hok, hh2, e5, w1, RW, r2.one, RX, VOp.fresh, bxC, bsC, un, most, callsOf, seval, Int.reducePow, ↓reduceIte, Nat.reduceEqDiff, reduceCtorEq]
      refine ⟨⟨⟨?_, ?_, trivial⟩, trivial⟩, ?_⟩
      · show Lk _ _ _ _
        simp only [Lk, wanted, hf2, RX, VOp.fresh, bxC, bsC, un, most, callsOf, seval, Int.reducePow, ↓reduceIte, Nat.reduceEqDiff, reduceCtorEq]
      · show Lk _ _ _ _
        simp only [Lk, wanted, hf2, hfn, RX, VOp.fresh, bxC, bsC, un, most, callsOf, seval, Int.reducePow, ↓reduceIte, Nat.reduceEqDiff, reduceCtorEq]
      simp only [h13, w1, RX, VOp.fresh, bxC, bsC, un, most, callsOf, seval, Int.reducePow, ↓reduceIte, Nat.reduceEqDiff, reduceCtorEq]
      refine ih (done ++ [(rdM 4 (some t)).1]) (rdM 4 (some t)).2 _ _ (.sl (h2.next + 1) 0 (done.length + 1) (done.length + 1) 1) k Q (by rw [List.length_append, List.length_singleton]; omega) ?_ ?_ ?_ ?_ ?_ ?_ ?_ ?_ ?_ ?_
      · rw [put_next]; omega
      · exact ⟨ef, vf + 1, by rw [Heap.get_put, if_pos rfl]⟩
      · have r6 := (r5.weak (B' := fun b => N0 ≤ b ∧ b ≠ fb) fun b hb _ => ⟨hb, by omega⟩).frame (h' := h5.put fb (.cells [p0, .sl (h2.next + 1) 0 (done.length + 1) (done.length + 1) 1, p1] ef (vf + 1))) (by rw [put_next]; exact Nat.le_refl _) fun b hb _ => by rw [Heap.get_put, if_neg hb.2]
        have r7 := r6.weak (B' := (N0 ≤ ·)) fun b hb _ => hb.1
        simpa only [List.map_append, List.map_cons, List.map_nil, List.length_append, List.length_singleton] using r7
      · exact (rp2.frame (by omega) (kk rb rp2.1 fun hc => by have := hv rb hc; omega)).frame (by rw [put_next]; exact Nat.le_refl _) (by rw [Heap.get_put, if_neg (fun e => hne e.symm)])
      · intro b hb hx hf'
        rw [Heap.get_put, if_neg hf', kk b (by omega) (fun hc => by have := hv b hc; omega), x2.keep b hx, ex b hb hx hf']
      · simp only [h0, sg_set, Nat.reduceEqDiff, ↓reduceIte]
      · simp only [h3, sg_set, Nat.reduceEqDiff, ↓reduceIte]
      · simp only [h4, sg_set, Nat.reduceEqDiff, ↓reduceIte]
        rw [List.length_append, List.length_singleton]
        congr 2; omega
      · simp only [sg_set, Nat.reduceEqDiff, ↓reduceIte]
        rw [List.length_append, List.length_singleton]
      · intro s'' h' rv' q0 q1 q2 q3 q4 q5
        refine hQ s'' h' rv' q0 ?_ q2 q3 q4 fun j hj => (q5 j hj).trans ?_
        · simpa only [rpO, List.append_assoc, List.cons_append, List.nil_append] using q1
        · rcases hj with rfl | rfl | rfl | rfl <;> simp only [sg_set, Nat.reduceEqDiff, ↓reduceIte]
theorem rr_ints1 (g : Pg P tab) {rb fb N0 : Nat} {S : List Nat} {G : Nat → Option Blk} {p0 p1 : AV} (hrb : rb < N0) (hfb : fb < N0) (hne : fb ≠ rb) (n : Nat) : ∀ (done : List Int) (st : Option (List Nat)) (s : T AV) (h : Heap) (rv : AV) (k : List Fr) (Q : Ex → T AV → Heap → Prop), done.length + n ≤ 1000 →
    N0 ≤ h.next → (∃ e ver, h.get fb = some (.cells [p0, p1, rv] e ver)) → LR h (N0 ≤ ·) rv 1 (done.map (AV.int .i64)) done.length → RR rb S st h → (∀ b, b < N0 → b ≠ rb → b ≠ fb → h.get b = G b) → sg s 0 = .ptr rb 0 → sg s 3 = .ptr fb 0 → sg s 4 = .int .i64 (done.length + n : Nat) → sg s 6 = .int .i64 done.length →
    (∀ s' h' rv', (∃ e ver, h'.get fb = some (.cells [p0, p1, rv'] e ver)) → LR h' (N0 ≤ ·) rv' 1 ((done ++ (rpO (rdM 1) n st).1).map (AV.int .i64)) (done ++ (rpO (rdM 1) n st).1).length → RR rb S (rpO (rdM 1) n st).2 h' → (∀ b, b < N0 → b ≠ rb → b ≠ fb → h'.get b = G b) → N0 ≤ h'.next → (∀ j, j = 0 ∨ j = 2 ∨ j = 3 ∨ j = 4 → sg s' j = sg s j) → Un P k Q (.exit 2) s' h') → Lp P b63_1 s h (Un P k Q) := by
  induction n with
  | zero =>
    intro done st s h rv k Q hl hn0 hf r rp ex h0 h3 h4 h13 hQ
    refine g.lpe b63_1.eq_1 ?_
    have c1 : ¬ ((done.length : Int) < (done.length : Int)) := by omega
    rw [Nat.add_zero] at h4
    simp only [h4, h13, c1, RX, VOp.fresh, bxC, bsC, un, most, callsOf, seval, Int.reducePow, ↓reduceIte, Nat.reduceEqDiff, reduceCtorEq]
    refine hQ _ _ rv hf ?_ rp ex hn0 ?_
    · simpa [rpO] using r
    · rintro j (rfl | rfl | rfl | rfl) <;> simp only [sg_set, Nat.reduceEqDiff, ↓reduceIte]
  | succ n ih =>
    intro done st s h rv k Q hl hn0 hf r rp ex h0 h3 h4 h13 hQ
    refine g.lpe b63_1.eq_1 ?_
    have c1 : (done.length : Int) < ((done.length + (n + 1) : Nat) : Int) := by omega
    have w1 : IntKind.i64.wrap ((done.length : Int) + 1) = ((done.length + 1 : Nat) : Int) := by rw [w64 (by omega) (by omega)]; push_cast; rfl
    have hnb : ¬ N0 ≤ rb := by omega
    cases st with
    | none =>
      obtain ⟨e, ver, x, gb⟩ := rp.none
      simp only [h0, h4, h13, c1, gb, RX, VOp.fresh, bxC, bsC, un, most, callsOf, seval, Int.reducePow, ↓reduceIte, Nat.reduceEqDiff, reduceCtorEq]
      refine hQ _ _ rv hf ?_ rp ex hn0 ?_
      · simpa [rpO] using r
      · rintro j (rfl | rfl | rfl | rfl) <;> simp only [sg_set, Nat.reduceEqDiff, ↓reduceIte]
    | some t =>
      obtain ⟨e0, ver0, x0, gb⟩ := rp.some
      obtain ⟨ef, vf, hf⟩ := hf
      obtain ⟨e, ver, a, bad, hok, ha, hs⟩ := rrnum g (N := 1) (by decide) rp
      replace hok : OK P 62 [.ptr rb 0, .int .i64 1] h (.int .i64 (rdM 1 (some t)).1) (h.put rb (.cells [.str S, .int .i64 (a : Nat), .bool bad] e ver)) := hok
      simp only [h0, h3, h4, h13, c1, gb, RX, VOp.fresh, bxC, bsC, un, most, callsOf, seval, Int.reducePow, ↓reduceIte, Nat.reduceEqDiff, reduceCtorEq]
      refine EvD.lk (fun _ _ h => (.int .i64 (rdM 1 (some t)).1, h.put rb (.cells [.str S, .int .i64 (a : Nat), .bool bad] e ver))) ?_
      have x2 : Nx1 rb h (h.put rb (.cells [.str S, .int .i64 (a : Nat), .bool bad] e ver)) := ⟨rfl, fun b hb => by rw [Heap.get_put, if_neg hb]⟩
      have rp2 : RR rb S (rdM 1 (some t)).2 (h.put rb (.cells [.str S, .int .i64 (a : Nat), .bool bad] e ver)) := ⟨rp.1, rp.2.1, rp.2.2.1, e, ver, a, bad, by rw [Heap.get_put, if_pos rfl], ha, hs⟩
      generalize hh2 : h.put rb (.cells [.str S, .int .i64 (a : Nat), .bool bad] e ver) = h2 at hok x2 rp2
      have e2 := x2.next
      have r2 := r.nx x2 hnb
      have hf2 := (x2.keep fb hne).trans hf
      have em := Ext.mk (h := h2) (.cells [.int .i64 (rdM 1 (some t)).1] 3 0)
      have hn4 : (h2.mk' h2.next (.cells [.int .i64 (rdM 1 (some t)).1] 3 0)).next = h2.next + 1 := by rw [mk_next]; omega
      obtain ⟨h5, e5, r5, n5, k5⟩ := (r2.frame em.1 fun b _ hb => em.2 b hb).push (nb := h2.next) (eb := 3) (vb := 0) (c := [.int .i64 (rdM 1 (some t)).1]) (by rw [Heap.get_mk, if_pos rfl]) rfl rfl (Lvs.tolds rfl rfl) (by rw [hn4]; omega) (bytes := 8) (by unfold most2; omega) 3
      rw [hn4] at e5 r5 n5 k5
      have hv := r2.inB
      have kk : ∀ b, b < h2.next → b ∉ blkOf rv → h5.get b = h2.get b := fun b hb hn => (k5 b hn (by omega)).trans (em.2 b hb)
      have hf5 := (kk fb (by omega) fun hc => by have := hv fb hc; omega).trans hf2
      have hfn : ¬ fb = h2.next := by omega
      have hfr : ¬ fb = rb := hne
      simp only [h0, h3, hf, hf2, hf5, hfn, hok, hh2, e5, w1, RW, r2.one, RX, VOp.fresh, bxC, bsC, un, most, callsOf, seval, Int.reducePow, ↓reduceIte, Nat.reduceEqDiff, reduceCtorEq]
      refine ⟨⟨⟨?_, ?_, trivial⟩, trivial⟩, ?_⟩
      · show Lk _ _ _ _
        simp only [Lk, wanted, hf2, RX, VOp.fresh, bxC, bsC, un, most, callsOf, seval, Int.reducePow, ↓reduceIte, Nat.reduceEqDiff, reduceCtorEq]
      · show Lk _ _ _ _
        simp only [Lk, wanted, hf2, hfn, RX, VOp.fresh, bxC, bsC, un, most, callsOf, seval, Int.reducePow, ↓reduceIte, Nat.reduceEqDiff, reduceCtorEq]
      simp only [h13, w1, RX, VOp.fresh, bxC, bsC, un, most, callsOf, seval, Int.reducePow, ↓reduceIte, Nat.reduceEqDiff, reduceCtorEq]
      refine ih (done ++ [(rdM 1 (some t)).1]) (rdM 1 (some t)).2 _ _ (.sl (h2.next + 1) 0 (done.length + 1) (done.length + 1) 1) k Q (by rw [List.length_append, List.length_singleton]; omega) ?_ ?_ ?_ ?_ ?_ ?_ ?_ ?_ ?_ ?_
      · rw [put_next]; omega
      · exact ⟨ef, vf + 1, by rw [Heap.get_put, if_pos rfl]⟩
      · have r6 := (r5.weak (B' := fun b => N0 ≤ b ∧ b ≠ fb) fun b hb _ => ⟨hb, by omega⟩).frame (h' := h5.put fb (.cells [p0, p1, .sl (h2.next + 1) 0 (done.length + 1) (done.length + 1) 1] ef (vf + 1))) (by rw [put_next]; exact Nat.le_refl _) fun b hb _ => by rw [Heap.get_put, if_neg hb.2]
        have r7 := r6.weak (B' := (N0 ≤ ·)) fun b hb _ => hb.1
        simpa only [List.map_append, List.map_cons, List.map_nil, List.length_append, List.length_singleton] using r7
      · exact (rp2.frame (by omega) (kk rb rp2.1 fun hc => by have := hv rb hc; omega)).frame (by rw [put_next]; exact Nat.le_refl _) (by rw [Heap.get_put, if_neg (fun e => hne e.symm)])
      · intro b hb hx hf'
        rw [Heap.get_put, if_neg hf', kk b (by omega) (fun hc => by have := hv b hc; omega), x2.keep b hx, ex b hb hx hf']
      · simp only [h0, sg_set, Nat.reduceEqDiff, ↓reduceIte]
      · simp only [h3, sg_set, Nat.reduceEqDiff, ↓reduceIte]
      · simp only [h4, sg_set, Nat.reduceEqDiff, ↓reduceIte]
        rw [List.length_append, List.length_singleton]
        congr 2; omega
      · simp only [sg_set, Nat.reduceEqDiff, ↓reduceIte]
        rw [List.length_append, List.length_singleton]
      · intro s'' h' rv' q0 q1 q2 q3 q4 q5
        refine hQ s'' h' rv' q0 ?_ q2 q3 q4 fun j hj => (q5 j hj).trans ?_
        · simpa only [rpO, List.append_assoc, List.cons_append, List.nil_append] using q1
        · rcases hj with rfl | rfl | rfl | rfl <;> simp only [sg_set, Nat.reduceEqDiff, ↓reduceIte]
theorem rr_map (g : Pg P tab) {rb : Nat} {S : List Nat} {t : Option (List Nat)} {h : Heap} (rp : RR rb S t h) {Q : AV → Heap → Prop} (q : ∀ sv ov h', LR h' (h.next ≤ ·) sv 1 ((rdMpM t).1.starts.map (AV.int .i64)) (rdMpM t).1.starts.length → LR h' (h.next ≤ ·) ov 1 ((rdMpM t).1.owners.map (AV.int .i64)) (rdMpM t).1.owners.length → RR rb S (rdMpM t).2 h' → ExtX rb h h' → Q (.agg [.int .i64 (rdMpM t).1.epoch, sv, ov]) h') : Cl P 63 [.ptr rb 0] h Q := by
  refine g.cl (vf := v63) rfl rfl ?_
  have hrb := rp.1
  have n1 : (h.mk' h.next (.cells [.int .i64 0, .nils, .nils] 26 0)).next = h.next + 1 := by rw [mk_next]; omega
  have x1 := Ext.mk (h := h) (.cells [.int .i64 0, .nils, .nils] 26 0)
  have x1b := Ext.mk (h := h.mk' h.next (.cells [.int .i64 0, .nils, .nils] 26 0)) (.cells [.int .i64 0, .nils, .nils] 26 0)
  rw [n1] at x1b
  have x1' := x1.trans x1b
  have g1 : ((h.mk' h.next (.cells [.int .i64 0, .nils, .nils] 26 0)).mk' (h.next + 1) (.cells [.int .i64 0, .nils, .nils] 26 0)).get h.next = some (.cells [.int .i64 0, .nils, .nils] 26 0) := by rw [Heap.get_mk, if_neg (by omega), Heap.get_mk, if_pos rfl]
  have g1b : ((h.mk' h.next (.cells [.int .i64 0, .nils, .nils] 26 0)).mk' (h.next + 1) (.cells [.int .i64 0, .nils, .nils] 26 0)).get (h.next + 1) = some (.cells [.int .i64 0, .nils, .nils] 26 0) := by rw [Heap.get_mk, if_pos rfl]
  have n1b : ((h.mk' h.next (.cells [.int .i64 0, .nils, .nils] 26 0)).mk' (h.next + 1) (.cells [.int .i64 0, .nils, .nils] 26 0)).next = h.next + 2 := by rw [mk_next, n1]; omega
  have rp1 := rp.frame x1'.1 (x1'.2 rb hrb)
  simp only [v63, RX, VOp.fresh, bxC, bsC, un, most, callsOf, seval, Int.reducePow, ↓reduceIte, Nat.reduceEqDiff, reduceCtorEq]
  generalize (h.mk' h.next (.cells [.int .i64 0, .nils, .nils] 26 0)).mk' (h.next + 1) (.cells [.int .i64 0, .nils, .nils] 26 0) = h1 at *
  refine rrnum_cl g (N := 2) (by decide) rp1 fun h2 rp2 x2 => ?_
  have e2 := x2.next
  have g2 := (x2.keep (h.next + 1) (by omega)).trans g1b
  have g2' := (x2.keep h.next (by omega)).trans g1
  have rp2' : RR rb S (rdM 2 t).2 (h2.put (h.next + 1) (.cells [.int .i64 (rdM 2 t).1, .nils, .nils] 26 1)) := rp2.frame (Nat.le_refl _) (by rw [Heap.get_put, if_neg (by omega)])
  simp only [g2, RW, RX, VOp.fresh, bxC, bsC, un, most, callsOf, seval, Int.reducePow, ↓reduceIte, Nat.reduceEqDiff, reduceCtorEq]
  refine rrnum_cl g (N := 1) (by decide) rp2' fun h5 rp5 x5 => ?_
  have e5 : h5.next = h2.next := x5.next
  have hby := rp2.by
  have hk := rdM1_le hby
  have hk0 := (rdM_le (n := 1) (by decide) hby).1
  obtain ⟨m, hm⟩ : ∃ m : Nat, (rdM 1 (rdM 2 t).2).1 = (m : Int) := ⟨(rdM 1 (rdM 2 t).2).1.toNat, by omega⟩
  have g5 := (x5.keep (h.next + 1) (by omega)).trans (by rw [Heap.get_put, if_pos rfl])
  have g5b := ((x5.keep h.next (by omega)).trans (by rw [Heap.get_put, if_neg (by omega)])).trans g2'
  have xa : ExtX rb h h5 := ⟨by omega, fun b hb hx => by rw [x5.keep b hx, Heap.get_put, if_neg (by omega), x2.keep b hx]; exact x1'.2 b hb⟩
  simp only [hm, RX, VOp.fresh, bxC, bsC, un, most, callsOf, seval, Int.reducePow, ↓reduceIte, Nat.reduceEqDiff, reduceCtorEq]
  refine rr_ints0 g (N0 := h5.next) (G := h5.get) (fb := h.next + 1) (p0 := .int .i64 (rdM 2 t).1) (p1 := .nils) (by have := rp5.1; omega) (by omega) (by omega) m [] _ _ h5 .nils _ _ (by simp; omega) (Nat.le_refl _) ⟨_, _, g5⟩ (.nil _ _ _) rp5 (fun _ _ _ _ => rfl) ?_ ?_ ?_ ?_ ?_
  · simp only [sg_set, Nat.reduceEqDiff, ↓reduceIte]
  · simp only [sg_set, Nat.reduceEqDiff, ↓reduceIte]
  · simp only [sg_set, Nat.reduceEqDiff, ↓reduceIte]
    simp
  · simp only [sg_set, Nat.reduceEqDiff, ↓reduceIte]
    rfl
  intro s' h6 sv ⟨ef, vf, g6⟩ r6 rp6 x6 n6 ks
  have a0 := ks 0 (by simp)
  have a2 := ks 2 (by simp)
  have a3 := ks 3 (by simp)
  have a4 := ks 4 (by simp)
  simp only [sg_set, Nat.reduceEqDiff, ↓reduceIte] at a0 a2 a3 a4
  clear ks
  simp only [a0, a2, a3, a4, RX, VOp.fresh, bxC, bsC, un, most, callsOf, seval, Int.reducePow, ↓reduceIte, Nat.reduceEqDiff, reduceCtorEq]
  refine rr_ints1 g (N0 := h6.next) (G := h6.get) (fb := h.next + 1) (p0 := .int .i64 (rdM 2 t).1) (p1 := sv) (by have := rp6.1; omega) (by omega) (by omega) m [] _ _ h6 .nils _ _ (by simp; omega) (Nat.le_refl _) ⟨_, _, g6⟩ (.nil _ _ _) rp6 (fun _ _ _ _ => rfl) ?_ ?_ ?_ ?_ ?_
  · simp only [a0, sg_set, Nat.reduceEqDiff, ↓reduceIte]
  · simp only [a3, sg_set, Nat.reduceEqDiff, ↓reduceIte]
  · simp only [a4, sg_set, Nat.reduceEqDiff, ↓reduceIte]
    simp
  · simp only [sg_set, Nat.reduceEqDiff, ↓reduceIte]
    rfl
  intro s'' h7 ov ⟨ef', vf', g7⟩ r7 rp7 x7 n7 ks
  have b2 := ks 2 (by simp)
  have b3 := ks 3 (by simp)
  simp only [sg_set, Nat.reduceEqDiff, ↓reduceIte, a2, a3] at b2 b3
  clear ks
  have er : (rdMpM t) = (⟨(rdM 2 t).1, (rpO (rdM 4) m (rdM 1 (rdM 2 t).2).2).1, (rpO (rdM 1) m (rpO (rdM 4) m (rdM 1 (rdM 2 t).2).2).2).1⟩, (rpO (rdM 1) m (rpO (rdM 4) m (rdM 1 (rdM 2 t).2).2).2).2) := by
    rw [rdMpM]
    simp only [hm, Int.toNat_natCast]
  have g7b := (x7 h.next (by omega) (by omega) (by omega)).trans ((x6 h.next (by omega) (by omega) (by omega)).trans g5b)
  have r6' := LR.frame (h' := h7) r6 n7 fun b hb hlt => x7 b hlt (by have := rp5.1; omega) (by omega)
  simp only [b2, b3, g7, g7b, RW, r6.one, r7.one, RX, VOp.fresh, bxC, bsC, un, most, callsOf, seval, Int.reducePow, ↓reduceIte, Nat.reduceEqDiff, reduceCtorEq]
  rw [List.nil_append] at r6' r7
  have hq := q sv ov (h7.put h.next (.cells [.int .i64 (rdM 2 t).1, sv, ov] 26 1))
  rw [er] at hq
  have fin : ∀ {v : AV} {N : Nat} {tl : List AV} {n : Nat}, h.next < N → LR h7 (N ≤ ·) v 1 tl n → LR (h7.put h.next (.cells [.int .i64 (rdM 2 t).1, sv, ov] 26 1)) (h.next ≤ ·) v 1 tl n := fun hN r => ((r.weak (B' := fun b => h.next ≤ b ∧ b ≠ h.next) fun b hb _ => ⟨by omega, by omega⟩).frame (by rw [put_next]; exact Nat.le_refl _) fun b hb _ => by rw [Heap.get_put, if_neg hb.2]).weak fun b hb _ => hb.1
  refine hq (fin (by omega) r6') (fin (by omega) r7) ?_ ?_
  · exact rp7.frame (by rw [put_next]; exact Nat.le_refl _) (by rw [Heap.get_put, if_neg (by omega)])
  · refine ⟨by rw [put_next]; omega, fun b hb hx => ?_⟩
    rw [Heap.get_put, if_neg (by omega), x7 b (by have := xa.1; omega) hx (by omega), x6 b (by have := xa.1; omega) hx (by omega)]
    exact xa.2 b hb hx
theorem rr_tx (g : Pg P tab) {rb : Nat} {S : List Nat} {t : Option (List Nat)} {h : Heap} (rp : RR rb S t h) {Q : AV → Heap → Prop} (q : ∀ h', RR rb S (rdM 2 (rdM 1 t).2).2 h' → ExtX rb h h' → Q (.agg [.int .i64 (rdM 1 t).1, .int .i64 (rdM 2 (rdM 1 t).2).1]) h') : Cl P 64 [.ptr rb 0] h Q := by
  refine g.cl (vf := v64) rfl rfl ?_
  have hrb := rp.1
  have x1 := Ext.mk (h := h) (.cells [.int .i64 0, .int .i64 0] 23 0)
  have n1 : (h.mk' h.next (.cells [.int .i64 0, .int .i64 0] 23 0)).next = h.next + 1 := by rw [mk_next]; omega
  have g1 : (h.mk' h.next (.cells [.int .i64 0, .int .i64 0] 23 0)).get h.next = some (.cells [.int .i64 0, .int .i64 0] 23 0) := by rw [Heap.get_mk, if_pos rfl]
  have rp1 := rp.frame x1.1 (x1.2 rb hrb)
  simp only [v64, RX, VOp.fresh, bxC, bsC, un, most, callsOf, seval, Int.reducePow, ↓reduceIte, Nat.reduceEqDiff, reduceCtorEq]
  generalize h.mk' h.next (.cells [.int .i64 0, .int .i64 0] 23 0) = h1 at *
  refine rrnum_cl g (N := 1) (by decide) rp1 fun h2 rp2 x2 => ?_
  simp only [RX, VOp.fresh, bxC, bsC, un, most, callsOf, seval, Int.reducePow, ↓reduceIte, Nat.reduceEqDiff, reduceCtorEq]
  refine rrnum_cl g (N := 2) (by decide) rp2 fun h3 rp3 x3 => ?_
  have e2 := x2.next
  have e3 := x3.next
  have g3 : h3.get h.next = some (.cells [.int .i64 0, .int .i64 0] 23 0) := (x3.keep _ (by omega)).trans ((x2.keep _ (by omega)).trans g1)
  simp only [g3, RW, RX, VOp.fresh, bxC, bsC, un, most, callsOf, seval, Int.reducePow, ↓reduceIte, Nat.reduceEqDiff, reduceCtorEq]
  refine q _ (rp3.frame (by rw [put_next]; exact Nat.le_refl _) (by rw [Heap.get_put, if_neg (by omega)])) ⟨by rw [put_next]; omega, fun b hb hx => ?_⟩
  rw [Heap.get_put, if_neg (by omega)]
  exact (((x1.x).trans x2.x).trans x3.x).2 b hb hx
def rdBitM (st : Option (List Nat)) : Bool × Option (List Nat) := (decide ((rdM 1 st).1 = 1), if 1 < (rdM 1 st).1 then none else (rdM 1 st).2)
theorem rr_bad {rb : Nat} {S : List Nat} {st : Option (List Nat)} {h : Heap} (r : RR rb S st h) : ∃ (e ver : Nat) (a : Nat) (b : Bool), h.get rb = some (.cells [.str S, .int .i64 (a : Nat), .bool b] e ver) ∧ RR rb S none (h.put rb (.cells [.str S, .int .i64 (a : Nat), .bool true] e (ver + 1))) := by
  obtain ⟨x, b, c, e, ver, a, y, d, z, w⟩ := r
  exact ⟨e, ver, a, y, d, x, b, c, e, ver + 1, a, true, by rw [Heap.get_put, if_pos rfl], z, rfl⟩
theorem rr_bool (g : Pg P tab) {rb : Nat} {S : List Nat} {t : Option (List Nat)} {h : Heap} (rp : RR rb S t h) {Q : AV → Heap → Prop} (q : ∀ h', RR rb S (rdBitM t).2 h' → ExtX rb h h' → Q (.bool (rdBitM t).1) h') : Cl P 66 [.ptr rb 0] h Q := by
  refine g.cl (vf := v66) rfl rfl ?_
  simp only [v66, RX, VOp.fresh, bxC, bsC, un, most, callsOf, seval, Int.reducePow, ↓reduceIte, Nat.reduceEqDiff, reduceCtorEq]
  refine rrnum_cl g (N := 1) (by decide) rp fun h2 rp2 x2 => ?_
  unfold rdBitM at q
  by_cases h1 : (1 : Int) < (rdM 1 t).1
  · obtain ⟨e, ver, a, b, gb, rp3⟩ := rr_bad rp2
    simp only [h1, gb, RW, RX, VOp.fresh, bxC, bsC, un, most, callsOf, seval, Int.reducePow, ↓reduceIte, Nat.reduceEqDiff, reduceCtorEq]
    rw [if_pos h1] at q
    exact q _ rp3 (x2.x.trans (ExtX.put _))
  · simp only [h1, RX, VOp.fresh, bxC, bsC, un, most, callsOf, seval, Int.reducePow, ↓reduceIte, Nat.reduceEqDiff, reduceCtorEq]
    rw [if_neg h1] at q
    exact q _ rp2 x2.x
end
end Go.Proofs.Ytinonmcnofjeeaa.VM
namespace Go.Proofs.Ytinonmcnofjeeaa.VM
attribute [local irreducible] Af Nx EvO Ev Un Gd Cd EvR EvQ EvC Nc Gc Lp EvM NxM AfM GdM EvMR EvMQ EvMD EvMC Nm Gm
def rdOpM (st : Option (List Nat)) : Op × Option (List Nat) :=
  let k := rdM 1 st
  if k.1 = 0 then (⟨k.1, (rdFeatM k.2).1, 0, ⟨0, [], []⟩⟩, (rdFeatM k.2).2)
  else if k.1 = 1 then (⟨k.1, ⟨0, 0, []⟩, (rdM 2 k.2).1, ⟨0, [], []⟩⟩, (rdM 2 k.2).2)
  else if k.1 = 2 then (⟨k.1, ⟨0, 0, []⟩, 0, (rdMpM k.2).1⟩, (rdMpM k.2).2)
  else (⟨k.1, ⟨0, 0, []⟩, 0, ⟨0, [], []⟩⟩, none)
def rdOpsM (st : Option (List Nat)) : List Op × Option (List Nat) := rpO rdOpM (rdM 1 st).1.toNat (rdM 1 st).2
theorem rdOpM_by {s : Option (List Nat)} (h : ByO s) : ByO (rdOpM s).2 := by
  unfold rdOpM
  simp only
  split
  · exact rdFeatM_by (rdM_by h)
  · split
    · exact rdM_by (rdM_by h)
    · split
      · exact rdMpM_by (rdM_by h)
      · exact fun s e => by cases e
theorem rdOpM_sm {s : Option (List Nat)} (h : ByO s) : opSm (rdOpM s).1 := by
  unfold rdOpM
  simp only
  split
  · exact ⟨i64_rdM (by decide) h, rdFeatM_sm (rdM_by h), i64z, mpSm0⟩
  · split
    · exact ⟨i64_rdM (by decide) h, featSm0, i64_rdM (by decide) (rdM_by h), mpSm0⟩
    · split
      · exact ⟨i64_rdM (by decide) h, featSm0, i64z, rdMpM_sm (rdM_by h)⟩
      · exact ⟨i64_rdM (by decide) h, featSm0, i64z, mpSm0⟩
theorem rdOpsM_sm {s : Option (List Nat)} (h : ByO s) : opsSm (rdOpsM s).1 := by
  have := rdM1_le h
  refine ⟨?_, rpO_all (fun _ h => rdOpM_by h) (fun s h => rdOpM_sm h) _ _ (rdM_by h)⟩
  have := rpO_len rdOpM (rdM 1 s).1.toNat (rdM 1 s).2
  show (rpO rdOpM _ _).1.length ≤ _
  omega
theorem rdOpM_put {o : Op} {nodes : Int} (h : opOk nodes o) (t : List Nat) : rdOpM (some (opB o ++ t)) = (o, some t) := by
  have z1 : ∀ {f : Feat}, ftZero f → f = ⟨0, 0, []⟩ := fun {f} ⟨a, b, c⟩ => by cases f; simp only at a b c; rw [a, b, c]
  have z2 : ∀ {f : Mp}, mpZero f → f = ⟨0, [], []⟩ := fun {f} ⟨a, b, c⟩ => by cases f; simp only at a b c; rw [a, b, c]
  obtain ⟨kind, f, id, m⟩ := o
  rcases h with ⟨hk, h1, h2, h3⟩ | ⟨hk, h1, h2, h3, h4⟩ | ⟨hk, h1, h2, h3⟩
  · simp only at hk h1 h2 h3
    subst hk h2
    rw [rdOpM, opB, List.append_assoc, rdM_put (by simp only; omega) (by simp only; omega)]
    simp only [if_true]
    rw [rdFeatM_put h1, z2 h3]
  · simp only at hk h1 h2 h3 h4
    subst hk
    rw [rdOpM, opB, List.append_assoc, rdM_put (by simp only; omega) (by simp only; omega)]
    simp only [if_true, if_false, Int.one_ne_zero]
    rw [rdM_put (by omega) (by omega), z1 h3, z2 h4]
  · simp only at hk h1 h2 h3
    subst hk h2
    have e2 : ¬ (2 : Int) = 0 := by decide
    have e3 : ¬ (2 : Int) = 1 := by decide
    rw [rdOpM, opB, List.append_assoc, rdM_put (by simp only; omega) (by simp only; omega)]
    simp only [if_true, if_neg e2, if_neg e3]
    rw [rdMpM_put h1, z1 h3]
theorem rdOpsM_put {l : List Op} {nodes : Int} (h : opsOk nodes l) (t : List Nat) : rdOpsM (some (opsB l ++ t)) = (l, some t) := by
  obtain ⟨h1, h2, h3⟩ := h
  rw [rdOpsM, opsB, List.append_assoc, rdM_put (by omega) (by omega)]
  simp only [Int.toNat_natCast]
  refine rpO_put l t fun o ho t => ?_
  obtain ⟨i, hi, rfl⟩ := List.mem_iff_getElem.1 ho
  have := (h3 i hi).1
  rw [getD_op hi] at this
  exact rdOpM_put this t
section
variable {P : Program}
theorem rr_opsl (g : Pg P tab) {rb : Nat} {S : List Nat} {H0 : Heap} (hrb : rb < H0.next) (n : Nat) : ∀ (done : List Op) (t : Option (List Nat)) (s : T AV) (h : Heap) (k : List Fr) (Q : Ex → T AV → Heap → Prop), done.length + n ≤ 1000 →
    LR h (H0.next ≤ ·) (sg s 4) 8 ((done.map cOpL).flatten) done.length → RR rb S t h → ExtX rb H0 h → sg s 0 = .ptr rb 0 → sg s 3 = .int .i64 (done.length + n : Nat) → sg s 5 = .int .i64 done.length →
    (∀ s' h', LR h' (H0.next ≤ ·) (sg s' 4) 8 (((done ++ (rpO rdOpM n t).1).map cOpL).flatten) (done ++ (rpO rdOpM n t).1).length → RR rb S (rpO rdOpM n t).2 h' → ExtX rb H0 h' → Un P k Q (.exit 0) s' h') → Lp P b65_0 s h (Un P k Q) := by
  induction n with
  | zero =>
    intro done t s h k Q hl r rp ex h0 h3x h5x hQ
    refine g.lpe b65_0.eq_1 ?_
    have c1 : ¬ ((done.length : Int) < (done.length : Int)) := by omega
    rw [Nat.add_zero] at h3x
    simp only [h3x, h5x, c1, RX, VOp.fresh, bxC, bsC, un, most, callsOf, seval, Int.reducePow, ↓reduceIte, Nat.reduceEqDiff, reduceCtorEq]
    refine hQ _ _ ?_ rp ex
    · simp only [sg_set, Nat.reduceEqDiff, ↓reduceIte]
      simpa [rpO] using r
  | succ n ih =>
    intro done t s h k Q hl r rp ex h0 h3x h5x hQ
    refine g.lpe b65_0.eq_1 ?_
    have c1 : (done.length : Int) < ((done.length + (n + 1) : Nat) : Int) := by omega
    have w1 : IntKind.i64.wrap ((done.length : Int) + 1) = ((done.length + 1 : Nat) : Int) := by rw [w64 (by omega) (by omega)]; push_cast; rfl
    have hnb : ¬ H0.next ≤ rb := by omega
    by_cases hn : t = none
    · subst hn
      obtain ⟨e, ver, x, gb⟩ := rp.none
      simp only [h0, h3x, h5x, c1, gb, RX, VOp.fresh, bxC, bsC, un, most, callsOf, seval, Int.reducePow, ↓reduceIte, Nat.reduceEqDiff, reduceCtorEq]
      refine hQ _ _ ?_ rp ex
      · simp only [sg_set, Nat.reduceEqDiff, ↓reduceIte]
        simpa [rpO] using r
    obtain ⟨tt, ht⟩ : ∃ tt, some tt = t := by
      cases t with
      | none => exact absurd rfl hn
      | some tt => exact ⟨tt, rfl⟩
    have hrp : rpO rdOpM (n + 1) t = ((rdOpM t).1 :: (rpO rdOpM n (rdOpM t).2).1, (rpO rdOpM n (rdOpM t).2).2) := by rw [← ht]; rfl
    rw [hrp] at hQ
    obtain ⟨eb, verb, xb, gb⟩ := RR.some (by rw [ht]; exact rp : RR rb S (some tt) h)
    have fin : ∀ (s' : T AV) (h' : Heap), LR h' (H0.next ≤ ·) (sg s' 4) 8 (((done ++ [(rdOpM t).1]).map cOpL).flatten) (done ++ [(rdOpM t).1]).length → RR rb S (rdOpM t).2 h' → ExtX rb H0 h' → sg s' 0 = .ptr rb 0 → sg s' 3 = .int .i64 (done.length + (n + 1) : Nat) → sg s' 5 = .int .i64 (done.length + 1 : Nat) → Lp P b65_0 s' h' (Un P k Q) := by
      intro s' h' q1 q2 q3 q4 q5 q6
      refine ih (done ++ [(rdOpM t).1]) (rdOpM t).2 s' h' k Q (by rw [List.length_append, List.length_singleton]; omega) q1 q2 q3 q4 ?_ ?_ ?_
      · rw [q5, List.length_append, List.length_singleton]
        congr 2; omega
      · rw [q6, List.length_append, List.length_singleton]
      · intro s'' h'' p1 p2 p3
        refine hQ s'' h'' ?_ p2 p3
        simpa only [List.append_assoc, List.cons_append, List.nil_append] using p1
    -- what is put behind
    have put : ∀ (h4 : Heap) (ob e4 v4 : Nat) (rv sv ov : AV), h4.get ob = some (.cells [.int .i64 (rdOpM t).1.kind, .int .i64 (rdOpM t).1.f.id, .int .i64 (rdOpM t).1.f.shape, rv, .int .i64 (rdOpM t).1.id, .int .i64 (rdOpM t).1.m.epoch, sv, ov] e4 v4) →
        rv.one = true → sv.one = true → ov.one = true → Lv h4 (h.next ≤ ·) rv (cRings (rdOpM t).1.f.rings) → Lv h4 (h.next ≤ ·) sv (cInts (rdOpM t).1.m.starts) → Lv h4 (h.next ≤ ·) ov (cInts (rdOpM t).1.m.owners) → RR rb S (rdOpM t).2 h4 → ExtX rb h h4 →
        ∃ h5, appendV (h4.mk' h4.next (.cells [.int .i64 (rdOpM t).1.kind, .int .i64 (rdOpM t).1.f.id, .int .i64 (rdOpM t).1.f.shape, rv, .int .i64 (rdOpM t).1.id, .int .i64 (rdOpM t).1.m.epoch, sv, ov] 54 0)) 8 112 54 (sg s 4) (.sl h4.next 0 1 1 8) = some (.sl (h4.next + 1) 0 (done.length + 1) (done.length + 1) 8, h5) ∧
          LR h5 (H0.next ≤ ·) (.sl (h4.next + 1) 0 (done.length + 1) (done.length + 1) 8) 8 (((done ++ [(rdOpM t).1]).map cOpL).flatten) (done ++ [(rdOpM t).1]).length ∧ RR rb S (rdOpM t).2 h5 ∧ ExtX rb H0 h5 := by
      intro h4 ob e4 v4 rv sv ov g4 o1 o2 o3 l1 l2 l3 rp4 x4
      have hle := ex.1
      have em := Ext.mk (h := h4) (.cells [.int .i64 (rdOpM t).1.kind, .int .i64 (rdOpM t).1.f.id, .int .i64 (rdOpM t).1.f.shape, rv, .int .i64 (rdOpM t).1.id, .int .i64 (rdOpM t).1.m.epoch, sv, ov] 54 0)
      have hn4 : (h4.mk' h4.next (.cells [.int .i64 (rdOpM t).1.kind, .int .i64 (rdOpM t).1.f.id, .int .i64 (rdOpM t).1.f.shape, rv, .int .i64 (rdOpM t).1.id, .int .i64 (rdOpM t).1.m.epoch, sv, ov] 54 0)).next = h4.next + 1 := by rw [mk_next]; omega
      have hlt := r.lt
      have r4 : LR h4 (H0.next ≤ ·) (sg s 4) 8 ((done.map cOpL).flatten) done.length := r.frame x4.1 fun b hb hlt => x4.2 b hlt fun e => hnb (e ▸ hb)
      have l4 : Lvs (h4.mk' h4.next (.cells [.int .i64 (rdOpM t).1.kind, .int .i64 (rdOpM t).1.f.id, .int .i64 (rdOpM t).1.f.shape, rv, .int .i64 (rdOpM t).1.id, .int .i64 (rdOpM t).1.m.epoch, sv, ov] 54 0)) (fun b => H0.next ≤ b ∧ b ∉ blkOf (sg s 4)) [.int .i64 (rdOpM t).1.kind, .int .i64 (rdOpM t).1.f.id, .int .i64 (rdOpM t).1.f.shape, rv, .int .i64 (rdOpM t).1.id, .int .i64 (rdOpM t).1.m.epoch, sv, ov] (cOpL (rdOpM t).1) :=
        ((Lvs.cells8 l1 l2 l3).frame em.1 fun b _ hb => em.2 b hb).weak fun b hb _ => ⟨by omega, fun hc => by have := hlt b hc; omega⟩
      obtain ⟨h5, e5, r5, n5, k5⟩ := (r4.frame em.1 fun b _ hb => em.2 b hb).push (nb := h4.next) (eb := 54) (vb := 0) (by rw [Heap.get_mk, if_pos rfl]) rfl (by simp only [List.all_cons, List.all_nil, one_int, o1, o2, o3, Bool.and_self]) l4 (by rw [hn4]; have := x4.1; omega) (bytes := 112) (by unfold most2; omega) 54
      rw [hn4] at e5 r5 n5 k5
      have hv := r4.inB
      have kk : ∀ b, b < h4.next → b ∉ blkOf (sg s 4) → h5.get b = h4.get b := fun b hb hn => (k5 b hn (by omega)).trans (em.2 b hb)
      refine ⟨h5, e5, ?_, rp4.frame (by omega) (kk rb rp4.1 fun hc => by have := hv rb hc; omega), ⟨by have := x4.1; omega, fun b hb hx => ?_⟩⟩
      · simpa only [List.map_append, List.flatten_append, List.map_cons, List.map_nil, List.flatten_cons, List.flatten_nil, List.append_nil, List.length_append, List.length_singleton] using r5
      · rw [kk b (by have := x4.1; omega) (fun hc => by have := hv b hc; omega), x4.2 b (by omega) hx, ex.2 b hb hx]
    simp only [h0, h3x, h5x, c1, gb, RX, VOp.fresh, bxC, bsC, un, most, callsOf, seval, Int.reducePow, ↓reduceIte, Nat.reduceEqDiff, reduceCtorEq]
    refine rrnum_cl g (N := 1) (by decide) rp fun h2 rp2 x2 => ?_
    have e2 := x2.next
    have x3 : Ext h2 ((h2.mk' h2.next (.cells [.int .i64 0, .int .i64 0, .int .i64 0, .nils, .int .i64 0, .int .i64 0, .nils, .nils] 54 0)).put h2.next (.cells [.int .i64 (rdM 1 t).1, .int .i64 0, .int .i64 0, .nils, .int .i64 0, .int .i64 0, .nils, .nils] 54 1)) := ⟨by rw [put_next, mk_next]; omega, fun b hb => by rw [Heap.get_put, if_neg (by omega), Heap.get_mk, if_neg (by omega)]⟩
    have g3 : ((h2.mk' h2.next (.cells [.int .i64 0, .int .i64 0, .int .i64 0, .nils, .int .i64 0, .int .i64 0, .nils, .nils] 54 0)).put h2.next (.cells [.int .i64 (rdM 1 t).1, .int .i64 0, .int .i64 0, .nils, .int .i64 0, .int .i64 0, .nils, .nils] 54 1)).get h2.next = some (.cells [.int .i64 (rdM 1 t).1, .int .i64 0, .int .i64 0, .nils, .int .i64 0, .int .i64 0, .nils, .nils] 54 1) := by rw [Heap.get_put, if_pos rfl]
    have n3 : ((h2.mk' h2.next (.cells [.int .i64 0, .int .i64 0, .int .i64 0, .nils, .int .i64 0, .int .i64 0, .nils, .nils] 54 0)).put h2.next (.cells [.int .i64 (rdM 1 t).1, .int .i64 0, .int .i64 0, .nils, .int .i64 0, .int .i64 0, .nils, .nils] 54 1)).next = h2.next + 1 := by rw [put_next, mk_next]; omega
    have rp3 := rp2.frame x3.1 (x3.2 rb rp2.1)
    simp only [RW, RX, VOp.fresh, bxC, bsC, un, most, callsOf, seval, Int.reducePow, ↓reduceIte, Nat.reduceEqDiff, reduceCtorEq]
    generalize (h2.mk' h2.next (.cells [.int .i64 0, .int .i64 0, .int .i64 0, .nils, .int .i64 0, .int .i64 0, .nils, .nils] 54 0)).put h2.next (.cells [.int .i64 (rdM 1 t).1, .int .i64 0, .int .i64 0, .nils, .int .i64 0, .int .i64 0, .nils, .nils] 54 1) = h3 at *

    by_cases k0 : (rdM 1 t).1 = 0
    · have eo : rdOpM t = (⟨0, (rdFeatM (rdM 1 t).2).1, 0, ⟨0, [], []⟩⟩, (rdFeatM (rdM 1 t).2).2) := by rw [rdOpM]; simp only [k0, if_true, if_false, Int.one_ne_zero, Int.reduceEq]
      rw [k0] at g3
      simp only [k0, h0, RX, VOp.fresh, bxC, bsC, un, most, callsOf, seval, Int.reducePow, ↓reduceIte, Nat.reduceEqDiff, reduceCtorEq]
      refine rr_feat g rp3 fun rv h4 r4 rp4 x4 => ?_
      have g4 := (x4.2 h2.next (by omega) (by have := rp2.1; omega)).trans g3
      obtain ⟨h5, e5, r5, rp5, ex5⟩ := put (h4.put h2.next (.cells [.int .i64 0, .int .i64 (rdFeatM (rdM 1 t).2).1.id, .int .i64 (rdFeatM (rdM 1 t).2).1.shape, rv, .int .i64 0, .int .i64 0, .nils, .nils] 54 2)) h2.next 54 2 rv .nils .nils
        (by rw [Heap.get_put, if_pos rfl, eo]) r4.one rfl rfl (by rw [eo]; exact (r4.lv.weak (B' := fun b => h.next ≤ b ∧ b ≠ h2.next) fun b hb _ => ⟨by omega, by omega⟩).frame (by rw [put_next]; exact Nat.le_refl _) (fun b hb _ => by rw [Heap.get_put, if_neg hb.2]) |>.weak fun b hb _ => hb.1) (by rw [eo]; exact .nils) (by rw [eo]; exact .nils)
        (by rw [eo]; exact rp4.frame (by rw [put_next]; exact Nat.le_refl _) (by rw [Heap.get_put, if_neg (by have := rp2.1; omega)])) (((x2.x.trans x3.x).trans x4).put' (by omega) _)
      rw [eo] at e5
      simp only [put_next] at e5 r5
      simp only [h0, h5x, g4, k0, e5, w1, RW, r4.one, r4.cells, RX, VOp.fresh, bxC, bsC, un, most, callsOf, seval, Int.reducePow, ↓reduceIte, Nat.reduceEqDiff, reduceCtorEq]
      refine fin _ _ ?_ rp5 ex5 ?_ ?_ ?_
      · simp only [sg_set, Nat.reduceEqDiff, ↓reduceIte]
        exact r5
      · simp only [h0, sg_set, Nat.reduceEqDiff, ↓reduceIte]
      · simp only [h3x, sg_set, Nat.reduceEqDiff, ↓reduceIte]
      · simp only [sg_set, Nat.reduceEqDiff, ↓reduceIte]
    · by_cases k1 : (rdM 1 t).1 = 1
      · have eo : rdOpM t = (⟨1, ⟨0, 0, []⟩, (rdM 2 (rdM 1 t).2).1, ⟨0, [], []⟩⟩, (rdM 2 (rdM 1 t).2).2) := by rw [rdOpM]; simp only [k1, if_true, if_false, Int.one_ne_zero, Int.reduceEq]
        rw [k1] at g3
        simp only [k1, h0, RX, VOp.fresh, bxC, bsC, un, most, callsOf, seval, Int.reducePow, ↓reduceIte, Nat.reduceEqDiff, reduceCtorEq]
        refine rrnum_cl g (N := 2) (by decide) rp3 fun h4 rp4 x4' => ?_
        have x4 := x4'.x
        have g4 := (x4.2 h2.next (by omega) (by have := rp2.1; omega)).trans g3
        obtain ⟨h5, e5, r5, rp5, ex5⟩ := put (h4.put h2.next (.cells [.int .i64 1, .int .i64 0, .int .i64 0, .nils, .int .i64 (rdM 2 (rdM 1 t).2).1, .int .i64 0, .nils, .nils] 54 2)) h2.next 54 2 .nils .nils .nils
          (by rw [Heap.get_put, if_pos rfl, eo]) rfl rfl rfl (by rw [eo]; exact .nils) (by rw [eo]; exact .nils) (by rw [eo]; exact .nils)
          (by rw [eo]; exact rp4.frame (by rw [put_next]; exact Nat.le_refl _) (by rw [Heap.get_put, if_neg (by have := rp2.1; omega)])) (((x2.x.trans x3.x).trans x4).put' (by omega) _)
        rw [eo] at e5
        simp only [put_next] at e5 r5
        simp only [h0, h5x, g4, k1, e5, w1, RW, RX, VOp.fresh, bxC, bsC, un, most, callsOf, seval, Int.reducePow, ↓reduceIte, Nat.reduceEqDiff, reduceCtorEq]
        refine fin _ _ ?_ rp5 ex5 ?_ ?_ ?_
        · simp only [sg_set, Nat.reduceEqDiff, ↓reduceIte]
          exact r5
        · simp only [h0, sg_set, Nat.reduceEqDiff, ↓reduceIte]
        · simp only [h3x, sg_set, Nat.reduceEqDiff, ↓reduceIte]
        · simp only [sg_set, Nat.reduceEqDiff, ↓reduceIte]
      · by_cases k2 : (rdM 1 t).1 = 2
        · have eo : rdOpM t = (⟨2, ⟨0, 0, []⟩, 0, (rdMpM (rdM 1 t).2).1⟩, (rdMpM (rdM 1 t).2).2) := by rw [rdOpM]; simp only [k2, if_true, if_false, Int.one_ne_zero, Int.reduceEq]
          rw [k2] at g3
          simp only [k2, h0, RX, VOp.fresh, bxC, bsC, un, most, callsOf, seval, Int.reducePow, ↓reduceIte, Nat.reduceEqDiff, reduceCtorEq]
          refine rr_map g rp3 fun sv ov h4 r4 q4 rp4 x4 => ?_
          have g4 := (x4.2 h2.next (by omega) (by have := rp2.1; omega)).trans g3
          obtain ⟨h5, e5, r5, rp5, ex5⟩ := put (h4.put h2.next (.cells [.int .i64 2, .int .i64 0, .int .i64 0, .nils, .int .i64 0, .int .i64 (rdMpM (rdM 1 t).2).1.epoch, sv, ov] 54 2)) h2.next 54 2 .nils sv ov
            (by rw [Heap.get_put, if_pos rfl, eo]) rfl r4.one q4.one (by rw [eo]; exact .nils) (by rw [eo]; exact ((lv_ints r4).weak (B' := fun b => h.next ≤ b ∧ b ≠ h2.next) fun b hb _ => ⟨by omega, by omega⟩).frame (by rw [put_next]; exact Nat.le_refl _) (fun b hb _ => by rw [Heap.get_put, if_neg hb.2]) |>.weak fun b hb _ => hb.1) (by rw [eo]; exact ((lv_ints q4).weak (B' := fun b => h.next ≤ b ∧ b ≠ h2.next) fun b hb _ => ⟨by omega, by omega⟩).frame (by rw [put_next]; exact Nat.le_refl _) (fun b hb _ => by rw [Heap.get_put, if_neg hb.2]) |>.weak fun b hb _ => hb.1)
            (by rw [eo]; exact rp4.frame (by rw [put_next]; exact Nat.le_refl _) (by rw [Heap.get_put, if_neg (by have := rp2.1; omega)])) (((x2.x.trans x3.x).trans x4).put' (by omega) _)
          rw [eo] at e5
          simp only [put_next] at e5 r5
          simp only [h0, h5x, g4, k2, e5, w1, RW, r4.one, r4.cells, q4.one, q4.cells, RX, VOp.fresh, bxC, bsC, un, most, callsOf, seval, Int.reducePow, ↓reduceIte, Nat.reduceEqDiff, reduceCtorEq]
          refine fin _ _ ?_ rp5 ex5 ?_ ?_ ?_
          · simp only [sg_set, Nat.reduceEqDiff, ↓reduceIte]
            exact r5
          · simp only [h0, sg_set, Nat.reduceEqDiff, ↓reduceIte]
          · simp only [h3x, sg_set, Nat.reduceEqDiff, ↓reduceIte]
          · simp only [sg_set, Nat.reduceEqDiff, ↓reduceIte]
        · have eo : rdOpM t = (⟨(rdM 1 t).1, ⟨0, 0, []⟩, 0, ⟨0, [], []⟩⟩, none) := by rw [rdOpM]; simp only [k0, k1, k2, if_false]
          obtain ⟨e9, ver9, a9, b9, gb9, rp9⟩ := rr_bad rp3
          have n9 : (h3.put rb (.cells [.str S, .int .i64 (a9 : Nat), .bool true] e9 (ver9 + 1))).next = h3.next := rfl
          have g9 : (h3.put rb (.cells [.str S, .int .i64 (a9 : Nat), .bool true] e9 (ver9 + 1))).get h2.next = _ := (by rw [Heap.get_put, if_neg (by have := rp2.1; omega)] : _ = h3.get h2.next).trans g3
          have x9 : ExtX rb h (h3.put rb (.cells [.str S, .int .i64 (a9 : Nat), .bool true] e9 (ver9 + 1))) := (x2.x.trans x3.x).trans (ExtX.put _)
          simp only [h0, g3, k0, k1, k2, gb9, RW, RX, VOp.fresh, bxC, bsC, un, most, callsOf, seval, Int.reducePow, ↓reduceIte, Nat.reduceEqDiff, reduceCtorEq]
          generalize h3.put rb (.cells [.str S, .int .i64 (a9 : Nat), .bool true] e9 (ver9 + 1)) = h9 at *
          obtain ⟨h5, e5, r5, rp5, ex5⟩ := put h9 h2.next 54 1 .nils .nils .nils (by rw [g9, eo]) rfl rfl rfl (by rw [eo]; exact .nils) (by rw [eo]; exact .nils) (by rw [eo]; exact .nils) (by rw [eo]; exact rp9) x9
          rw [eo, n9] at e5
          rw [n9] at r5
          have hbr : ¬ h2.next = rb := by have := rp2.1; omega
          simp only [h0, h5x, hbr, g9, n9, e5, w1, RW, RX, VOp.fresh, bxC, bsC, un, most, callsOf, seval, Int.reducePow, ↓reduceIte, Nat.reduceEqDiff, reduceCtorEq]
          refine fin _ _ ?_ rp5 ex5 ?_ ?_ ?_
          · simp only [sg_set, Nat.reduceEqDiff, ↓reduceIte]
            exact r5
          · simp only [h0, sg_set, Nat.reduceEqDiff, ↓reduceIte]
          · simp only [h3x, sg_set, Nat.reduceEqDiff, ↓reduceIte]
          · simp only [sg_set, Nat.reduceEqDiff, ↓reduceIte]
end
end Go.Proofs.Ytinonmcnofjeeaa.VM
namespace Go.Proofs.Ytinonmcnofjeeaa.VM
attribute [local irreducible] Af Nx EvO Ev Un Gd Cd EvR EvQ EvC Nc Gc Lp EvM NxM AfM GdM EvMR EvMQ EvMD EvMC Nm Gm
section
variable {P : Program}
theorem rr_ops (g : Pg P tab) {rb : Nat} {S : List Nat} {t : Option (List Nat)} {h : Heap} (rp : RR rb S t h) {Q : AV → Heap → Prop} (q : ∀ v h', LR h' (h.next ≤ ·) v 8 (((rdOpsM t).1.map cOpL).flatten) (rdOpsM t).1.length → RR rb S (rdOpsM t).2 h' → ExtX rb h h' → Q v h') : Cl P 65 [.ptr rb 0] h Q := by
  refine g.cl (vf := v65) rfl rfl ?_
  simp only [v65, RX, VOp.fresh, bxC, bsC, un, most, callsOf, seval, Int.reducePow, ↓reduceIte, Nat.reduceEqDiff, reduceCtorEq]
  refine rrnum_cl g (N := 1) (by decide) rp fun h3 rp3 x3 => ?_
  have hk := rdM1_le rp.by
  have hk0 := (rdM_le (n := 1) (by decide) rp.by).1
  obtain ⟨m, hm⟩ : ∃ m : Nat, (rdM 1 t).1 = (m : Int) := ⟨(rdM 1 t).1.toNat, by omega⟩
  simp only [hm, RX, VOp.fresh, bxC, bsC, un, most, callsOf, seval, Int.reducePow, ↓reduceIte, Nat.reduceEqDiff, reduceCtorEq]
  refine rr_opsl g (H0 := h3) rp3.1 m [] _ _ h3 _ _ (by simp; omega) ?_ rp3 ExtX.refl ?_ ?_ ?_ ?_
  · simp only [sg_set, Nat.reduceEqDiff, ↓reduceIte]
    exact .nil _ _ _
  · simp only [sg_set, Nat.reduceEqDiff, ↓reduceIte]
  · simp only [sg_set, Nat.reduceEqDiff, ↓reduceIte]
    simp
  · simp only [sg_set, Nat.reduceEqDiff, ↓reduceIte]
    rfl
  intro s' h4 r4 rp4 x4
  have e3 := x3.next
  have er : rdOpsM t = rpO rdOpM m (rdM 1 t).2 := by rw [rdOpsM, hm, Int.toNat_natCast]
  simp only [RX, VOp.fresh, bxC, bsC, un, most, callsOf, seval, Int.reducePow, ↓reduceIte, Nat.reduceEqDiff, reduceCtorEq]
  refine q _ _ ?_ (by rw [er]; exact rp4) (x3.x.trans x4)
  rw [er]
  rw [List.nil_append] at r4
  exact r4.weak fun b hb _ => by omega
end
end Go.Proofs.Ytinonmcnofjeeaa.VM
namespace Go.Proofs.Ytinonmcnofjeeaa.VM
attribute [local irreducible] Af Nx EvO Ev Un Gd Cd EvR EvQ EvC Nc Gc Lp EvM NxM AfM GdM EvMR EvMQ EvMD EvMC Nm Gm
def Plain {α : Type} (R : α → List AV → Prop) (sz : Nat) : Prop := ∀ a c, R a c → c.length = sz ∧ c.all AV.one = true ∧ AV.tolds c = true ∧ AV.bares c = true
theorem Plain.cat {α : Type} {R : α → List AV → Prop} {sz : Nat} (p : Plain R sz) : ∀ {l : List α} {c : List AV}, Cat R l c → c.length = l.length * sz ∧ c.all AV.one = true ∧ AV.tolds c = true ∧ AV.bares c = true
  | _, _, .nil => ⟨by simp, rfl, rfl, rfl⟩
  | _, _, .cons h t => by
    obtain ⟨a1, a2, a3, a4⟩ := p _ _ h
    obtain ⟨b1, b2, b3, b4⟩ := p.cat t
    exact ⟨by rw [List.length_append, a1, b1, List.length_cons, Nat.add_mul]; omega, by rw [List.all_append, a2, b2]; rfl, by rw [Cat.told.tolds_append, a3, b3]; rfl, by rw [bares_app, a4, b4]; rfl⟩
theorem plainInt : Plain RInt 1 := fun a c h => by rw [h.1]; exact ⟨rfl, rfl, rfl, rfl⟩
theorem plainPt : Plain RPt 2 := fun a c h => by rw [h.1]; exact ⟨rfl, rfl, rfl, rfl⟩
/-- what stands is put behind an empty slice of one's own -/
theorem app_copy {α : Type} {R : α → List AV → Prop} {sz bytes : Nat} (p : Plain R sz) {x : AV} {l : List α} (hx : IsL bytes R x l) {h : Heap} {b e0 v0 : Nat} (hg : h.get b = some (.cells [] e0 v0)) (e : TypeId) :
    ∃ v h' t, appendV h sz bytes e (.sl b 0 0 0 sz) x = some (v, h') ∧ h.next ≤ h'.next ∧ (∀ c, c < h.next → c ≠ b → h'.get c = h.get c) ∧ Lv h' (fun c => h.next ≤ c) v t ∧ IsL bytes R t l ∧ v.cells = some [v] ∧ v.one = true := by
  have hbq : Nat.beq sz sz = true := by rw [Nat.beq_eq]
  have z : ∀ x : AV, l = [] → lenV x = some 0 → cellsOf h sz 0 x = some [] → ∃ v h' t, appendV h sz bytes e (.sl b 0 0 0 sz) x = some (v, h') ∧ h.next ≤ h'.next ∧ (∀ c, c < h.next → c ≠ b → h'.get c = h.get c) ∧ Lv h' (fun c => h.next ≤ c) v t ∧ IsL bytes R t l ∧ v.cells = some [v] ∧ v.one = true := by
    intro x hl h1 h2
    subst hl
    refine ⟨.sl b 0 0 0 sz, h.put b (.cells [] e0 (v0 + 1)), .rs [] 0, ?_, Nat.le_refl _, fun c _ hc => by rw [Heap.get_put, if_neg hc], ⟨[], .sl0, rfl, Own.nil, fun b hb => by simp at hb⟩, ⟨by simp, .inr ⟨[], rfl, .nil⟩⟩, rfl, rfl⟩
    simp only [appendV, h1, h2, List.length_nil, Nat.zero_mul, List.all_nil, and_self, if_true, hbq, cond_true, Nat.add_zero, Nat.le_refl, writeAt, hg, lsets]
    rfl
  obtain ⟨hb0, ⟨rfl, hl⟩ | ⟨c, rfl, hc⟩⟩ := hx
  · exact z _ hl rfl rfl
  · obtain ⟨h1, h2, h3, h4⟩ := p.cat hc
    by_cases h0 : l.length = 0
    · have hl : l = [] := List.eq_nil_of_length_eq_zero h0
      have : c = [] := List.eq_nil_of_length_eq_zero (by rw [h1, h0, Nat.zero_mul])
      subst this
      refine z _ hl (by rw [lenV, h0]) ?_
      simp [cellsOf, cut_eq]
    · have hcut : cut c 0 (l.length * sz) = some c := by rw [cut_eq, List.drop_zero, ← h1, List.take_length, if_pos rfl]
      refine ⟨.sl h.next 0 l.length l.length sz, (h.put b .dead).mk' h.next (.cells c e 0), .rs c l.length, ?_, by rw [mk_next, put_next]; omega, fun d hd hne => by rw [Heap.get_mk, if_neg (by omega), Heap.get_put, if_neg hne], ⟨[h.next], ?_, rfl, ?_, fun d hd => by simp at hd; omega⟩, ⟨hb0, .inr ⟨c, rfl, hc⟩⟩, rfl, rfl⟩
      · have hm : l.length * bytes ≤ most2 := by exact Nat.le_trans hb0 (by rw [reach_eq]; decide)
        have h5 : ¬ (l.length ≤ 0) := by omega
        have hc0 : cut ([] : List AV) 0 0 = some [] := rfl
        simp only [appendV, lenV, cellsOf, hcut, hc0, h1, h2, List.nil_append, and_self, if_true, hbq, cond_true, h5, if_false, hm, Nat.le_refl, hg, Nat.zero_mul, Nat.zero_add]
      · exact (Fd.sl (by omega) (by rw [mk_next]; omega) (by rw [Heap.get_mk, if_pos rfl]) (hcut) (Fds.tolds h3)).cast rfl
      · intro d hd
        simp only [List.mem_singleton] at hd
        subst hd
        exact ⟨c, e, 0, by rw [Heap.get_mk, if_pos rfl], h4⟩
section
variable {P : Program}
theorem copyMap_cl (g : Pg P tab) {m : Mp} {c : List AV} (hm : RMp m c) {h : Heap} {Q : AV → Heap → Prop}
    (q : ∀ c' t h', Lvs h' (h.next ≤ ·) c' t → RMp m t → c'.length = 3 → c'.all AV.one = true → Ext h h' → Q (.agg c') h') : Cl P 14 [.agg c] h Q := by
  obtain ⟨a, u, rfl, h1, h2, h3⟩ := hm
  refine g.cl (vf := v14) rfl rfl ?_
  simp only [v14, RX, VOp.fresh, bxC, bsC, un, most, callsOf, seval, Int.reducePow, ↓reduceIte, Nat.reduceEqDiff, reduceCtorEq]
  refine EvMD.lk (fun _ _ h => (.undef, h)) ?_
  have f1 : ¬ h.next = h.next + 1 + 1 + 6 := by omega
  have f2 : ¬ h.next = h.next + 1 + 1 + 2 := by omega
  have f3 : ¬ h.next = h.next + 1 := by omega
  have f4 : ¬ h.next + 1 + 1 + 2 = h.next + 1 + 1 + 6 := by omega
  have f5 : ¬ h.next + 1 + 1 + 6 = h.next + 1 + 1 + 2 := by omega
  have f6 : ¬ h.next + 1 = h.next + 1 + 1 + 6 := by omega
  have f7 : ¬ h.next + 1 = h.next + 1 + 1 + 2 := by omega
  have g0 : ((((h.mk' h.next (.cells [.int .i64 m.epoch, a, u] 26 0)).mk' (h.next + 1) (.cells [.int .i64 0, .nils, .nils] 26 0)).mk' (h.next + 1 + 1 + 2) .dead).mk' (h.next + 1 + 1 + 6) .dead).get h.next = some (.cells [.int .i64 m.epoch, a, u] 26 0) := by
    simp only [Heap.get_mk, f1, f2, f3, if_false, if_true]
  have g1 : ((((h.mk' h.next (.cells [.int .i64 m.epoch, a, u] 26 0)).mk' (h.next + 1) (.cells [.int .i64 0, .nils, .nils] 26 0)).mk' (h.next + 1 + 1 + 2) .dead).mk' (h.next + 1 + 1 + 6) .dead).get (h.next + 1) = some (.cells [.int .i64 0, .nils, .nils] 26 0) := by
    simp only [Heap.get_mk, f6, f7, if_false, if_true]
  have n0 : ((((h.mk' h.next (.cells [.int .i64 m.epoch, a, u] 26 0)).mk' (h.next + 1) (.cells [.int .i64 0, .nils, .nils] 26 0)).mk' (h.next + 1 + 1 + 2) .dead).mk' (h.next + 1 + 1 + 6) .dead).next = h.next + 9 := by
    simp only [mk_next]; omega
  have x0 : Ext h ((((h.mk' h.next (.cells [.int .i64 m.epoch, a, u] 26 0)).mk' (h.next + 1) (.cells [.int .i64 0, .nils, .nils] 26 0)).mk' (h.next + 1 + 1 + 2) .dead).mk' (h.next + 1 + 1 + 6) .dead) := ⟨by omega, fun b hb => by
    rw [Heap.get_mk, if_neg (by omega), Heap.get_mk, if_neg (by omega), Heap.get_mk, if_neg (by omega), Heap.get_mk, if_neg (by omega)]⟩
  simp only [RW, RX, VOp.fresh, bxC, bsC, un, most, callsOf, seval, Int.reducePow, ↓reduceIte, Nat.reduceEqDiff, reduceCtorEq]
  generalize (((h.mk' h.next (.cells [.int .i64 m.epoch, a, u] 26 0)).mk' (h.next + 1) (.cells [.int .i64 0, .nils, .nils] 26 0)).mk' (h.next + 1 + 1 + 2) .dead).mk' (h.next + 1 + 1 + 6) .dead = H at *
  have gb1 : (H.mk' (h.next + 1 + 1 + 2) (.cells [] 3 0)).get (h.next + 1 + 1 + 2) = some (.cells [] 3 0) := by rw [Heap.get_mk, if_pos rfl]
  have nb1 : (H.mk' (h.next + 1 + 1 + 2) (.cells [] 3 0)).next = h.next + 9 := by rw [mk_next]; omega
  have k1 : ∀ c, c ≠ h.next + 1 + 1 + 2 → (H.mk' (h.next + 1 + 1 + 2) (.cells [] 3 0)).get c = H.get c := fun c hc => by rw [Heap.get_mk, if_neg hc]
  obtain ⟨v1, H1, t1, ap1, nx1, kp1, lv1, is1, ce1, on1⟩ := app_copy plainInt h2 gb1 3
  have g01 := (kp1 h.next (by omega) (by omega)).trans ((k1 h.next (by omega)).trans g0)
  have g11 := (kp1 (h.next + 1) (by omega) (by omega)).trans ((k1 (h.next + 1) (by omega)).trans g1)
  have gb2 : (H1.mk' (h.next + 1 + 1 + 6) (.cells [] 3 0)).get (h.next + 1 + 1 + 6) = some (.cells [] 3 0) := by rw [Heap.get_mk, if_pos rfl]
  have nb2 : (H1.mk' (h.next + 1 + 1 + 6) (.cells [] 3 0)).next = H1.next := by rw [mk_next]; omega
  have k2 : ∀ c, c ≠ h.next + 1 + 1 + 6 → (H1.mk' (h.next + 1 + 1 + 6) (.cells [] 3 0)).get c = H1.get c := fun c hc => by rw [Heap.get_mk, if_neg hc]
  obtain ⟨v2, H2, t2, ap2, nx2, kp2, lv2, is2, ce2, on2⟩ := app_copy plainInt h3 gb2 3
  have g02 := (kp2 h.next (by omega) (by omega)).trans ((k2 h.next (by omega)).trans g01)
  have g12 := (kp2 (h.next + 1) (by omega) (by omega)).trans ((k2 (h.next + 1) (by omega)).trans g11)
  simp only [RW, f1, f2, f3, g0, g01, g02, g11, g12, ap1, ap2, ce1, ce2, on1, on2, RX, VOp.fresh, bxC, bsC, un, most, callsOf, seval, Int.reducePow, ↓reduceIte, Nat.reduceEqDiff, reduceCtorEq]
  have gm : (H.mk' (h.next + 1 + 1 + 2) (.cells [] 3 0)).get h.next = some (.cells [.int .i64 m.epoch, a, u] 26 0) := (k1 h.next (by omega)).trans g0
  have gm1 : (H1.mk' (h.next + 1 + 1 + 6) (.cells [] 3 0)).get h.next = some (.cells [.int .i64 m.epoch, a, u] 26 0) := (k2 h.next (by omega)).trans g01
  refine ⟨⟨⟨?_, ?_, ?_, ?_, trivial⟩, ⟨?_, trivial⟩, ⟨?_, ?_, ?_, trivial⟩, trivial⟩, ?_⟩
  · show Lk _ _ _ _
    simp only [Lk, wanted, f1, f2, gm, g0, RX, VOp.fresh, bxC, bsC, un, most, callsOf, seval, Int.reducePow, ↓reduceIte, Nat.reduceEqDiff, reduceCtorEq]
  · show Lk _ _ _ _
    simp only [Lk, wanted, f1, f2, g01, RX, VOp.fresh, bxC, bsC, un, most, callsOf, seval, Int.reducePow, ↓reduceIte, Nat.reduceEqDiff, reduceCtorEq]
  · show Lk _ _ _ _
    simp only [Lk, wanted, f1, f2, gm1, g01, RX, VOp.fresh, bxC, bsC, un, most, callsOf, seval, Int.reducePow, ↓reduceIte, Nat.reduceEqDiff, reduceCtorEq]
  · show Lk _ _ _ _
    simp only [Lk, wanted, f1, f2, g02, RX, VOp.fresh, bxC, bsC, un, most, callsOf, seval, Int.reducePow, ↓reduceIte, Nat.reduceEqDiff, reduceCtorEq]
  · show Lk _ _ _ _
    simp only [Lk, wanted, f1, f2, g0, RX, VOp.fresh, bxC, bsC, un, most, callsOf, seval, Int.reducePow, ↓reduceIte, Nat.reduceEqDiff, reduceCtorEq]
  · show Lk _ _ _ _
    simp only [Lk, wanted, f1, f2, g0, RX, VOp.fresh, bxC, bsC, un, most, callsOf, seval, Int.reducePow, ↓reduceIte, Nat.reduceEqDiff, reduceCtorEq]
  · show Lk _ _ _ _
    simp only [Lk, wanted, f1, f2, g0, gm, RX, VOp.fresh, bxC, bsC, un, most, callsOf, seval, Int.reducePow, ↓reduceIte, Nat.reduceEqDiff, reduceCtorEq]
  · show Lk _ _ _ _
    simp only [Lk, wanted, f1, f2, g01, RX, VOp.fresh, bxC, bsC, un, most, callsOf, seval, Int.reducePow, ↓reduceIte, Nat.reduceEqDiff, reduceCtorEq]
  have lv1' : Lv H2 (fun c => h.next + 2 ≤ c) v1 t1 := ((lv1.weak (B' := fun c => h.next + 9 ≤ c) fun c hc _ => by omega).frame (by omega) fun c hc hl => (kp2 c (by omega) (by omega)).trans (k2 c (by omega))).weak fun c hc _ => by omega
  have lv2' : Lv H2 (fun c => h.next + 2 ≤ c) v2 t2 := lv2.weak fun c hc _ => by omega
  refine q _ [.int .i64 m.epoch, t1, t2] _ ((Lvs.cons .int (.cons lv1' (.cons lv2' .nil))).put (by omega) _ |>.weak fun c hc _ => by omega) ⟨_, _, rfl, h1, is1, is2⟩ rfl (by simp only [List.all_cons, List.all_nil, one_int, on1, on2, Bool.and_self]) ⟨by rw [put_next]; omega, fun b hb => ?_⟩
  rw [Heap.get_put, if_neg (by omega)]
  exact (kp2 b (by omega) (by omega)).trans ((k2 b (by omega)).trans ((kp1 b (by omega) (by omega)).trans ((k1 b (by omega)).trans (x0.2 b hb))))
end
section
variable {P : Program}
theorem Cat.take {α : Type} {R : α → List AV → Prop} {l : List α} {c d : List AV} {i : Nat} (hi : i < l.length) (h : Cat R (l.take i) c) (h' : R l[i] d) : Cat R (l.take (i + 1)) (c ++ d) := by
  rw [List.take_succ_eq_append_getElem hi]
  have := h.append (Cat.cons h' .nil)
  rwa [List.append_nil] at this
theorem cp_rings (g : Pg P tab) {rs : List (List Pt)} {w : AV} (hw : IsL 24 RRing w rs) {n0 n2 N0 ea va : Nat} {a0 a1 p0 p1 : AV} (hn0 : n0 < N0) (hn2 : n2 < N0) (hne : n0 ≠ n2) {G : Nat → Option Blk} (hG : G n0 = some (.cells [a0, a1, w] ea va)) (n : Nat) :
    ∀ (i : Nat) (tc : List AV) (s : T AV) (h : Heap) (rv : AV) (k : List Fr) (Q : Ex → T AV → Heap → Prop), i + n = rs.length → N0 ≤ h.next → (∃ e ver, h.get n2 = some (.cells [p0, p1, rv] e ver)) → LR h (N0 ≤ ·) rv 1 tc i → Cat RRing (rs.take i) tc →
    (∀ b, b < N0 → b ≠ n2 → h.get b = G b) → sg s 1 = .ptr n0 0 → sg s 3 = .ptr n2 0 → sg s 4 = .int .i64 i →
    (∀ s' h' rv' tc', (∃ e ver, h'.get n2 = some (.cells [p0, p1, rv'] e ver)) → LR h' (N0 ≤ ·) rv' 1 tc' rs.length → Cat RRing rs tc' → (∀ b, b < N0 → b ≠ n2 → h'.get b = G b) → N0 ≤ h'.next → (∀ j, j = 2 ∨ j = 3 → sg s' j = sg s j) → Un P k Q (.exit 0) s' h') → Lp P b44_0 s h (Un P k Q) := by
  have hbd := hw.bound (by decide)
  induction n with
  | zero =>
    intro i tc s h rv k Q hi hh hf r hc hk h1 h3 h4 hQ
    refine g.lpe b44_0.eq_1 ?_
    have g0 := (hk n0 hn0 hne).trans hG
    have c1 : ¬ ((i : Int) < (rs.length : Int)) := by omega
    simp only [h1, h4, g0, hw.len, c1, RX, VOp.fresh, bxC, bsC, un, most, callsOf, seval, Int.reducePow, ↓reduceIte, Nat.reduceEqDiff, reduceCtorEq]
    have hi' : i = rs.length := by omega
    subst hi'
    rw [List.take_length] at hc
    refine hQ _ _ rv _ hf r hc hk hh ?_
    rintro j (rfl | rfl) <;> simp only [sg_set, Nat.reduceEqDiff, ↓reduceIte]
  | succ n ih =>
    intro i tc s h rv k Q hi hh hf r hc hk h1 h3 h4 hQ
    refine g.lpe b44_0.eq_1 ?_
    have g0 := (hk n0 hn0 hne).trans hG
    have c1 : ((i : Int) < (rs.length : Int)) := by omega
    have w1 : IntKind.i64.wrap ((i : Int) + 1) = ((i + 1 : Nat) : Int) := by rw [w64 (by omega) (by omega)]; push_cast; rfl
    obtain ⟨ci, rr, ⟨vi, rfl, hvi⟩, hat⟩ := hw.at zRing i (by omega)
    obtain ⟨ef, vf, hf⟩ := hf
    have hm24 : (i + 1) * 24 ≤ most2 := by have := hw.1; rw [reach_eq] at this; unfold most2; omega
    simp only [h1, h3, h4, g0, hw.len, c1, RX, VOp.fresh, bxC, bsC, un, most, callsOf, seval, Int.reducePow, ↓reduceIte, Nat.reduceEqDiff, reduceCtorEq]
    refine EvD.lk (fun _ _ h => (.undef, h)) ?_
    have gb1 : (h.mk' h.next (.cells [] 48 0)).get h.next = some (.cells [] 48 0) := by rw [Heap.get_mk, if_pos rfl]
    have nb1 : (h.mk' h.next (.cells [] 48 0)).next = h.next + 1 := by rw [mk_next]; omega
    have em1 := Ext.mk (h := h) (.cells [] 48 0)
    obtain ⟨v1, H1, t1, ap1, nx1, kp1, lv1, is1, ce1, on1⟩ := app_copy plainPt hvi gb1 48
    have kk1 : ∀ b, b < h.next → H1.get b = h.get b := fun b hb => (kp1 b (by omega) (by omega)).trans (em1.2 b hb)
    have em2 := Ext.mk (h := H1) (.cells [v1] 49 0)
    have nb2 : (H1.mk' H1.next (.cells [v1] 49 0)).next = H1.next + 1 := by rw [mk_next]; omega
    have r1 : LR H1 (N0 ≤ ·) rv 1 tc i := r.frame (by omega) fun b _ hb => kk1 b hb
    have hlt := r.lt
    have lv2 : Lvs (H1.mk' H1.next (.cells [v1] 49 0)) (fun b => N0 ≤ b ∧ b ∉ blkOf rv) [v1] [t1] := .cons ((lv1.frame em2.1 fun b _ hb => em2.2 b hb).weak fun b hb _ => ⟨by omega, fun hc => by have := hlt b hc; omega⟩) .nil
    obtain ⟨H3, e3, r3, n3, k3⟩ := (r1.frame em2.1 fun b _ hb => em2.2 b hb).push (nb := H1.next) (eb := 49) (vb := 0) (c := [v1]) (by rw [Heap.get_mk, if_pos rfl]) rfl (by simp [on1]) lv2 (by rw [nb2]; omega) (bytes := 24) hm24 49
    rw [nb2] at e3 r3 n3 k3
    have hv := r1.inB
    have kk3 : ∀ b, b < H1.next → b ∉ blkOf rv → H3.get b = H1.get b := fun b hb hn => (k3 b hn (by omega)).trans (em2.2 b hb)
    have hf1 := (kk1 n2 (by omega)).trans hf
    have hf3 := (kk3 n2 (by omega) fun hc => by have := hv n2 hc; omega).trans hf1
    have hfn : ¬ n2 = H1.next := by omega
    have hfm : ¬ n2 = h.next := by omega
    have h0m : ¬ n0 = h.next := by omega
    simp only [h1, h3, h4, g0, hf, hf1, hf3, hfn, hfm, h0m, hat, ap1, e3, ce1, on1, w1, RW, RX, VOp.fresh, bxC, bsC, un, most, callsOf, seval, Int.reducePow, ↓reduceIte, Nat.reduceEqDiff, reduceCtorEq]
    have gm1 := (em1.2 n2 (by omega)).trans hf
    have gm2 := (em2.2 n2 (by omega)).trans hf1
    refine ⟨⟨⟨?_, ?_, ?_, trivial⟩, ⟨?_, trivial⟩, ⟨?_, trivial⟩, trivial⟩, ?_⟩
    · show Lk _ _ _ _
      simp only [Lk, wanted, gm1, hf, hfm, RX, VOp.fresh, bxC, bsC, un, most, callsOf, seval, Int.reducePow, ↓reduceIte, Nat.reduceEqDiff, reduceCtorEq]
    · show Lk _ _ _ _
      simp only [Lk, wanted, hf1, RX, VOp.fresh, bxC, bsC, un, most, callsOf, seval, Int.reducePow, ↓reduceIte, Nat.reduceEqDiff, reduceCtorEq]
    · show Lk _ _ _ _
      simp only [Lk, wanted, gm2, hf1, hfn, RX, VOp.fresh, bxC, bsC, un, most, callsOf, seval, Int.reducePow, ↓reduceIte, Nat.reduceEqDiff, reduceCtorEq]
    · show Lk _ _ _ _
      simp only [Lk, wanted, g0, RX, VOp.fresh, bxC, bsC, un, most, callsOf, seval, Int.reducePow, ↓reduceIte, Nat.reduceEqDiff, reduceCtorEq]
    · show Lk _ _ _ _
      simp only [Lk, wanted, hat, RX, VOp.fresh, bxC, bsC, un, most, callsOf, seval, Int.reducePow, ↓reduceIte, Nat.reduceEqDiff, reduceCtorEq]
    refine ih (i + 1) (tc ++ [t1]) _ _ (.sl (H1.next + 1) 0 (i + 1) (i + 1) 1) k Q (by omega) ?_ ?_ ?_ ?_ ?_ ?_ ?_ ?_ ?_
    · rw [put_next]; omega
    · exact ⟨ef, vf + 1, by rw [Heap.get_put, if_pos rfl]⟩
    · have r6 := (r3.weak (B' := fun b => N0 ≤ b ∧ b ≠ n2) fun b hb _ => ⟨hb, by omega⟩).frame (h' := H3.put n2 (.cells [p0, p1, .sl (H1.next + 1) 0 (i + 1) (i + 1) 1] ef (vf + 1))) (by rw [put_next]; exact Nat.le_refl _) fun b hb _ => by rw [Heap.get_put, if_neg hb.2]
      exact r6.weak (B' := (N0 ≤ ·)) fun b hb _ => hb.1
    · exact hc.take (by omega) ⟨t1, rfl, is1⟩
    · intro b hb hf'
      rw [Heap.get_put, if_neg hf', kk3 b (by omega) (fun hc => by have := hv b hc; omega), kk1 b (by omega), hk b hb hf']
    · simp only [h1, sg_set, Nat.reduceEqDiff, ↓reduceIte]
    · simp only [h3, sg_set, Nat.reduceEqDiff, ↓reduceIte]
    · simp only [sg_set, Nat.reduceEqDiff, ↓reduceIte]
    · intro s' h' rv' tc' q1 q2 q3 q4 q5 q6
      refine hQ s' h' rv' tc' q1 q2 q3 q4 q5 fun j hj => (q6 j hj).trans ?_
      rcases hj with rfl | rfl <;> simp only [sg_set, Nat.reduceEqDiff, ↓reduceIte]
theorem copyFeat_cl (g : Pg P tab) {f : Feat} {c : List AV} (hm : RFeat f c) {h : Heap} {Q : AV → Heap → Prop}
    (q : ∀ c' t h', Lvs h' (h.next ≤ ·) c' t → RFeat f t → c'.length = 3 → c'.all AV.one = true → Ext h h' → Q (.agg c') h') : Cl P 44 [.agg c] h Q := by
  obtain ⟨w, rfl, h1, h2, hw⟩ := hm
  refine g.cl (vf := v44) rfl rfl ?_
  have f1 : ¬ h.next = h.next + 1 + 1 := by omega
  have f2 : ¬ h.next = h.next + 1 := by omega
  simp only [v44, RW, f1, f2, RX, VOp.fresh, bxC, bsC, un, most, callsOf, seval, Int.reducePow, ↓reduceIte, Nat.reduceEqDiff, reduceCtorEq]
  have g0 : ((((h.mk' h.next (.cells [.int .i64 f.id, .int .i64 f.shape, w] 52 0)).mk' (h.next + 1) (.cells [.int .i64 0, .int .i64 0, .nils] 52 0)).mk' (h.next + 1 + 1) (.cells [.int .i64 0, .int .i64 0, .nils] 52 0)).put (h.next + 1 + 1) (.cells [.int .i64 f.id, .int .i64 f.shape, .nils] 52 1)).get h.next = some (.cells [.int .i64 f.id, .int .i64 f.shape, w] 52 0) := by
    rw [Heap.get_put, if_neg (by omega), Heap.get_mk, if_neg (by omega), Heap.get_mk, if_neg (by omega), Heap.get_mk, if_pos rfl]
  have g1 : ((((h.mk' h.next (.cells [.int .i64 f.id, .int .i64 f.shape, w] 52 0)).mk' (h.next + 1) (.cells [.int .i64 0, .int .i64 0, .nils] 52 0)).mk' (h.next + 1 + 1) (.cells [.int .i64 0, .int .i64 0, .nils] 52 0)).put (h.next + 1 + 1) (.cells [.int .i64 f.id, .int .i64 f.shape, .nils] 52 1)).get (h.next + 1) = some (.cells [.int .i64 0, .int .i64 0, .nils] 52 0) := by
    rw [Heap.get_put, if_neg (by omega), Heap.get_mk, if_neg (by omega), Heap.get_mk, if_pos rfl]
  have g2 : ((((h.mk' h.next (.cells [.int .i64 f.id, .int .i64 f.shape, w] 52 0)).mk' (h.next + 1) (.cells [.int .i64 0, .int .i64 0, .nils] 52 0)).mk' (h.next + 1 + 1) (.cells [.int .i64 0, .int .i64 0, .nils] 52 0)).put (h.next + 1 + 1) (.cells [.int .i64 f.id, .int .i64 f.shape, .nils] 52 1)).get (h.next + 1 + 1) = some (.cells [.int .i64 f.id, .int .i64 f.shape, .nils] 52 1) := by
    rw [Heap.get_put, if_pos rfl]
  have n0 : ((((h.mk' h.next (.cells [.int .i64 f.id, .int .i64 f.shape, w] 52 0)).mk' (h.next + 1) (.cells [.int .i64 0, .int .i64 0, .nils] 52 0)).mk' (h.next + 1 + 1) (.cells [.int .i64 0, .int .i64 0, .nils] 52 0)).put (h.next + 1 + 1) (.cells [.int .i64 f.id, .int .i64 f.shape, .nils] 52 1)).next = h.next + 3 := by rw [put_next, mk_next, mk_next, mk_next]; omega
  have x0 : ∀ b, b < h.next → ((((h.mk' h.next (.cells [.int .i64 f.id, .int .i64 f.shape, w] 52 0)).mk' (h.next + 1) (.cells [.int .i64 0, .int .i64 0, .nils] 52 0)).mk' (h.next + 1 + 1) (.cells [.int .i64 0, .int .i64 0, .nils] 52 0)).put (h.next + 1 + 1) (.cells [.int .i64 f.id, .int .i64 f.shape, .nils] 52 1)).get b = h.get b := fun b hb => by
    rw [Heap.get_put, if_neg (by omega), Heap.get_mk, if_neg (by omega), Heap.get_mk, if_neg (by omega), Heap.get_mk, if_neg (by omega)]
  generalize (((h.mk' h.next (.cells [.int .i64 f.id, .int .i64 f.shape, w] 52 0)).mk' (h.next + 1) (.cells [.int .i64 0, .int .i64 0, .nils] 52 0)).mk' (h.next + 1 + 1) (.cells [.int .i64 0, .int .i64 0, .nils] 52 0)).put (h.next + 1 + 1) (.cells [.int .i64 f.id, .int .i64 f.shape, .nils] 52 1) = H at *
  refine cp_rings g hw (n0 := h.next) (n2 := h.next + 1 + 1) (N0 := h.next + 3) (by omega) (by omega) (by omega) (G := H.get) g0 f.rings.length 0 [] _ H .nils _ _ (by omega) (by omega) ⟨_, _, g2⟩ (.nil _ _ _) .nil (fun _ _ _ => rfl) ?_ ?_ ?_ ?_
  · simp only [sg_set, Nat.reduceEqDiff, ↓reduceIte]
  · simp only [sg_set, Nat.reduceEqDiff, ↓reduceIte]
  · simp only [sg_set, Nat.reduceEqDiff, ↓reduceIte]
    rfl
  intro s' h' rv tc ⟨ef, vf, hf⟩ r hc hk hn a
  have a2 := a 2 (by simp)
  have a3 := a 3 (by simp)
  simp only [sg_set, Nat.reduceEqDiff, ↓reduceIte] at a2 a3
  have g1' := (hk (h.next + 1) (by omega) (by omega)).trans g1
  simp only [a2, a3, hf, g1', r.one, RW, RX, VOp.fresh, bxC, bsC, un, most, callsOf, seval, Int.reducePow, ↓reduceIte, Nat.reduceEqDiff, reduceCtorEq]
  refine q _ [.int .i64 f.id, .int .i64 f.shape, cRow tc f.rings.length] _ ((Lvs.cons .int (.cons .int (.cons (r.lv) .nil))).put (by omega) _ |>.weak fun c hc _ => by omega) ⟨_, rfl, h1, h2, row_isL hw.1 hc⟩ rfl ?_ ⟨by rw [put_next]; omega, fun b hb => ?_⟩
  · simp only [List.all_cons, List.all_nil, one_int, r.one, Bool.and_self]
  · rw [Heap.get_put, if_neg (by omega), hk b (by omega) (by omega), x0 b hb]
end
theorem len3 {l : List AV} (h : l.length = 3) : ∃ x y z, l = [x, y, z] := match l, h with | [x, y, z], _ => ⟨x, y, z, rfl⟩
section
variable {P : Program}
theorem cp_ops (g : Pg P tab) {os : List Op} {w : AV} (hw : IsL 112 ROp w os) {N0 : Nat} (n : Nat) :
    ∀ (i : Nat) (tc : List AV) (s : T AV) (h : Heap) (k : List Fr) (Q : Ex → T AV → Heap → Prop), i + n = os.length → N0 ≤ h.next → LR h (N0 ≤ ·) (sg s 3) 8 tc i → Cat ROp (os.take i) tc →
    sg s 0 = w → sg s 4 = .int .i64 i →
    (∀ s' h' tc', LR h' (N0 ≤ ·) (sg s' 3) 8 tc' os.length → Cat ROp os tc' → (∀ b, b < N0 → h'.get b = h.get b) → N0 ≤ h'.next → Un P k Q (.exit 0) s' h') → Lp P b13_0 s h (Un P k Q) := by
  have hbd := hw.bound (by decide)
  induction n with
  | zero =>
    intro i tc s h k Q hi hh r hc h0 h4 hQ
    refine g.lpe b13_0.eq_1 ?_
    have c1 : ¬ ((i : Int) < (os.length : Int)) := by omega
    simp only [h0, h4, hw.len, c1, RX, VOp.fresh, bxC, bsC, un, most, callsOf, seval, Int.reducePow, ↓reduceIte, Nat.reduceEqDiff, reduceCtorEq]
    have hi' : i = os.length := by omega
    subst hi'
    rw [List.take_length] at hc
    refine hQ _ _ _ ?_ hc (fun _ _ => rfl) hh
    simp only [sg_set, Nat.reduceEqDiff, ↓reduceIte]
    exact r
  | succ n ih =>
    intro i tc s h k Q hi hh r hc h0 h4 hQ
    refine g.lpe b13_0.eq_1 ?_
    have c1 : ((i : Int) < (os.length : Int)) := by omega
    have w1 : IntKind.i64.wrap ((i : Int) + 1) = ((i + 1 : Nat) : Int) := by rw [w64 (by omega) (by omega)]; push_cast; rfl
    have hm112 : (i + 1) * 112 ≤ most2 := by have := hw.1; rw [reach_eq] at this; unfold most2; omega
    obtain ⟨ci, rr, ⟨va, vb, vc, rfl, i1, i2, i3, i4, i5, i6, i7, i8⟩, hat⟩ := hw.at zOp i (by omega)
    obtain ⟨_, H1, ok1, c1', t1, rfl, lv1, is1, ln1, on1, e1⟩ := copyFeat_cl g (f := os[i].f) (c := [.int .i64 os[i].f.id, .int .i64 os[i].f.shape, va]) ⟨_, rfl, i2, i3, i4⟩ (h := h) (Q := fun v h' => ∃ c' t, v = .agg c' ∧ Lvs h' (h.next ≤ ·) c' t ∧ RFeat os[i].f t ∧ c'.length = 3 ∧ c'.all AV.one = true ∧ Ext h h')
      (fun c' t h' q1 q2 q3 q4 q5 => ⟨c', t, rfl, q1, q2, q3, q4, q5⟩)
    obtain ⟨_, H2, ok2, c2', t2, rfl, lv2, is2, ln2, on2, e2⟩ := copyMap_cl g (m := os[i].m) (c := [.int .i64 os[i].m.epoch, vb, vc]) ⟨_, _, rfl, i6, i7, i8⟩ (h := H1) (Q := fun v h' => ∃ c' t, v = .agg c' ∧ Lvs h' (H1.next ≤ ·) c' t ∧ RMp os[i].m t ∧ c'.length = 3 ∧ c'.all AV.one = true ∧ Ext H1 h')
      (fun c' t h' q1 q2 q3 q4 q5 => ⟨c', t, rfl, q1, q2, q3, q4, q5⟩)
    obtain ⟨x1, x2, x3, rfl⟩ := len3 ln1
    obtain ⟨y1, y2, y3, rfl⟩ := len3 ln2
    have on1' := on1
    have on2' := on2
    simp only [List.all_cons, List.all_nil, Bool.and_true, Bool.and_eq_true] at on1' on2'
    obtain ⟨o1, o2, o3⟩ := on1'
    obtain ⟨o4, o5, o6⟩ := on2'
    have em := Ext.mk (h := H2) (.cells [.int .i64 os[i].kind, x1, x2, x3, .int .i64 os[i].id, y1, y2, y3] 54 0)
    have nb : (H2.mk' H2.next (.cells [.int .i64 os[i].kind, x1, x2, x3, .int .i64 os[i].id, y1, y2, y3] 54 0)).next = H2.next + 1 := by rw [mk_next]; omega
    have xx := (e1.trans e2)
    have hlt := r.lt
    have r2 : LR H2 (N0 ≤ ·) (sg s 3) 8 tc i := r.frame xx.1 fun b _ hb => xx.2 b hb
    have a1 : Lvs (H2.mk' H2.next (.cells [.int .i64 os[i].kind, x1, x2, x3, .int .i64 os[i].id, y1, y2, y3] 54 0)) (fun b => N0 ≤ b ∧ b ∉ blkOf (sg s 3)) [x1, x2, x3] t1 :=
      ((lv1.frame e2.1 fun b _ hb => e2.2 b hb).frame em.1 fun b _ hb => em.2 b hb).weak fun b hb _ => ⟨by omega, fun hc => by have := hlt b hc; omega⟩
    have a2 : Lvs (H2.mk' H2.next (.cells [.int .i64 os[i].kind, x1, x2, x3, .int .i64 os[i].id, y1, y2, y3] 54 0)) (fun b => N0 ≤ b ∧ b ∉ blkOf (sg s 3)) [y1, y2, y3] t2 :=
      (lv2.frame em.1 fun b _ hb => em.2 b hb).weak fun b hb _ => ⟨by have := e1.1; omega, fun hc => by have := hlt b hc; have := e1.1; omega⟩
    have la := Lvs.cons (x := .int .i64 os[i].kind) .int (a1.app (.cons (x := .int .i64 os[i].id) .int a2))
    have e11 := e1.1
    have e21 := e2.1
    obtain ⟨H3, p3, r3, n3, k3⟩ := (r2.frame em.1 fun b _ hb => em.2 b hb).push (nb := H2.next) (eb := 54) (vb := 0) (c := [.int .i64 os[i].kind, x1, x2, x3, .int .i64 os[i].id, y1, y2, y3]) (by rw [Heap.get_mk, if_pos rfl]) rfl (by simp only [List.all_cons, List.all_nil, one_int, o1, o2, o3, o4, o5, o6, Bool.and_self]) la (by rw [nb]; omega) (bytes := 112) hm112 54
    rw [nb] at p3 r3 n3 k3
    have hv := r2.inB
    have kk3 : ∀ b, b < N0 → H3.get b = h.get b := fun b hb => (k3 b (fun hc => by have := hv b hc; omega) (by omega)).trans ((em.2 b (by omega)).trans (xx.2 b (by omega)))
    have ho : ROp os[i] (.int .i64 os[i].kind :: (t1 ++ .int .i64 os[i].id :: t2)) := by
      obtain ⟨z1, rfl, u1, u2, u3⟩ := is1
      obtain ⟨z2, z3, rfl, u4, u5, u6⟩ := is2
      exact ⟨z1, z2, z3, rfl, i1, u1, u2, u3, i5, u4, u5, u6⟩
    simp only [h0, h4, hw.len, c1, RX, VOp.fresh, bxC, bsC, un, most, callsOf, seval, Int.reducePow, ↓reduceIte, Nat.reduceEqDiff, reduceCtorEq]
    refine EvD.lk (fun f _ _ => if f = 44 then (.agg [x1, x2, x3], H1) else (.agg [y1, y2, y3], H2)) ?_
    simp only [h0, h4, hat, ok1, ok2, p3, w1, RW, RX, VOp.fresh, bxC, bsC, un, most, callsOf, seval, Int.reducePow, ↓reduceIte, Nat.reduceEqDiff, reduceCtorEq]
    refine ⟨⟨⟨?_, ?_, trivial⟩, ⟨?_, ?_, trivial⟩, ⟨?_, trivial⟩, trivial⟩, ?_⟩
    · show Lk _ _ _ _
      simp only [Lk, wanted, RX, VOp.fresh, bxC, bsC, un, most, callsOf, seval, Int.reducePow, ↓reduceIte, Nat.reduceEqDiff, reduceCtorEq]
    · show Lk _ _ _ _
      simp only [Lk, wanted, RX, VOp.fresh, bxC, bsC, un, most, callsOf, seval, Int.reducePow, ↓reduceIte, Nat.reduceEqDiff, reduceCtorEq]
    · show Lk _ _ _ _
      simp only [Lk, wanted, RX, VOp.fresh, bxC, bsC, un, most, callsOf, seval, Int.reducePow, ↓reduceIte, Nat.reduceEqDiff, reduceCtorEq]
    · show Lk _ _ _ _
      simp only [Lk, wanted, RX, VOp.fresh, bxC, bsC, un, most, callsOf, seval, Int.reducePow, ↓reduceIte, Nat.reduceEqDiff, reduceCtorEq]
    · show Lk _ _ _ _
      simp only [Lk, wanted, RX, VOp.fresh, bxC, bsC, un, most, callsOf, seval, Int.reducePow, ↓reduceIte, Nat.reduceEqDiff, reduceCtorEq]
    refine ih (i + 1) (tc ++ _) _ H3 k Q (by omega) (by omega) ?_ (hc.take (by omega) ho) ?_ ?_ ?_
    · simp only [sg_set, Nat.reduceEqDiff, ↓reduceIte]
      exact r3
    · simp only [h0, sg_set, Nat.reduceEqDiff, ↓reduceIte]
    · simp only [sg_set, Nat.reduceEqDiff, ↓reduceIte]
    · intro s' h' tc' q1 q2 q3 q4
      exact hQ s' h' tc' q1 q2 (fun b hb => (q3 b hb).trans (kk3 b hb)) q4
theorem copyOps_cl (g : Pg P tab) {os : List Op} {w : AV} (hw : IsL 112 ROp w os) {h : Heap} {Q : AV → Heap → Prop}
    (q : ∀ v t h', Lv h' (h.next ≤ ·) v t → IsL 112 ROp t os → v.cells = some [v] → v.one = true → Ext h h' → Q v h') : Cl P 13 [w] h Q := by
  refine g.cl (vf := v13) rfl rfl ?_
  simp only [v13, RX, VOp.fresh, bxC, bsC, un, most, callsOf, seval, Int.reducePow, ↓reduceIte, Nat.reduceEqDiff, reduceCtorEq]
  refine cp_ops g hw (N0 := h.next) os.length 0 [] _ h _ _ (by omega) (Nat.le_refl _) ?_ .nil ?_ ?_ ?_
  · simp only [sg_set, Nat.reduceEqDiff, ↓reduceIte]
    exact .nil _ _ _
  · simp only [sg_set, Nat.reduceEqDiff, ↓reduceIte]
  · simp only [sg_set, Nat.reduceEqDiff, ↓reduceIte]
    rfl
  intro s' h' tc r hc hk hn
  simp only [RX, VOp.fresh, bxC, bsC, un, most, callsOf, seval, Int.reducePow, ↓reduceIte, Nat.reduceEqDiff, reduceCtorEq]
  exact q _ (cRow tc os.length) _ r.lv (row_isL hw.1 hc) r.cells r.one ⟨hn, hk⟩
end
end Go.Proofs.Ytinonmcnofjeeaa.VM
namespace Go.Proofs.Ytinonmcnofjeeaa.VM
attribute [local irreducible] Af Nx EvO Ev Un Gd Cd EvR EvQ EvC Nc Gc Lp EvM NxM AfM GdM EvMR EvMQ EvMD EvMC Nm Gm
section
variable {P : Program}
theorem sInts_loop (g : Pg P tab) {l : List Int} {a b : AV} (ha : IsL 8 RInt a l) (hb : IsL 8 RInt b l) (n : Nat) :
    ∀ (i : Nat) (s : T AV) (hh : Heap) (k : List Fr) (Q : Ex → T AV → Heap → Prop), i + n = l.length → sg s 0 = a → sg s 1 = b → sg s 5 = .int .i64 i → (∀ s' h', Un P k Q (.exit 0) s' h') → Lp P b96_0 s hh (Un P k Q) := by
  have hbd := ha.bound (by decide)
  induction n with
  | zero =>
    intro i s hh k Q hi h0 h1 h5 hK
    refine g.lpe b96_0.eq_1 ?_
    have c1 : ¬ ((i : Int) < (l.length : Int)) := by omega
    simp only [h0, h5, ha.len, c1, RX, VOp.fresh, bxC, bsC, un, most, callsOf, seval, Int.reducePow, ↓reduceIte, Nat.reduceEqDiff, reduceCtorEq]
    exact hK _ _
  | succ n ih =>
    intro i s hh k Q hi h0 h1 h5 hK
    refine g.lpe b96_0.eq_1 ?_
    have c1 : (i : Int) < (l.length : Int) := by omega
    obtain ⟨r1, _, g1⟩ := getInt ha i (by omega)
    obtain ⟨r2, _, g2⟩ := getInt hb i (by omega)
    have w1 : IntKind.i64.wrap ((i : Int) + 1) = ((i + 1 : Nat) : Int) := by rw [w64 (by omega) (by omega)]; push_cast; rfl
    simp only [h0, h1, h5, ha.len, c1, g1, g2, w1, RX, VOp.fresh, bxC, bsC, un, most, callsOf, seval, Int.reducePow, ↓reduceIte, Nat.reduceEqDiff, reduceCtorEq]
    refine ih (i + 1) _ _ k Q (by omega) ?_ ?_ ?_ hK
    · simp only [h0, sg_set, Nat.reduceEqDiff, ↓reduceIte]
    · simp only [h1, sg_set, Nat.reduceEqDiff, ↓reduceIte]
    · simp only [sg_set, Nat.reduceEqDiff, ↓reduceIte]
theorem sInts_pu (g : Pg P tab) {l : List Int} {a b : AV} (ha : IsL 8 RInt a l) (hb : IsL 8 RInt b l) : Pu P 96 [a, b] (fun v => v = .bool true) := by
  refine g.pu (vf := v96) rfl rfl ?_
  simp only [v96, ha.len, hb.len, RX, VOp.fresh, bxC, bsC, un, most, callsOf, seval, Int.reducePow, ↓reduceIte, Nat.reduceEqDiff, reduceCtorEq]
  refine sInts_loop g ha hb l.length 0 _ _ _ _ (by omega) ?_ ?_ ?_ fun s' h' => ?_
  · simp only [sg_set, Nat.reduceEqDiff, ↓reduceIte]
  · simp only [sg_set, Nat.reduceEqDiff, ↓reduceIte]
  · simp only [sg_set, Nat.reduceEqDiff, ↓reduceIte]
    rfl
  simp only [RX, VOp.fresh, bxC, bsC, un, most, callsOf, seval, Int.reducePow, ↓reduceIte, Nat.reduceEqDiff, reduceCtorEq]
theorem sMap_pu (g : Pg P tab) {e : Int} {l1 l2 : List Int} {a1 a2 b1 b2 : AV} (h1 : IsL 8 RInt a1 l1) (h2 : IsL 8 RInt a2 l2) (k1 : IsL 8 RInt b1 l1) (k2 : IsL 8 RInt b2 l2) : Pu P 67 [.agg [.int .i64 e, a1, a2], .agg [.int .i64 e, b1, b2]] (fun v => v = .bool true) := by
  refine g.pu (vf := v67) rfl rfl ?_
  simp only [v67, RX, VOp.fresh, bxC, bsC, un, most, callsOf, seval, Int.reducePow, ↓reduceIte, Nat.reduceEqDiff, reduceCtorEq]
  refine (sInts_pu g h1 k1).go (by simp [AV.tolds, h1.told tInt, k1.told tInt]) ?_
  rintro v rfl
  simp only [RX, VOp.fresh, bxC, bsC, un, most, callsOf, seval, Int.reducePow, ↓reduceIte, Nat.reduceEqDiff, reduceCtorEq]
  refine (sInts_pu g h2 k2).go (by simp [AV.tolds, h2.told tInt, k2.told tInt]) ?_
  rintro v rfl
  simp only [RX, VOp.fresh, bxC, bsC, un, most, callsOf, seval, Int.reducePow, ↓reduceIte, Nat.reduceEqDiff, reduceCtorEq]
theorem sPts_loop (g : Pg P tab) {l : List Pt} {a b w u p0 p1 q0 q1 : AV} (ha : IsL 16 RPt a l) (hb : IsL 16 RPt b l) {i0 n2 n3 : Nat} (hwa : ∃ r, ∀ hh : Heap, iaV hh 1 none w (.int .i64 i0) = .val (.rp (a :: r)) hh) (hub : ∃ r, ∀ hh : Heap, iaV hh 1 none u (.int .i64 i0) = .val (.rp (b :: r)) hh) (n : Nat) :
    ∀ (i : Nat) (s : T AV) (hh : Heap) (k : List Fr) (Q : Ex → T AV → Heap → Prop), i + n = l.length → (∃ e ver, hh.get n2 = some (.cells [p0, p1, w] e ver)) → (∃ e ver, hh.get n3 = some (.cells [q0, q1, u] e ver)) → sg s 2 = .ptr n2 0 → sg s 3 = .ptr n3 0 → sg s 5 = .int .i64 i0 → sg s 6 = .int .i64 i →
      (∀ s', (∀ j, j = 2 ∨ j = 3 ∨ j = 5 → sg s' j = sg s j) → Un P k Q (.exit 2) s' hh) → Lp P b97_0 s hh (Un P k Q) := by
  have hbd := ha.bound (by decide)
  obtain ⟨ra, hwa⟩ := hwa
  obtain ⟨rb, hub⟩ := hub
  induction n with
  | zero =>
    intro i s hh k Q hi hx hy h2 h3 h5 h6 hK
    refine g.lpe b97_0.eq_1 ?_
    obtain ⟨e1, v1, hx⟩ := hx
    have c1 : ¬ ((i : Int) < (l.length : Int)) := by omega
    simp only [h2, h3, h5, h6, hx, hwa, ha.len, c1, RX, VOp.fresh, bxC, bsC, un, most, callsOf, seval, Int.reducePow, ↓reduceIte, Nat.reduceEqDiff, reduceCtorEq]
    refine hK _ ?_
    rintro j (rfl | rfl | rfl) <;> simp only [sg_set, Nat.reduceEqDiff, ↓reduceIte]
  | succ n ih =>
    intro i s hh k Q hi hx hy h2 h3 h5 h6 hK
    refine g.lpe b97_0.eq_1 ?_
    have c1 : (i : Int) < (l.length : Int) := by omega
    obtain ⟨r1, _, g1⟩ := getPt ha i (by omega)
    obtain ⟨r2, _, g2⟩ := getPt hb i (by omega)
    have w1 : IntKind.i64.wrap ((i : Int) + 1) = ((i + 1 : Nat) : Int) := by rw [w64 (by omega) (by omega)]; push_cast; rfl
    have hx' := hx
    have hy' := hy
    obtain ⟨e1, v1, hx⟩ := hx
    obtain ⟨e2, v2, hy⟩ := hy
    simp only [h2, h3, h5, h6, hx, hy, hwa, hub, ha.len, c1, g1, g2, w1, flat2, RX, VOp.fresh, bxC, bsC, un, most, callsOf, seval, Int.reducePow, ↓reduceIte, Nat.reduceEqDiff, reduceCtorEq]
    refine ih (i + 1) _ _ k Q (by omega) hx' hy' ?_ ?_ ?_ ?_ ?_
    · simp only [h2, sg_set, Nat.reduceEqDiff, ↓reduceIte]
    · simp only [h3, sg_set, Nat.reduceEqDiff, ↓reduceIte]
    · simp only [h5, sg_set, Nat.reduceEqDiff, ↓reduceIte]
    · simp only [sg_set, Nat.reduceEqDiff, ↓reduceIte]
    · intro s' q
      refine hK s' fun j hj => (q j hj).trans ?_
      rcases hj with rfl | rfl | rfl <;> simp only [sg_set, Nat.reduceEqDiff, ↓reduceIte]
theorem sRings_loop (g : Pg P tab) {l : List (List Pt)} {w u p0 p1 q0 q1 : AV} (ha : IsL 24 RRing w l) (hb : IsL 24 RRing u l) {n2 n3 : Nat} (n : Nat) :
    ∀ (i : Nat) (s : T AV) (hh : Heap) (k : List Fr) (Q : Ex → T AV → Heap → Prop), i + n = l.length → (∃ e ver, hh.get n2 = some (.cells [p0, p1, w] e ver)) → (∃ e ver, hh.get n3 = some (.cells [q0, q1, u] e ver)) → sg s 2 = .ptr n2 0 → sg s 3 = .ptr n3 0 → sg s 5 = .int .i64 i →
      (∀ s', Un P k Q (.exit 0) s' hh) → Lp P b97_1 s hh (Un P k Q) := by
  have hbd := ha.bound (by decide)
  induction n with
  | zero =>
    intro i s hh k Q hi hx hy h2 h3 h5 hK
    refine g.lpe b97_1.eq_1 ?_
    obtain ⟨e1, v1, hx⟩ := hx
    have c1 : ¬ ((i : Int) < (l.length : Int)) := by omega
    simp only [h2, h3, h5, hx, ha.len, c1, RX, VOp.fresh, bxC, bsC, un, most, callsOf, seval, Int.reducePow, ↓reduceIte, Nat.reduceEqDiff, reduceCtorEq]
    exact hK _
  | succ n ih =>
    intro i s hh k Q hi hx hy h2 h3 h5 hK
    refine g.lpe b97_1.eq_1 ?_
    have c1 : (i : Int) < (l.length : Int) := by omega
    obtain ⟨x1, r1, i1, _, g1⟩ := getRing ha i (by omega)
    obtain ⟨x2, r2, i2, _, g2⟩ := getRing hb i (by omega)
    have w1 : IntKind.i64.wrap ((i : Int) + 1) = ((i + 1 : Nat) : Int) := by rw [w64 (by omega) (by omega)]; push_cast; rfl
    have hx' := hx
    have hy' := hy
    obtain ⟨e1, v1, hx⟩ := hx
    obtain ⟨e2, v2, hy⟩ := hy
    simp only [h2, h3, h5, hx, hy, ha.len, c1, g1, g2, i1.len, i2.len, RX, VOp.fresh, bxC, bsC, un, most, callsOf, seval, Int.reducePow, ↓reduceIte, Nat.reduceEqDiff, reduceCtorEq]
    refine sPts_loop g i1 i2 (i0 := i) ⟨r1, fun hh => g1 hh _⟩ ⟨r2, fun hh => g2 hh _⟩ (l.getD i []).length 0 _ _ _ _ (by omega) hx' hy' ?_ ?_ ?_ ?_ ?_
    · simp only [h2, sg_set, Nat.reduceEqDiff, ↓reduceIte]
    · simp only [h3, sg_set, Nat.reduceEqDiff, ↓reduceIte]
    · simp only [h5, sg_set, Nat.reduceEqDiff, ↓reduceIte]
    · simp only [sg_set, Nat.reduceEqDiff, ↓reduceIte]
      rfl
    intro s' q
    have a2 := q 2 (by simp)
    have a3 := q 3 (by simp)
    have a5 := q 5 (by simp)
    simp only [sg_set, Nat.reduceEqDiff, ↓reduceIte, h2, h3, h5] at a2 a3 a5
    simp only [a5, w1, RX, VOp.fresh, bxC, bsC, un, most, callsOf, seval, Int.reducePow, ↓reduceIte, Nat.reduceEqDiff, reduceCtorEq]
    refine ih (i + 1) _ _ k Q (by omega) hx' hy' ?_ ?_ ?_ hK
    · simp only [a2, sg_set, Nat.reduceEqDiff, ↓reduceIte]
    · simp only [a3, sg_set, Nat.reduceEqDiff, ↓reduceIte]
    · simp only [sg_set, Nat.reduceEqDiff, ↓reduceIte]
theorem sFeat_pu (g : Pg P tab) {f : Feat} {c d : List AV} (hc : RFeat f c) (hd : RFeat f d) : Pu P 97 [.agg c, .agg d] (fun v => v = .bool true) := by
  obtain ⟨a, rfl, _, _, ha⟩ := hc
  obtain ⟨b, rfl, _, _, hb⟩ := hd
  refine g.pu (vf := v97) rfl rfl ?_
  simp only [v97, ha.len, hb.len, RX, VOp.fresh, bxC, bsC, un, most, callsOf, seval, Int.reducePow, ↓reduceIte, Nat.reduceEqDiff, reduceCtorEq]
  refine sRings_loop g ha hb (n2 := 0) (n3 := 1) f.rings.length 0 _ _ _ _ (by omega) ⟨52, 0, by rw [Heap.get_mk, if_neg (by decide), Heap.get_mk, if_pos rfl]⟩ ⟨52, 0, by rw [Heap.get_mk, if_pos rfl]⟩ ?_ ?_ ?_ fun s' => ?_
  · simp only [sg_set, Nat.reduceEqDiff, ↓reduceIte]
  · simp only [sg_set, Nat.reduceEqDiff, ↓reduceIte]
  · simp only [sg_set, Nat.reduceEqDiff, ↓reduceIte]
    rfl
  simp only [RX, VOp.fresh, bxC, bsC, un, most, callsOf, seval, Int.reducePow, ↓reduceIte, Nat.reduceEqDiff, reduceCtorEq]
theorem sOps_loop (g : Pg P tab) {l : List Op} {a b : AV} (ha : IsL 112 ROp a l) (hb : IsL 112 ROp b l) (n : Nat) :
    ∀ (i : Nat) (s : T AV) (hh : Heap) (k : List Fr) (Q : Ex → T AV → Heap → Prop), i + n = l.length → sg s 0 = a → sg s 1 = b → sg s 5 = .int .i64 i → (∀ s' h', Un P k Q (.exit 0) s' h') → Lp P b68_0 s hh (Un P k Q) := by
  have hbd := ha.bound (by decide)
  induction n with
  | zero =>
    intro i s hh k Q hi h0 h1 h5 hK
    refine g.lpe b68_0.eq_1 ?_
    have c1 : ¬ ((i : Int) < (l.length : Int)) := by omega
    simp only [h0, h5, ha.len, c1, RX, VOp.fresh, bxC, bsC, un, most, callsOf, seval, Int.reducePow, ↓reduceIte, Nat.reduceEqDiff, reduceCtorEq]
    exact hK _ _
  | succ n ih =>
    intro i s hh k Q hi h0 h1 h5 hK
    refine g.lpe b68_0.eq_1 ?_
    have c1 : (i : Int) < (l.length : Int) := by omega
    obtain ⟨x, r1, ⟨x1, x2, x3, rfl, i1, i2, i3, i4, i5, i6, i7, i8⟩, _, _, g1⟩ := getOp ha i (by omega)
    obtain ⟨y, r2, ⟨y1, y2, y3, rfl, k1, k2, k3, k4, k5, k6, k7, k8⟩, _, _, g2⟩ := getOp hb i (by omega)
    have w1 : IntKind.i64.wrap ((i : Int) + 1) = ((i + 1 : Nat) : Int) := by rw [w64 (by omega) (by omega)]; push_cast; rfl
    simp only [h0, h1, h5, ha.len, c1, g1, g2, Bool.or_self, RX, VOp.fresh, bxC, bsC, un, most, callsOf, seval, Int.reducePow, ↓reduceIte, Nat.reduceEqDiff, reduceCtorEq]
    refine (sFeat_pu g (f := (l.getD i op0).f) ⟨_, rfl, i2, i3, i4⟩ ⟨_, rfl, k2, k3, k4⟩).go (by simp [AV.tolds, AV.told, i4.told tRing, k4.told tRing]) ?_
    rintro v rfl
    simp only [h0, h1, h5, g1, g2, RX, VOp.fresh, bxC, bsC, un, most, callsOf, seval, Int.reducePow, ↓reduceIte, Nat.reduceEqDiff, reduceCtorEq]
    refine (sMap_pu g i7 i8 k7 k8).go (by simp [AV.tolds, AV.told, i7.told tInt, k7.told tInt, i8.told tInt, k8.told tInt]) ?_
    rintro v rfl
    simp only [h0, h1, h5, w1, RX, VOp.fresh, bxC, bsC, un, most, callsOf, seval, Int.reducePow, ↓reduceIte, Nat.reduceEqDiff, reduceCtorEq]
    refine ih (i + 1) _ _ k Q (by omega) ?_ ?_ ?_ hK
    · simp only [h0, sg_set, Nat.reduceEqDiff, ↓reduceIte]
    · simp only [h1, sg_set, Nat.reduceEqDiff, ↓reduceIte]
    · simp only [sg_set, Nat.reduceEqDiff, ↓reduceIte]
theorem sOps_pu (g : Pg P tab) {l : List Op} {a b : AV} (ha : IsL 112 ROp a l) (hb : IsL 112 ROp b l) : Pu P 68 [a, b] (fun v => v = .bool true) := by
  refine g.pu (vf := v68) rfl rfl ?_
  simp only [v68, ha.len, hb.len, RX, VOp.fresh, bxC, bsC, un, most, callsOf, seval, Int.reducePow, ↓reduceIte, Nat.reduceEqDiff, reduceCtorEq]
  refine sOps_loop g ha hb l.length 0 _ _ _ _ (by omega) ?_ ?_ ?_ fun s' h' => ?_
  · simp only [sg_set, Nat.reduceEqDiff, ↓reduceIte]
  · simp only [sg_set, Nat.reduceEqDiff, ↓reduceIte]
  · simp only [sg_set, Nat.reduceEqDiff, ↓reduceIte]
    rfl
  simp only [RX, VOp.fresh, bxC, bsC, un, most, callsOf, seval, Int.reducePow, ↓reduceIte, Nat.reduceEqDiff, reduceCtorEq]
end
end Go.Proofs.Ytinonmcnofjeeaa.VM
namespace Go.Proofs.Ytinonmcnofjeeaa.VM
attribute [local irreducible] Af Nx EvO Ev Un Gd Cd EvR EvQ EvC Nc Gc Lp EvM NxM AfM GdM EvMR EvMQ EvMD EvMC Nm Gm
def At (h : Heap) (b j : Nat) (x : AV) : Prop := ∃ l e ver, h.get b = some (.cells l e ver) ∧ l[j]? = some x
def AtI (h : Heap) (b j : Nat) : Prop := ∃ m, At h b j (.int .i64 m)
def AtE (h : Heap) (b j : Nat) : Prop := ∃ x, At h b j x ∧ x.one = true
def NoI (x : AV) : Prop := ∀ m, x ≠ .int .i64 m
theorem At.ld {h : Heap} {b j : Nat} {x : AV} (a : At h b j x) : ldB false j 1 h (h.get b) = .val x h := by
  obtain ⟨l, e, ver, hg, hx⟩ := a
  obtain ⟨hj, rfl⟩ := List.getElem?_eq_some_iff.1 hx
  rw [hg, ldB_at hj]
theorem At.ld3 {h : Heap} {b j : Nat} {x y z : AV} (a : At h b j x) (a1 : At h b (j + 1) y) (a2 : At h b (j + 2) z) : ldB true j 3 h (h.get b) = .val (.agg [x, y, z]) h := by
  obtain ⟨l, e, ver, hg, hx⟩ := a
  obtain ⟨l1, e1, ver1, hg1, hy⟩ := a1
  obtain ⟨l2, e2, ver2, hg2, hz⟩ := a2
  rw [hg] at hg1 hg2
  cases hg1
  cases hg2
  obtain ⟨i0, rfl⟩ := List.getElem?_eq_some_iff.1 hx
  obtain ⟨i1, rfl⟩ := List.getElem?_eq_some_iff.1 hy
  obtain ⟨i2, rfl⟩ := List.getElem?_eq_some_iff.1 hz
  have e : (l.drop j).take 3 = [l[j], l[j + 1], l[j + 2]] := by
    rw [List.drop_eq_getElem_cons i0, List.drop_eq_getElem_cons i1, List.drop_eq_getElem_cons i2]
    rfl
  rw [hg, ldB_some, part_eq, e]
  rfl
def Sims (l k : List AV) : Prop := k.length = l.length ∧ ∀ j : Nat, k[j]? = l[j]? ∨ ((∃ m, l[j]? = some (AV.int .i64 m)) ∧ ∃ m, k[j]? = some (AV.int .i64 m))
theorem Sims.refl (l : List AV) : Sims l l := ⟨rfl, fun _ => .inl rfl⟩
theorem Sims.trans {a b c : List AV} (x : Sims a b) (y : Sims b c) : Sims a c := ⟨y.1.trans x.1, fun j => by
  rcases x.2 j with p | ⟨⟨m, p⟩, m', p'⟩
  · rcases y.2 j with q | ⟨q, q'⟩
    · exact .inl (q.trans p)
    · exact .inr ⟨by rw [← p]; exact q, q'⟩
  · rcases y.2 j with q | ⟨q, q'⟩
    · exact .inr ⟨⟨m, p⟩, m', q.trans p'⟩
    · exact .inr ⟨⟨m, p⟩, q'⟩⟩
theorem Sims.set {l : List AV} {j : Nat} {m n : Int} (h : l[j]? = some (.int .i64 m)) : Sims l (l.set j (.int .i64 n)) := ⟨List.length_set, fun i => by
  by_cases e : i = j
  · subst e
    obtain ⟨hi, _⟩ := List.getElem?_eq_some_iff.1 h
    exact .inr ⟨⟨m, h⟩, n, by rw [List.getElem?_set_self hi]⟩
  · exact .inl (List.getElem?_set_ne (fun c => e c.symm))⟩
/-- the blocks of B have numbers written over, the others stand -/
def Sim (B : Nat → Prop) (h h' : Heap) : Prop := h.next ≤ h'.next ∧ ∀ b, b < h.next → (¬ B b → h'.get b = h.get b) ∧ ∀ l e ver, h.get b = some (.cells l e ver) → ∃ l' ver', h'.get b = some (.cells l' e ver') ∧ Sims l l'
section
variable {B : Nat → Prop} {h h' h'' : Heap}
theorem Sim.refl : Sim B h h := ⟨Nat.le_refl _, fun b _ => ⟨fun _ => rfl, fun l e ver hg => ⟨l, ver, hg, Sims.refl l⟩⟩⟩
theorem Sim.trans (x : Sim B h h') (y : Sim B h' h'') : Sim B h h'' := ⟨Nat.le_trans x.1 y.1, fun b hb => by
  obtain ⟨a1, a2⟩ := x.2 b hb
  obtain ⟨c1, c2⟩ := y.2 b (Nat.lt_of_lt_of_le hb x.1)
  refine ⟨fun n => (c1 n).trans (a1 n), fun l e ver hg => ?_⟩
  obtain ⟨l', ver', g', s'⟩ := a2 l e ver hg
  obtain ⟨l'', ver'', g'', s''⟩ := c2 l' e ver' g'
  exact ⟨l'', ver'', g'', s'.trans s''⟩⟩
theorem Sim.ext (x : Ext h h') : Sim B h h' := ⟨x.1, fun b hb => ⟨fun _ => x.2 b hb, fun l e ver hg => ⟨l, ver, (x.2 b hb).trans hg, Sims.refl l⟩⟩⟩
theorem Sim.cut {B' : Nat → Prop} (x : Sim B' h h') (k : ∀ b, B' b → b < h.next → B b) : Sim B h h' := ⟨x.1, fun b hb => ⟨fun n => (x.2 b hb).1 fun c => n (k b c hb), (x.2 b hb).2⟩⟩
theorem At.sim {b j : Nat} {x : AV} (a : At h b j x) (hb : b < h.next) (hx : NoI x) (s : Sim B h h') : At h' b j x := by
  obtain ⟨l, e, ver, hg, h1⟩ := a
  obtain ⟨l', ver', g', _, s'⟩ := (s.2 b hb).2 l e ver hg
  rcases s' j with c | ⟨⟨m, c⟩, _⟩
  · exact ⟨l', e, ver', g', c.trans h1⟩
  · rw [h1] at c; cases c; exact absurd rfl (hx m)
theorem AtI.sim {b j : Nat} (a : AtI h b j) (hb : b < h.next) (s : Sim B h h') : AtI h' b j := by
  obtain ⟨m, l, e, ver, hg, h1⟩ := a
  obtain ⟨l', ver', g', _, s'⟩ := (s.2 b hb).2 l e ver hg
  rcases s' j with c | ⟨_, m', c⟩
  · exact ⟨m, l', e, ver', g', c.trans h1⟩
  · exact ⟨m', l', e, ver', g', c⟩
theorem AtE.sim {b j : Nat} (a : AtE h b j) (hb : b < h.next) (s : Sim B h h') : AtE h' b j := by
  obtain ⟨x, ⟨l, e, ver, hg, h1⟩, ho⟩ := a
  obtain ⟨l', ver', g', hl, s'⟩ := (s.2 b hb).2 l e ver hg
  rcases s' j with c | ⟨_, m', c⟩
  · exact ⟨x, ⟨l', e, ver', g', c.trans h1⟩, ho⟩
  · exact ⟨_, ⟨l', e, ver', g', c⟩, rfl⟩
/-- a number is written over -/
theorem AtI.st {b j : Nat} (a : AtI h b j) (hB : B b) (n : Int) : ∃ h', writeAt h b j [.int .i64 n] = some h' ∧ Sim B h h' := by
  obtain ⟨m, l, e, ver, hg, h1⟩ := a
  obtain ⟨hj, _⟩ := List.getElem?_eq_some_iff.1 h1
  refine ⟨h.put b (.cells (l.set j (.int .i64 n)) e (ver + 1)), ?_, by rw [put_next]; exact Nat.le_refl _, fun c hc => ⟨fun hn => by rw [Heap.get_put, if_neg (show ¬ c = b from fun ec => hn (ec ▸ hB))], fun l2 e2 v2 hg2 => ?_⟩⟩
  · unfold writeAt
    rw [hg]
    have : Nat.ble (j + 1) l.length = true := by rw [Nat.ble_eq]; exact hj
    simp only [List.length_cons, List.length_nil, Nat.zero_add, this, List.all_cons, one_int, List.all_nil, Bool.and_self, cond_true, lsets_one hj]
  · by_cases hc' : c = b
    · subst hc'
      rw [hg] at hg2
      cases hg2
      exact ⟨_, _, by rw [Heap.get_put, if_pos rfl], Sims.set h1⟩
    · exact ⟨l2, v2, by rw [Heap.get_put, if_neg hc']; exact hg2, Sims.refl _⟩
end
def most3 : Nat := 1000000
def LInts (h : Heap) (B : Nat → Prop) (v : AV) : Prop := v = .nils ∨ ∃ b off n cap, v = .sl b off n cap 1 ∧ n ≤ most3 ∧ B b ∧ b < h.next ∧ ∀ i, i < n → AtI h b (off + i)
def LPts (h : Heap) (B : Nat → Prop) (v : AV) : Prop := v = .nils ∨ ∃ b off n cap, v = .sl b off n cap 2 ∧ n ≤ most3 ∧ B b ∧ b < h.next ∧ ∀ i, i < n → AtI h b (off + i * 2)
def LRings (h : Heap) (B : Nat → Prop) (v : AV) : Prop := v = .nils ∨ ∃ b off n cap, v = .sl b off n cap 1 ∧ n ≤ most3 ∧ B b ∧ b < h.next ∧ ∀ i, i < n → ∃ x, At h b (off + i) x ∧ LPts h B x
def LFeats (h : Heap) (B : Nat → Prop) (v : AV) : Prop := v = .nils ∨ ∃ b off n cap, v = .sl b off n cap 3 ∧ n ≤ most3 ∧ B b ∧ b < h.next ∧ ∀ i, i < n → AtI h b (off + i * 3) ∧ ∃ x, At h b (off + i * 3 + 2) x ∧ LRings h B x
def LOps (h : Heap) (B : Nat → Prop) (v : AV) : Prop := v = .nils ∨ ∃ b off n cap, v = .sl b off n cap 8 ∧ n ≤ most3 ∧ B b ∧ b < h.next ∧ ∀ i, i < n → AtI h b (off + i * 8 + 1) ∧ AtE h b (off + i * 8 + 2) ∧ (∃ x, At h b (off + i * 8 + 3) x ∧ LRings h B x) ∧
  AtI h b (off + i * 8 + 4) ∧ AtE h b (off + i * 8 + 5) ∧ (∃ x, At h b (off + i * 8 + 6) x ∧ LInts h B x) ∧ ∃ x, At h b (off + i * 8 + 7) x ∧ LInts h B x
section
variable {B B' : Nat → Prop} {h h' : Heap}
theorem LInts.noI {v : AV} (l : LInts h B v) : NoI v := by rintro m rfl; rcases l with e | ⟨_, _, _, _, e, _⟩ <;> cases e
theorem LPts.noI {v : AV} (l : LPts h B v) : NoI v := by rintro m rfl; rcases l with e | ⟨_, _, _, _, e, _⟩ <;> cases e
theorem LRings.noI {v : AV} (l : LRings h B v) : NoI v := by rintro m rfl; rcases l with e | ⟨_, _, _, _, e, _⟩ <;> cases e
theorem LInts.one {v : AV} (l : LInts h B v) : v.one = true := by rcases l with rfl | ⟨_, _, _, _, rfl, _⟩ <;> rfl
theorem LRings.one {v : AV} (l : LRings h B v) : v.one = true := by rcases l with rfl | ⟨_, _, _, _, rfl, _⟩ <;> rfl
theorem LInts.sim {v : AV} (l : LInts h B v) (s : Sim B' h h') : LInts h' B v := by
  rcases l with rfl | ⟨b, off, n, cap, rfl, a1, a2, a3, a4⟩
  · exact .inl rfl
  · exact .inr ⟨b, off, n, cap, rfl, a1, a2, Nat.lt_of_lt_of_le a3 s.1, fun i hi => (a4 i hi).sim a3 s⟩
theorem LPts.sim {v : AV} (l : LPts h B v) (s : Sim B' h h') : LPts h' B v := by
  rcases l with rfl | ⟨b, off, n, cap, rfl, a1, a2, a3, a4⟩
  · exact .inl rfl
  · exact .inr ⟨b, off, n, cap, rfl, a1, a2, Nat.lt_of_lt_of_le a3 s.1, fun i hi => (a4 i hi).sim a3 s⟩
theorem LRings.sim {v : AV} (l : LRings h B v) (s : Sim B' h h') : LRings h' B v := by
  rcases l with rfl | ⟨b, off, n, cap, rfl, a1, a2, a3, a4⟩
  · exact .inl rfl
  · refine .inr ⟨b, off, n, cap, rfl, a1, a2, Nat.lt_of_lt_of_le a3 s.1, fun i hi => ?_⟩
    obtain ⟨x, c1, c2⟩ := a4 i hi
    exact ⟨x, c1.sim a3 c2.noI s, c2.sim s⟩
theorem LFeats.sim {v : AV} (l : LFeats h B v) (s : Sim B' h h') : LFeats h' B v := by
  rcases l with rfl | ⟨b, off, n, cap, rfl, a1, a2, a3, a4⟩
  · exact .inl rfl
  · refine .inr ⟨b, off, n, cap, rfl, a1, a2, Nat.lt_of_lt_of_le a3 s.1, fun i hi => ?_⟩
    obtain ⟨c0, x, c1, c2⟩ := a4 i hi
    exact ⟨c0.sim a3 s, x, c1.sim a3 c2.noI s, c2.sim s⟩
theorem LPts.weak {v : AV} (l : LPts h B v) (k : ∀ b, B b → B' b) : LPts h B' v := by
  rcases l with rfl | ⟨b, off, n, cap, rfl, a1, a2, a3, a4⟩
  · exact .inl rfl
  · exact .inr ⟨b, off, n, cap, rfl, a1, k _ a2, a3, a4⟩
theorem LRings.weak {v : AV} (l : LRings h B v) (k : ∀ b, B b → B' b) : LRings h B' v := by
  rcases l with rfl | ⟨b, off, n, cap, rfl, a1, a2, a3, a4⟩
  · exact .inl rfl
  · refine .inr ⟨b, off, n, cap, rfl, a1, k _ a2, a3, fun i hi => ?_⟩
    obtain ⟨x, c1, c2⟩ := a4 i hi
    exact ⟨x, c1, c2.weak k⟩
end
section
variable {P : Program}
theorem spInts_loop (g : Pg P tab) {B : Nat → Prop} {h0 : Heap} {b off N cap : Nat} (hN : N ≤ most3) (hB : B b) (hb : b < h0.next) (ha : ∀ i, i < N → AtI h0 b (off + i)) (n : Nat) :
    ∀ (i : Nat) (s : T AV) (h : Heap) (k : List Fr) (Q : Ex → T AV → Heap → Prop), i + n = N → Sim B h0 h → sg s 0 = .sl b off N cap 1 → sg s 2 = .int .i64 i → (∀ s' h', Sim B h0 h' → Un P k Q (.exit 0) s' h') → Lp P b70_0 s h (Un P k Q) := by
  unfold most3 at hN
  induction n with
  | zero =>
    intro i s h k Q hi hs h1 h2 hK
    refine g.lpe b70_0.eq_1 ?_
    have c1 : ¬ ((i : Int) < (N : Int)) := by omega
    simp only [h1, h2, c1, RX, VOp.fresh, bxC, bsC, un, most, callsOf, seval, Int.reducePow, ↓reduceIte, Nat.reduceEqDiff, reduceCtorEq]
    exact hK _ _ hs
  | succ n ih =>
    intro i s h k Q hi hs h1 h2 hK
    refine g.lpe b70_0.eq_1 ?_
    have c1 : ((i : Int) < (N : Int)) := by omega
    have c2 : 0 ≤ (i : Int) ∧ (i : Int) < (N : Int) ∧ 1 = 1 := ⟨by omega, by omega, rfl⟩
    have w1 : IntKind.i64.wrap ((i : Int) + 1) = ((i + 1 : Nat) : Int) := by rw [w64 (by omega) (by omega)]; push_cast; rfl
    have a := (ha i (by omega)).sim hb hs
    have a' := a
    obtain ⟨m, am⟩ := a'
    have ld := am.ld
    obtain ⟨h', hw, hs'⟩ := a.st hB (IntKind.i64.wrap (-9 - m))
    simp only [h1, h2, c1, c2, ld, hw, w1, Int.toNat_natCast, Nat.mul_one, RX, VOp.fresh, bxC, bsC, un, most, callsOf, seval, Int.reducePow, ↓reduceIte, Nat.reduceEqDiff, reduceCtorEq]
    refine ih (i + 1) _ h' k Q (by omega) (hs.trans hs') ?_ ?_ hK
    · simp only [h1, sg_set, Nat.reduceEqDiff, ↓reduceIte]
    · simp only [sg_set, Nat.reduceEqDiff, ↓reduceIte]
theorem spInts_cl (g : Pg P tab) {B : Nat → Prop} {h : Heap} {v : AV} (l : LInts h B v) {Q : AV → Heap → Prop} (q : ∀ v h', Sim B h h' → Q v h') : Cl P 70 [v] h Q := by
  refine g.cl (vf := v70) rfl rfl ?_
  rcases l with rfl | ⟨b, off, n, cap, rfl, a1, a2, a3, a4⟩
  · simp only [v70, RX, VOp.fresh, bxC, bsC, un, most, callsOf, seval, Int.reducePow, ↓reduceIte, Nat.reduceEqDiff, reduceCtorEq]
    refine g.lpe b70_0.eq_1 ?_
    simp only [RX, VOp.fresh, bxC, bsC, un, most, callsOf, seval, Int.reducePow, ↓reduceIte, Nat.reduceEqDiff, reduceCtorEq]
    exact q _ _ Sim.refl
  · simp only [v70, RX, VOp.fresh, bxC, bsC, un, most, callsOf, seval, Int.reducePow, ↓reduceIte, Nat.reduceEqDiff, reduceCtorEq]
    refine spInts_loop g (cap := cap) a1 a2 a3 a4 n 0 _ _ _ _ (by omega) Sim.refl ?_ ?_ fun s' h' hs => ?_
    · simp only [sg_set, Nat.reduceEqDiff, ↓reduceIte]
    · simp only [sg_set, Nat.reduceEqDiff, ↓reduceIte]
      rfl
    simp only [RX, VOp.fresh, bxC, bsC, un, most, callsOf, seval, Int.reducePow, ↓reduceIte, Nat.reduceEqDiff, reduceCtorEq]
    exact q _ _ hs
theorem spMap_cl (g : Pg P tab) {B : Nat → Prop} {h : Heap} {e u v : AV} (lu : LInts h B u) (lv : LInts h B v) (ho : e.one = true ∧ u.one = true ∧ v.one = true) {Q : AV → Heap → Prop} (q : ∀ v h', Sim B h h' → Q v h') : Cl P 22 [.agg [e, u, v]] h Q := by
  refine g.cl (vf := v22) rfl rfl ?_
  obtain ⟨o1, o2, o3⟩ := ho
  have x0 := Ext.mk (h := h) (.cells [e, u, v] 26 0)
  have a1 : At (h.mk' h.next (.cells [e, u, v] 26 0)) h.next 1 u := ⟨_, _, _, by rw [Heap.get_mk, if_pos rfl], rfl⟩
  have a2 : At (h.mk' h.next (.cells [e, u, v] 26 0)) h.next 2 v := ⟨_, _, _, by rw [Heap.get_mk, if_pos rfl], rfl⟩
  have n0 : (h.mk' h.next (.cells [e, u, v] 26 0)).next = h.next + 1 := by rw [mk_next]; omega
  simp only [v22, RW, o1, o2, o3, RX, VOp.fresh, bxC, bsC, un, most, callsOf, seval, Int.reducePow, ↓reduceIte, Nat.reduceEqDiff, reduceCtorEq]
  refine spInts_cl g (lu.sim (B' := B) (Sim.ext x0)) fun _ h1 s1 => ?_
  have l1 := (a2.sim (by omega) lv.noI s1).ld
  simp only [l1, RX, VOp.fresh, bxC, bsC, un, most, callsOf, seval, Int.reducePow, ↓reduceIte, Nat.reduceEqDiff, reduceCtorEq]
  refine spInts_cl g ((lv.sim (B' := B) (Sim.ext x0)).sim s1) fun _ h2 s2 => ?_
  simp only [RX, VOp.fresh, bxC, bsC, un, most, callsOf, seval, Int.reducePow, ↓reduceIte, Nat.reduceEqDiff, reduceCtorEq]
  exact q _ _ (((Sim.ext x0).trans s1).trans s2)
end
end Go.Proofs.Ytinonmcnofjeeaa.VM
namespace Go.Proofs.Ytinonmcnofjeeaa.VM
attribute [local irreducible] Af Nx EvO Ev Un Gd Cd EvR EvQ EvC Nc Gc Lp EvM NxM AfM GdM EvMR EvMQ EvMD EvMC Nm Gm
section
variable {P : Program}
/-- the points of one ring -/
theorem spPts_loop (g : Pg P tab) {B : Nat → Prop} {h0 : Heap} {b off N cap b1 off1 N1 cap1 i0 b2 off2 N2 cap2 j0 : Nat} (hb : b < h0.next) (hi0 : i0 < N) (hN : N ≤ most3) (a0 : At h0 b (off + i0 * 3 + 2) (.sl b1 off1 N1 cap1 1))
    (hb1 : b1 < h0.next) (hj0 : j0 < N1) (a1 : At h0 b1 (off1 + j0) (.sl b2 off2 N2 cap2 2)) (hN2 : N2 ≤ most3) (hB : B b2) (hb2 : b2 < h0.next) (ha : ∀ i, i < N2 → AtI h0 b2 (off2 + i * 2)) (n : Nat) :
    ∀ (i : Nat) (s : T AV) (h : Heap) (k : List Fr) (Q : Ex → T AV → Heap → Prop), i + n = N2 → Sim B h0 h → sg s 0 = .sl b off N cap 3 → sg s 2 = .int .i64 i0 → sg s 3 = .int .i64 j0 → sg s 4 = .int .i64 i →
      (∀ s' h', Sim B h0 h' → (∀ j, j = 0 ∨ j = 2 ∨ j = 3 → sg s' j = sg s j) → Un P k Q (.exit 4) s' h') → Lp P b69_0 s h (Un P k Q) := by
  unfold most3 at hN2
  have d0 : 0 ≤ (i0 : Int) ∧ (i0 : Int) < (N : Int) ∧ 3 = 3 := ⟨by omega, by omega, rfl⟩
  have d1 : 0 ≤ (j0 : Int) ∧ (j0 : Int) < (N1 : Int) ∧ 1 = 1 := ⟨by omega, by omega, rfl⟩
  have no1 : NoI (.sl b1 off1 N1 cap1 1) := fun m e => by cases e
  have no2 : NoI (.sl b2 off2 N2 cap2 2) := fun m e => by cases e
  induction n with
  | zero =>
    intro i s h k Q hi hs h1 h2 h3 h4 hK
    refine g.lpe b69_0.eq_1 ?_
    have c1 : ¬ ((i : Int) < (N2 : Int)) := by omega
    have l0 := (a0.sim hb no1 hs).ld
    have l1 := (a1.sim hb1 no2 hs).ld
    simp only [h1, h2, h3, h4, d0, d1, c1, l0, l1, Int.toNat_natCast, Nat.mul_one, RX, VOp.fresh, bxC, bsC, un, most, callsOf, seval, Int.reducePow, ↓reduceIte, Nat.reduceEqDiff, reduceCtorEq]
    refine hK _ _ hs ?_
    rintro j (rfl | rfl | rfl) <;> simp only [sg_set, Nat.reduceEqDiff, ↓reduceIte]
  | succ n ih =>
    intro i s h k Q hi hs h1 h2 h3 h4 hK
    refine g.lpe b69_0.eq_1 ?_
    have c1 : ((i : Int) < (N2 : Int)) := by omega
    have d2 : 0 ≤ (i : Int) ∧ (i : Int) < (N2 : Int) ∧ 2 = 2 := ⟨by omega, by omega, rfl⟩
    have w1 : IntKind.i64.wrap ((i : Int) + 1) = ((i + 1 : Nat) : Int) := by rw [w64 (by omega) (by omega)]; push_cast; rfl
    have l0 := (a0.sim hb no1 hs).ld
    have l1 := (a1.sim hb1 no2 hs).ld
    have a := (ha i (by omega)).sim hb2 hs
    have a' := a
    obtain ⟨m, am⟩ := a'
    have ld := am.ld
    obtain ⟨h', hw, hs'⟩ := a.st hB (bitsOf .xor .i64 m 90)
    simp only [h1, h2, h3, h4, d0, d1, d2, c1, l0, l1, ld, hw, w1, Int.toNat_natCast, Nat.mul_one, Nat.add_zero, RX, VOp.fresh, bxC, bsC, un, most, callsOf, seval, Int.reducePow, ↓reduceIte, Nat.reduceEqDiff, reduceCtorEq]
    refine ih (i + 1) _ h' k Q (by omega) (hs.trans hs') ?_ ?_ ?_ ?_ ?_
    · simp only [h1, sg_set, Nat.reduceEqDiff, ↓reduceIte]
    · simp only [h2, sg_set, Nat.reduceEqDiff, ↓reduceIte]
    · simp only [h3, sg_set, Nat.reduceEqDiff, ↓reduceIte]
    · simp only [sg_set, Nat.reduceEqDiff, ↓reduceIte]
    · intro s' h'' q1 q2
      refine hK s' h'' q1 fun j hj => (q2 j hj).trans ?_
      rcases hj with rfl | rfl | rfl <;> simp only [sg_set, Nat.reduceEqDiff, ↓reduceIte]
/-- the rings of one feature -/
theorem spRings_loop (g : Pg P tab) {B : Nat → Prop} {h0 : Heap} {b off N cap b1 off1 N1 cap1 i0 : Nat} (hb : b < h0.next) (hi0 : i0 < N) (hN : N ≤ most3) (a0 : At h0 b (off + i0 * 3 + 2) (.sl b1 off1 N1 cap1 1))
    (hb1 : b1 < h0.next) (hN1 : N1 ≤ most3) (ha : ∀ i, i < N1 → ∃ x, At h0 b1 (off1 + i) x ∧ LPts h0 B x) (n : Nat) :
    ∀ (i : Nat) (s : T AV) (h : Heap) (k : List Fr) (Q : Ex → T AV → Heap → Prop), i + n = N1 → Sim B h0 h → sg s 0 = .sl b off N cap 3 → sg s 2 = .int .i64 i0 → sg s 3 = .int .i64 i →
      (∀ s' h', Sim B h0 h' → (∀ j, j = 0 ∨ j = 2 → sg s' j = sg s j) → Un P k Q (.exit 2) s' h') → Lp P b69_1 s h (Un P k Q) := by
  have d0 : 0 ≤ (i0 : Int) ∧ (i0 : Int) < (N : Int) ∧ 3 = 3 := ⟨by omega, by omega, rfl⟩
  have no1 : NoI (.sl b1 off1 N1 cap1 1) := fun m e => by cases e
  unfold most3 at hN1
  induction n with
  | zero =>
    intro i s h k Q hi hs h1 h2 h3 hK
    refine g.lpe b69_1.eq_1 ?_
    have c1 : ¬ ((i : Int) < (N1 : Int)) := by omega
    have l0 := (a0.sim hb no1 hs).ld
    simp only [h1, h2, h3, d0, c1, l0, Int.toNat_natCast, Nat.mul_one, RX, VOp.fresh, bxC, bsC, un, most, callsOf, seval, Int.reducePow, ↓reduceIte, Nat.reduceEqDiff, reduceCtorEq]
    refine hK _ _ hs ?_
    rintro j (rfl | rfl) <;> simp only [sg_set, Nat.reduceEqDiff, ↓reduceIte]
  | succ n ih =>
    intro i s h k Q hi hs h1 h2 h3 hK
    refine g.lpe b69_1.eq_1 ?_
    have c1 : ((i : Int) < (N1 : Int)) := by omega
    have d1 : 0 ≤ (i : Int) ∧ (i : Int) < (N1 : Int) ∧ 1 = 1 := ⟨by omega, by omega, rfl⟩
    have w1 : IntKind.i64.wrap ((i : Int) + 1) = ((i + 1 : Nat) : Int) := by rw [w64 (by omega) (by omega)]; push_cast; rfl
    have l0 := (a0.sim hb no1 hs).ld
    obtain ⟨x, ax, lx⟩ := ha i (by omega)
    have step : ∀ s' h', Sim B h0 h' → sg s' 0 = .sl b off N cap 3 → sg s' 2 = .int .i64 i0 → sg s' 3 = .int .i64 (i + 1 : Nat) → Lp P b69_1 s' h' (Un P k Q) := fun s' h' e0 e1 e2 e3 =>
      ih (i + 1) _ _ k Q (by omega) e0 e1 e2 e3 fun s'' h'' q1 q2 => hK s'' h'' q1 fun j hj => (q2 j hj).trans (by rcases hj with rfl | rfl; exact e1.trans h1.symm; exact e2.trans h2.symm)
    simp only [h1, h2, h3, d0, c1, l0, Int.toNat_natCast, Nat.mul_one, RX, VOp.fresh, bxC, bsC, un, most, callsOf, seval, Int.reducePow, ↓reduceIte, Nat.reduceEqDiff, reduceCtorEq]
    rcases lx with rfl | ⟨b2, off2, N2, cap2, rfl, p1, p2, p3, p4⟩
    · refine g.lpe b69_0.eq_1 ?_
      have l1 := (ax.sim hb1 (fun m e => by cases e) hs).ld
      simp only [h1, h2, h3, d0, d1, c1, l0, l1, w1, Int.toNat_natCast, Nat.mul_one, RX, VOp.fresh, bxC, bsC, un, most, callsOf, seval, Int.reducePow, ↓reduceIte, Nat.reduceEqDiff, reduceCtorEq]
      refine step _ _ hs ?_ ?_ ?_
      · simp only [h1, sg_set, Nat.reduceEqDiff, ↓reduceIte]
      · simp only [h2, sg_set, Nat.reduceEqDiff, ↓reduceIte]
      · simp only [sg_set, Nat.reduceEqDiff, ↓reduceIte]
    · refine spPts_loop g (cap := cap) hb hi0 hN a0 hb1 (by omega) ax p1 p2 p3 p4 N2 0 _ _ _ _ (by omega) hs ?_ ?_ ?_ ?_ ?_
      · simp only [h1, sg_set, Nat.reduceEqDiff, ↓reduceIte]
      · simp only [h2, sg_set, Nat.reduceEqDiff, ↓reduceIte]
      · simp only [h3, sg_set, Nat.reduceEqDiff, ↓reduceIte]
      · simp only [sg_set, Nat.reduceEqDiff, ↓reduceIte]
        rfl
      intro s' h' hs' q
      have q0 := q 0 (by simp)
      have q2 := q 2 (by simp)
      have q3 := q 3 (by simp)
      simp only [sg_set, Nat.reduceEqDiff, ↓reduceIte, h1, h2, h3] at q0 q2 q3
      simp only [q3, w1, RX, VOp.fresh, bxC, bsC, un, most, callsOf, seval, Int.reducePow, ↓reduceIte, Nat.reduceEqDiff, reduceCtorEq]
      refine step _ _ hs' ?_ ?_ ?_
      · simp only [q0, sg_set, Nat.reduceEqDiff, ↓reduceIte]
      · simp only [q2, sg_set, Nat.reduceEqDiff, ↓reduceIte]
      · simp only [sg_set, Nat.reduceEqDiff, ↓reduceIte]
theorem spFeats_loop (g : Pg P tab) {B : Nat → Prop} {h0 : Heap} {b off N cap : Nat} (hb : b < h0.next) (hB : B b) (hN : N ≤ most3) (ha : ∀ i, i < N → AtI h0 b (off + i * 3) ∧ ∃ x, At h0 b (off + i * 3 + 2) x ∧ LRings h0 B x) (n : Nat) :
    ∀ (i : Nat) (s : T AV) (h : Heap) (k : List Fr) (Q : Ex → T AV → Heap → Prop), i + n = N → Sim B h0 h → sg s 0 = .sl b off N cap 3 → sg s 2 = .int .i64 i →
      (∀ s' h', Sim B h0 h' → Un P k Q (.exit 0) s' h') → Lp P b69_2 s h (Un P k Q) := by
  have hN' := hN
  unfold most3 at hN'
  induction n with
  | zero =>
    intro i s h k Q hi hs h1 h2 hK
    refine g.lpe b69_2.eq_1 ?_
    have c1 : ¬ ((i : Int) < (N : Int)) := by omega
    simp only [h1, h2, c1, RX, VOp.fresh, bxC, bsC, un, most, callsOf, seval, Int.reducePow, ↓reduceIte, Nat.reduceEqDiff, reduceCtorEq]
    exact hK _ _ hs
  | succ n ih =>
    intro i s h k Q hi hs h1 h2 hK
    refine g.lpe b69_2.eq_1 ?_
    have c1 : ((i : Int) < (N : Int)) := by omega
    have d0 : 0 ≤ (i : Int) ∧ (i : Int) < (N : Int) ∧ 3 = 3 := ⟨by omega, by omega, rfl⟩
    have w1 : IntKind.i64.wrap ((i : Int) + 1) = ((i + 1 : Nat) : Int) := by rw [w64 (by omega) (by omega)]; push_cast; rfl
    obtain ⟨ai, x, ax, lx⟩ := ha i (by omega)
    simp only [h1, h2, c1, RX, VOp.fresh, bxC, bsC, un, most, callsOf, seval, Int.reducePow, ↓reduceIte, Nat.reduceEqDiff, reduceCtorEq]
    have l0 := (ax.sim hb lx.noI hs).ld
    rcases lx with rfl | ⟨b1, off1, N1, cap1, rfl, p1, p2, p3, p4⟩
    · refine g.lpe b69_1.eq_1 ?_
      obtain ⟨m, am⟩ := ai.sim hb hs
      have ld := am.ld
      obtain ⟨h', hw, hs'⟩ := (ai.sim hb hs).st hB (bitsOf .xor .i64 m 90)
      simp only [h1, h2, d0, l0, ld, hw, w1, Int.toNat_natCast, Nat.add_zero, RX, VOp.fresh, bxC, bsC, un, most, callsOf, seval, Int.reducePow, ↓reduceIte, Nat.reduceEqDiff, reduceCtorEq]
      refine ih (i + 1) _ h' k Q (by omega) (hs.trans hs') ?_ ?_ hK
      · simp only [h1, sg_set, Nat.reduceEqDiff, ↓reduceIte]
      · simp only [sg_set, Nat.reduceEqDiff, ↓reduceIte]
    · refine spRings_loop g (cap := cap) hb (by omega) hN ax p3 p1 p4 N1 0 _ _ _ _ (by omega) hs ?_ ?_ ?_ ?_
      · simp only [h1, sg_set, Nat.reduceEqDiff, ↓reduceIte]
      · simp only [h2, sg_set, Nat.reduceEqDiff, ↓reduceIte]
      · simp only [sg_set, Nat.reduceEqDiff, ↓reduceIte]
        rfl
      intro s' h2' hs2 q
      have q0 := q 0 (by simp)
      have q2 := q 2 (by simp)
      simp only [sg_set, Nat.reduceEqDiff, ↓reduceIte, h1, h2] at q0 q2
      obtain ⟨m, am⟩ := ai.sim hb hs2
      have ld := am.ld
      obtain ⟨h', hw, hs'⟩ := (ai.sim hb hs2).st hB (bitsOf .xor .i64 m 90)
      simp only [q0, q2, d0, ld, hw, w1, Int.toNat_natCast, Nat.add_zero, RX, VOp.fresh, bxC, bsC, un, most, callsOf, seval, Int.reducePow, ↓reduceIte, Nat.reduceEqDiff, reduceCtorEq]
      refine ih (i + 1) _ h' k Q (by omega) (hs2.trans hs') ?_ ?_ hK
      · simp only [q0, sg_set, Nat.reduceEqDiff, ↓reduceIte]
      · simp only [sg_set, Nat.reduceEqDiff, ↓reduceIte]
theorem spFeats_cl (g : Pg P tab) {B : Nat → Prop} {h : Heap} {v : AV} (l : LFeats h B v) {Q : AV → Heap → Prop} (q : ∀ v h', Sim B h h' → Q v h') : Cl P 69 [v] h Q := by
  refine g.cl (vf := v69) rfl rfl ?_
  rcases l with rfl | ⟨b, off, n, cap, rfl, a1, a2, a3, a4⟩
  · simp only [v69, RX, VOp.fresh, bxC, bsC, un, most, callsOf, seval, Int.reducePow, ↓reduceIte, Nat.reduceEqDiff, reduceCtorEq]
    refine g.lpe b69_2.eq_1 ?_
    simp only [RX, VOp.fresh, bxC, bsC, un, most, callsOf, seval, Int.reducePow, ↓reduceIte, Nat.reduceEqDiff, reduceCtorEq]
    exact q _ _ Sim.refl
  · simp only [v69, RX, VOp.fresh, bxC, bsC, un, most, callsOf, seval, Int.reducePow, ↓reduceIte, Nat.reduceEqDiff, reduceCtorEq]
    refine spFeats_loop g (cap := cap) a3 a2 a1 a4 n 0 _ _ _ _ (by omega) Sim.refl ?_ ?_ fun s' h' hs => ?_
    · simp only [sg_set, Nat.reduceEqDiff, ↓reduceIte]
    · simp only [sg_set, Nat.reduceEqDiff, ↓reduceIte]
      rfl
    simp only [RX, VOp.fresh, bxC, bsC, un, most, callsOf, seval, Int.reducePow, ↓reduceIte, Nat.reduceEqDiff, reduceCtorEq]
    exact q _ _ hs
theorem spOps_loop (g : Pg P tab) {B : Nat → Prop} {h0 : Heap} {b off N cap : Nat} (hb : b < h0.next) (hB : B b) (hN : N ≤ most3)
    (ha : ∀ i, i < N → AtI h0 b (off + i * 8 + 1) ∧ AtE h0 b (off + i * 8 + 2) ∧ (∃ x, At h0 b (off + i * 8 + 3) x ∧ LRings h0 B x) ∧ AtI h0 b (off + i * 8 + 4) ∧ AtE h0 b (off + i * 8 + 5) ∧ (∃ x, At h0 b (off + i * 8 + 6) x ∧ LInts h0 B x) ∧ ∃ x, At h0 b (off + i * 8 + 7) x ∧ LInts h0 B x) (n : Nat) :
    ∀ (i : Nat) (s : T AV) (h : Heap) (k : List Fr) (Q : Ex → T AV → Heap → Prop), i + n = N → Sim B h0 h → sg s 0 = .sl b off N cap 8 → sg s 2 = .int .i64 i →
      (∀ s' h', Sim B h0 h' → Un P k Q (.exit 0) s' h') → Lp P b21_0 s h (Un P k Q) := by
  have hN' := hN
  unfold most3 at hN'
  induction n with
  | zero =>
    intro i s h k Q hi hs h1 h2 hK
    refine g.lpe b21_0.eq_1 ?_
    have c1 : ¬ ((i : Int) < (N : Int)) := by omega
    simp only [h1, h2, c1, RX, VOp.fresh, bxC, bsC, un, most, callsOf, seval, Int.reducePow, ↓reduceIte, Nat.reduceEqDiff, reduceCtorEq]
    exact hK _ _ hs
  | succ n ih =>
    intro i s h k Q hi hs h1 h2 hK
    refine g.lpe b21_0.eq_1 ?_
    have c1 : ((i : Int) < (N : Int)) := by omega
    have d0 : 0 ≤ (i : Int) ∧ (i : Int) < (N : Int) ∧ 8 = 8 := ⟨by omega, by omega, rfl⟩
    have w1 : IntKind.i64.wrap ((i : Int) + 1) = ((i + 1 : Nat) : Int) := by rw [w64 (by omega) (by omega)]; push_cast; rfl
    obtain ⟨p1, p2, ⟨r, p3, lr⟩, p4, p5, ⟨u, p6, lu⟩, v, p7, lv⟩ := ha i (by omega)
    obtain ⟨fi, q1⟩ := p1.sim hb hs
    obtain ⟨fs, q2, of⟩ := p2.sim hb hs
    have q3 := p3.sim hb lr.noI hs
    have l0 := q1.ld3 q2 q3
    have orr := lr.one
    have x0 := Ext.mk (h := h) (.cells [.int .i64 fi, fs, r] 52 0)
    have n0 : (h.mk' h.next (.cells [.int .i64 fi, fs, r] 52 0)).next = h.next + 1 := by rw [mk_next]; omega
    have g0 : (h.mk' h.next (.cells [.int .i64 fi, fs, r] 52 0)).get h.next = some (.cells [.int .i64 fi, fs, r] 52 0) := by rw [Heap.get_mk, if_pos rfl]
    simp only [h1, h2, d0, c1, l0, of, orr, RW, Int.toNat_natCast, RX, VOp.fresh, bxC, bsC, un, most, callsOf, seval, Int.reducePow, ↓reduceIte, Nat.reduceEqDiff, reduceCtorEq]
    refine spFeats_cl g (B := fun c => B c ∨ c = h.next) (.inr ⟨h.next, 0, 1, 1, rfl, by unfold most3; omega, .inr rfl, by omega, fun j hj => ?_⟩) fun _ h3 s3 => ?_
    · obtain rfl : j = 0 := by omega
      exact ⟨⟨fi, _, _, _, g0, rfl⟩, r, ⟨_, _, _, g0, rfl⟩, ((lr.sim hs).sim (B' := B) (Sim.ext x0)).weak fun c hc => .inl hc⟩
    have hs3 : Sim B h0 h3 := hs.trans (((Sim.ext x0).trans s3).cut fun c hc hl => by rcases hc with hc | hc; exact hc; omega)
    obtain ⟨ep, q5, o5⟩ := p5.sim hb hs3
    have q6 := p6.sim hb lu.noI hs3
    have q7 := p7.sim hb lv.noI hs3
    have l1 := q5.ld3 q6 q7
    simp only [h1, h2, d0, l1, Int.toNat_natCast, RX, VOp.fresh, bxC, bsC, un, most, callsOf, seval, Int.reducePow, ↓reduceIte, Nat.reduceEqDiff, reduceCtorEq]
    refine spMap_cl g (B := B) (lu.sim hs3) (lv.sim hs3) ⟨o5, lu.one, lv.one⟩ fun _ h4 s4 => ?_
    have hs4 := hs3.trans s4
    obtain ⟨m, am⟩ := p4.sim hb hs4
    have ld := am.ld
    obtain ⟨h', hw, hs'⟩ := (p4.sim hb hs4).st hB (bitsOf .xor .i64 m 90)
    simp only [h1, h2, d0, ld, hw, w1, Int.toNat_natCast, RX, VOp.fresh, bxC, bsC, un, most, callsOf, seval, Int.reducePow, ↓reduceIte, Nat.reduceEqDiff, reduceCtorEq]
    refine ih (i + 1) _ h' k Q (by omega) (hs4.trans hs') ?_ ?_ hK
    · simp only [h1, sg_set, Nat.reduceEqDiff, ↓reduceIte]
    · simp only [sg_set, Nat.reduceEqDiff, ↓reduceIte]
theorem spOps_cl (g : Pg P tab) {B : Nat → Prop} {h : Heap} {v : AV} (l : LOps h B v) {Q : AV → Heap → Prop} (q : ∀ v h', Sim B h h' → Q v h') : Cl P 21 [v] h Q := by
  refine g.cl (vf := v21) rfl rfl ?_
  rcases l with rfl | ⟨b, off, n, cap, rfl, a1, a2, a3, a4⟩
  · simp only [v21, RX, VOp.fresh, bxC, bsC, un, most, callsOf, seval, Int.reducePow, ↓reduceIte, Nat.reduceEqDiff, reduceCtorEq]
    refine g.lpe b21_0.eq_1 ?_
    simp only [RX, VOp.fresh, bxC, bsC, un, most, callsOf, seval, Int.reducePow, ↓reduceIte, Nat.reduceEqDiff, reduceCtorEq]
    exact q _ _ Sim.refl
  · simp only [v21, RX, VOp.fresh, bxC, bsC, un, most, callsOf, seval, Int.reducePow, ↓reduceIte, Nat.reduceEqDiff, reduceCtorEq]
    refine spOps_loop g (cap := cap) a3 a2 a1 a4 n 0 _ _ _ _ (by omega) Sim.refl ?_ ?_ fun s' h' hs => ?_
    · simp only [sg_set, Nat.reduceEqDiff, ↓reduceIte]
    · simp only [sg_set, Nat.reduceEqDiff, ↓reduceIte]
      rfl
    simp only [RX, VOp.fresh, bxC, bsC, un, most, callsOf, seval, Int.reducePow, ↓reduceIte, Nat.reduceEqDiff, reduceCtorEq]
    exact q _ _ hs
end
end Go.Proofs.Ytinonmcnofjeeaa.VM
namespace Go.Proofs.Ytinonmcnofjeeaa.VM
attribute [local irreducible] Af Nx EvO Ev Un Gd Cd EvR EvQ EvC Nc Gc Lp EvM NxM AfM GdM EvMR EvMQ EvMD EvMC Nm Gm
theorem bares_mem : ∀ {l : List AV} {x : AV}, AV.bares l = true → x ∈ l → x.bare = true
  | y :: l, x, h, hx => by
    simp only [AV.bares, Bool.and_eq_true] at h
    rcases List.mem_cons.1 hx with rfl | hx
    · exact h.1
    · exact bares_mem h.2 hx
theorem bares_of : ∀ {l : List AV}, (∀ x ∈ l, AV.bare x = true) → AV.bares l = true
  | [], _ => rfl
  | y :: l, h => by simp only [AV.bares, h y List.mem_cons_self, bares_of fun x hx => h x (List.mem_cons_of_mem _ hx), Bool.and_self]
theorem bares_cut {l cs : List AV} {i n : Nat} (h : AV.bares l = true) (hc : cut l i n = some cs) : AV.bares cs = true := by
  rw [cut_eq] at hc
  split at hc
  · cases hc
    exact bares_of fun x hx => bares_mem h (List.mem_of_mem_drop (List.mem_of_mem_take hx))
  · cases hc
theorem cut_get {l cs : List AV} {i n : Nat} (hc : cut l i n = some cs) : cs.length = n ∧ ∀ j, j < n → l[i + j]? = cs[j]? := by
  rw [cut_eq] at hc
  split at hc
  · rename_i e
    cases hc
    exact ⟨e, fun j hj => by rw [List.getElem?_take, if_pos hj, List.getElem?_drop]⟩
  · cases hc
section
variable {h : Heap} {B : Nat → Prop}
theorem Lv.int_inv {x : AV} {k : IntKind} {m : Int} (l : Lv h B x (.int k m)) : x = .int k m := by
  obtain ⟨D, f, _⟩ := l
  cases f
  rfl
theorem Lv.nils_inv {x : AV} (l : Lv h B x .nils) : x = .nils := by
  obtain ⟨D, f, _⟩ := l
  cases f
  rfl
theorem Fds.get : ∀ {x y : List AV} {D : List Nat}, Fds h x y D → ∀ {j : Nat} {b : AV}, y[j]? = some b → ∃ a E, x[j]? = some a ∧ a ∈ x ∧ Fd h a b E ∧ ∀ c ∈ E, c ∈ D
  | _, _, _, .nil, j, b, e => by simp at e
  | _, _, _, .cons (x := x) (D := D) f t, 0, b, e => by
    simp only [List.getElem?_cons_zero, Option.some.injEq] at e
    subst e
    exact ⟨x, D, rfl, List.mem_cons_self, f, fun c hc => List.mem_append_left _ hc⟩
  | _, _, _, .cons f t, j + 1, b, e => by
    simp only [List.getElem?_cons_succ] at e
    obtain ⟨a, E, h1, h2, h3, h4⟩ := t.get e
    exact ⟨a, E, by simpa using h1, List.mem_cons_of_mem _ h2, h3, fun c hc => List.mem_append_right _ (h4 c hc)⟩
theorem Lvs.get {x y : List AV} (l : Lvs h B x y) {j : Nat} {b : AV} (e : y[j]? = some b) : ∃ a, x[j]? = some a ∧ Lv h B a b := by
  obtain ⟨D, f, hb, o, i⟩ := l
  obtain ⟨a, E, h1, h2, h3, h4⟩ := f.get e
  exact ⟨a, h1, E, h3, bares_mem hb h2, fun c hc => o c (h4 c hc), fun c hc => i c (h4 c hc)⟩
theorem Lv.row_inv {x : AV} {cs : List AV} {n z : Nat} (l : Lv h B x (cRow cs n)) (hn : 0 < n) (hl : cs.length = n * z) : ∃ b off cap, x = .sl b off n cap z ∧ B b ∧ b < h.next ∧ ∀ j y, cs[j]? = some y → ∃ a, At h b (off + j) a ∧ Lv h B a y := by
  rw [cRow_s _ hn] at l
  obtain ⟨D, f, hb, o, i⟩ := l
  cases f with
  | told hx => cases hb
  | sl0 => omega
  | @sl b off len cap sz l c0 _ e ver D hl0 hnx hg hc t =>
    have hz : sz = z := by
      have := t.length
      obtain ⟨h1, _⟩ := cut_get hc
      rw [hl, h1] at this
      exact (Nat.eq_of_mul_eq_mul_left hn this).symm
    subst hz
    obtain ⟨l', e', ver', hg', hb'⟩ := o b List.mem_cons_self
    rw [hg] at hg'
    cases hg'
    have ls : Lvs h B c0 cs := ⟨D, t, bares_cut hb' hc, fun c hc => o c (List.mem_cons_of_mem _ hc), fun c hc => i c (List.mem_cons_of_mem _ hc)⟩
    refine ⟨b, off, cap, rfl, i b List.mem_cons_self, hnx, fun j y hy => ?_⟩
    obtain ⟨a, ha, la⟩ := ls.get hy
    obtain ⟨h1, h2⟩ := cut_get hc
    obtain ⟨hj, _⟩ := List.getElem?_eq_some_iff.1 ha
    exact ⟨a, ⟨l, e, ver, hg, by rw [h2 j (by omega)]; exact ha⟩, la⟩
theorem flat_get {α : Type} {F : α → List AV} {z : Nat} (hF : ∀ x, (F x).length = z) : ∀ {l : List α} {i j : Nat} (hi : i < l.length), j < z → ((l.map F).flatten)[i * z + j]? = (F l[i])[j]?
  | x :: l, 0, j, _, hj => by
    rw [List.map_cons, List.flatten_cons, Nat.zero_mul, Nat.zero_add, List.getElem?_append_left (by rw [hF]; exact hj)]
    rfl
  | x :: l, i + 1, j, hi, hj => by
    rw [List.map_cons, List.flatten_cons, List.getElem?_append_right (by rw [hF, Nat.add_mul]; omega), hF, show (i + 1) * z + j - z = i * z + j by rw [Nat.add_mul]; omega, flat_get hF (by simpa using hi) hj]
    rfl
theorem flat_len8 {α : Type} {F : α → List AV} {z : Nat} (hF : ∀ x, (F x).length = z) : ∀ {l : List α}, ((l.map F).flatten).length = l.length * z
  | [] => by simp
  | x :: l => by rw [List.map_cons, List.flatten_cons, List.length_append, hF, flat_len8 hF, List.length_cons, Nat.add_mul]; omega
theorem LInts.of {v : AV} {l : List Int} (a : Lv h B v (cInts l)) (hs : intsSm l) : LInts h B v := by
  by_cases h0 : l.length = 0
  · have : l = [] := List.eq_nil_of_length_eq_zero h0
    subst this
    exact .inl a.nils_inv
  · obtain ⟨b, off, cap, rfl, hB, hb, hg⟩ := a.row_inv (z := 1) (by omega) (by rw [List.length_map, Nat.mul_one])
    refine .inr ⟨b, off, l.length, cap, rfl, hs.1, hB, hb, fun i hi => ?_⟩
    obtain ⟨x, ax, lx⟩ := hg i (.int .i64 l[i]) (by rw [List.getElem?_map, List.getElem?_eq_getElem hi]; rfl)
    rw [lx.int_inv] at ax
    exact ⟨_, ax⟩
theorem LPts.of {v : AV} {l : List Pt} (a : Lv h B v (cRing l)) (hs : ringSm l) : LPts h B v := by
  by_cases h0 : l.length = 0
  · have : l = [] := List.eq_nil_of_length_eq_zero h0
    subst this
    exact .inl a.nils_inv
  · obtain ⟨b, off, cap, rfl, hB, hb, hg⟩ := a.row_inv (z := 2) (by omega) (flat_len8 (F := cPt) fun _ => rfl)
    refine .inr ⟨b, off, l.length, cap, rfl, hs.1, hB, hb, fun i hi => ?_⟩
    obtain ⟨x, ax, lx⟩ := hg (i * 2 + 0) (.int .i64 l[i].x) (by rw [flat_get (F := cPt) (z := 2) (fun _ => rfl) hi (by decide)]; rfl)
    rw [lx.int_inv] at ax
    exact ⟨_, ax⟩
theorem LRings.of {v : AV} {l : List (List Pt)} (a : Lv h B v (cRings l)) (h1 : l.length ≤ 1000000) (hs : ∀ r ∈ l, ringSm r) : LRings h B v := by
  by_cases h0 : l.length = 0
  · have : l = [] := List.eq_nil_of_length_eq_zero h0
    subst this
    exact .inl a.nils_inv
  · obtain ⟨b, off, cap, rfl, hB, hb, hg⟩ := a.row_inv (z := 1) (by omega) (by rw [List.length_map, Nat.mul_one])
    refine .inr ⟨b, off, l.length, cap, rfl, h1, hB, hb, fun i hi => ?_⟩
    obtain ⟨x, ax, lx⟩ := hg i (cRing l[i]) (by rw [List.getElem?_map, List.getElem?_eq_getElem hi]; rfl)
    exact ⟨x, ax, LPts.of lx (hs _ (List.getElem_mem hi))⟩
theorem LOps.of {v : AV} {l : List Op} (a : Lv h B v (cOpsL l)) (hs : opsSm l) : LOps h B v := by
  by_cases h0 : l.length = 0
  · have : l = [] := List.eq_nil_of_length_eq_zero h0
    subst this
    exact .inl a.nils_inv
  · obtain ⟨b, off, cap, rfl, hB, hb, hg⟩ := a.row_inv (z := 8) (by omega) (flat_len8 (F := cOpL) fun _ => rfl)
    refine .inr ⟨b, off, l.length, cap, rfl, hs.1, hB, hb, fun i hi => ?_⟩
    obtain ⟨s1, s2, s3, s4⟩ := hs.2 _ (List.getElem_mem hi)
    have get : ∀ j (y : AV), j < 8 → (cOpL l[i])[j]? = some y → ∃ a, At h b (off + i * 8 + j) a ∧ Lv h B a y := fun j y hj hy => by
      rw [Nat.add_assoc]
      exact hg (i * 8 + j) y (by rw [flat_get (F := cOpL) (z := 8) (fun _ => rfl) hi hj]; exact hy)
    have num : ∀ j (m : Int), j < 8 → (cOpL l[i])[j]? = some (.int .i64 m) → AtI h b (off + i * 8 + j) := fun j m hj hy => by
      obtain ⟨x, ax, lx⟩ := get j _ hj hy
      rw [lx.int_inv] at ax
      exact ⟨_, ax⟩
    have any : ∀ {j}, AtI h b j → AtE h b j := fun ⟨m, hm⟩ => ⟨_, hm, rfl⟩
    obtain ⟨x3, a3, l3⟩ := get 3 _ (by decide) rfl
    obtain ⟨x6, a6, l6⟩ := get 6 _ (by decide) rfl
    obtain ⟨x7, a7, l7⟩ := get 7 _ (by decide) rfl
    exact ⟨num 1 _ (by decide) rfl, any (num 2 _ (by decide) rfl), ⟨x3, a3, LRings.of l3 s2.2.2.1 s2.2.2.2⟩, num 4 _ (by decide) rfl, any (num 5 _ (by decide) rfl), ⟨x6, a6, LInts.of l6 s4.2.1⟩, x7, a7, LInts.of l7 s4.2.2⟩
end
theorem Lv.one_row {h : Heap} {B : Nat → Prop} {x : AV} {c : List AV} {n : Nat} (l : Lv h B x (cRow c n)) : x.one = true := by
  obtain ⟨D, f, hb, _⟩ := l
  unfold cRow at f
  split at f <;> cases f <;> first | rfl | cases hb
/-- a struct handed over -/
theorem open_agg {w : World} {v : Value} {avs : List AV} (h : VRs none0 w avs v.cells.toList) (hl : avs.length ≠ 1) : VR none0 w (.agg avs) v := by
  cases v with
  | agg cs => exact .agg h
  | _ => exact absurd h.length hl
theorem str_by {s : ByteArray} (h : s.data.toList.length ≤ reachBytes) : By (s.data.toList.map fun c => c.toNat) ∧ (s.data.toList.map fun c => c.toNat).length < 4611686018427387904 := by
  refine ⟨fun n hn => ?_, ?_⟩
  · obtain ⟨c, _, rfl⟩ := List.mem_map.1 hn
    exact c.toNat_lt
  · rw [List.length_map]
    rw [reach_eq] at h
    omega
end Go.Proofs.Ytinonmcnofjeeaa.VM
namespace Go.Proofs.Ytinonmcnofjeeaa.VM
attribute [local irreducible] Af Nx EvO Ev Un Gd Cd EvR EvQ EvC Nc Gc Lp EvM NxM AfM GdM EvMR EvMQ EvMD EvMC Nm Gm
theorem isL_1 {α : Type} {b : Nat} {R : α → List AV → Prop} {v : AV} {l : List α} (h : IsL b R v l) : v.one = true := by
  rcases h.2 with ⟨rfl, _⟩ | ⟨c, rfl, _⟩ <;> rfl
end Go.Proofs.Ytinonmcnofjeeaa.VM
namespace Go.Proofs.Ytinonmcnofjeeaa.VM
attribute [local irreducible] Af Nx EvO Ev Un Gd Cd EvR EvQ EvC Nc Gc Lp EvM NxM AfM GdM EvMR EvMQ EvMD EvMC Nm Gm
structure Bx where
  x0 : Int
  y0 : Int
  x1 : Int
  y1 : Int
def boxV (b : Bx) : List AV := [.int .i64 b.x0, .int .i64 b.y0, .int .i64 b.x1, .int .i64 b.y1]
def boxOk (b : Bx) : Prop := coordOk b.x0 ∧ coordOk b.y0 ∧ coordOk b.x1 ∧ coordOk b.y1 ∧ b.x0 ≤ b.x1 ∧ b.y0 ≤ b.y1
instance (b : Bx) : Decidable (boxOk b) := by unfold boxOk; infer_instance
def nodeOk (x : Int) : Prop := 0 ≤ x ∧ x < 8
instance (x : Int) : Decidable (nodeOk x) := by unfold nodeOk; infer_instance
def feat0 : Feat := ⟨0, 0, []⟩
def featsAt (l : List Feat) (i : Nat) : Prop := featOk (l.getD i feat0) ∧ (0 < i → (l.getD (i - 1) feat0).id < (l.getD i feat0).id)
def featsOk (l : List Feat) : Prop := ∀ i, i < l.length → featsAt l i
section
variable {P : Program}
theorem node_pu (g : Pg P tab) (x : Int) : Pu P 98 [.int .i64 x] (fun v => v = .bool (decide (nodeOk x))) := by
  refine g.pu (vf := v98) rfl rfl ?_
  simp +contextual (maxSteps := 2000000) (disch := omega) only [v98, nodeOk, RX, VOp.fresh, bxC, bsC, un, most, callsOf, seval, Int.reducePow, ↓reduceIte, Nat.reduceEqDiff, reduceCtorEq]
theorem boxMay_pu (g : Pg P tab) (b : Bx) : Pu P 111 [.agg (boxV b)] (fun v => v = .bool (decide (boxOk b))) := by
  refine g.pu (vf := v111) rfl rfl ?_
  obtain ⟨x0, y0, x1, y1⟩ := b
  have stop : ∀ x y : Int, OK P 122 [.int .i64 x] ⟨1, .e⟩ (.bool (decide (coordOk x))) ⟨1, .e⟩ := fun x y => (coord_pu g x).exact rfl
  simp only [v111, boxV, RX, VOp.fresh, bxC, bsC, un, most, callsOf, seval, Int.reducePow, ↓reduceIte, Nat.reduceEqDiff, reduceCtorEq]
  refine (coord_pu g _).go rfl ?_
  rintro v rfl
  by_cases h1 : coordOk x0
  · simp only [h1, RX, VOp.fresh, bxC, bsC, un, most, callsOf, seval, Int.reducePow, ↓reduceIte, Nat.reduceEqDiff, reduceCtorEq]
    refine (coord_pu g _).go rfl ?_
    rintro v rfl
    by_cases h2 : coordOk y0
    · simp only [h2, RX, VOp.fresh, bxC, bsC, un, most, callsOf, seval, Int.reducePow, ↓reduceIte, Nat.reduceEqDiff, reduceCtorEq]
      refine (coord_pu g _).go rfl ?_
      rintro v rfl
      by_cases h3 : coordOk x1
      · simp only [h3, RX, VOp.fresh, bxC, bsC, un, most, callsOf, seval, Int.reducePow, ↓reduceIte, Nat.reduceEqDiff, reduceCtorEq]
        refine (coord_pu g _).go rfl ?_
        rintro v rfl
        by_cases h4 : coordOk y1
        · simp +contextual (maxSteps := 2000000) only [h4, boxOk, h1, h2, h3, RX, VOp.fresh, bxC, bsC, un, most, callsOf, seval, Int.reducePow, ↓reduceIte, Nat.reduceEqDiff, reduceCtorEq]
        · simp only [h4, boxOk, RX, VOp.fresh, bxC, bsC, un, most, callsOf, seval, Int.reducePow, ↓reduceIte, Nat.reduceEqDiff, reduceCtorEq]
      · simp only [h3, boxOk, RX, VOp.fresh, bxC, bsC, un, most, callsOf, seval, Int.reducePow, ↓reduceIte, Nat.reduceEqDiff, reduceCtorEq]
    · simp only [h2, boxOk, RX, VOp.fresh, bxC, bsC, un, most, callsOf, seval, Int.reducePow, ↓reduceIte, Nat.reduceEqDiff, reduceCtorEq]
  · simp only [h1, boxOk, RX, VOp.fresh, bxC, bsC, un, most, callsOf, seval, Int.reducePow, ↓reduceIte, Nat.reduceEqDiff, reduceCtorEq]
theorem isL_one {b : Nat} {α : Type} {R : α → List AV → Prop} {v : AV} {l : List α} (h : IsL b R v l) : v.one = true := by
  rcases h.2 with ⟨rfl, _⟩ | ⟨c, rfl, _⟩ <;> rfl
theorem zFeat (a : Feat) (c : List AV) (h : RFeat a c) : c.length = 3 := by obtain ⟨v, rfl, _⟩ := h; rfl
theorem getFeat {v : AV} {l : List Feat} (h : IsL 40 RFeat v l) (i : Nat) (hi : i < l.length) : ∃ rv r, IsL 24 RRing rv (l.getD i feat0).rings ∧ I64 (l.getD i feat0).id ∧ I64 (l.getD i feat0).shape ∧ AV.tolds r = true ∧
    ∀ (hh : Heap) (kk : IntKind), iaV hh 3 none v (.int kk (i : Int)) = .val (.rp (.int .i64 (l.getD i feat0).id :: .int .i64 (l.getD i feat0).shape :: rv :: r)) hh := by
  obtain ⟨ci, r, ⟨rv, e, i1, i2, hr⟩, ht, hia⟩ := h.get zFeat tFeat i hi
  have : l.getD i feat0 = l[i] := by simp [List.getD_eq_getElem?_getD, List.getElem?_eq_getElem hi]
  refine ⟨rv, r, by rw [this]; exact hr, by rw [this]; exact i1, by rw [this]; exact i2, ?_, fun hh kk => ?_⟩
  · rw [e] at ht
    simp only [AV.tolds, List.cons_append, List.nil_append, Bool.and_eq_true] at ht
    exact ht.2.2.2
  · rw [hia, e, this]; rfl
theorem rising_loop (g : Pg P tab) {l : List Feat} {v : AV} (hv : IsL 40 RFeat v l) (n : Nat) :
    ∀ (i : Nat) (s : T AV) (hh : Heap) (k : List Fr) (Q : Ex → T AV → Heap → Prop), i + n = l.length → sg s 0 = v → sg s 5 = v → sg s 6 = .int .i64 l.length → sg s 7 = .int .i64 i →
      ((∀ j, i ≤ j → j < l.length → featsAt l j) → ∀ s' h', Un P k Q (.exit 0) s' h') → ((¬ ∀ j, i ≤ j → j < l.length → featsAt l j) → ∀ s' h', sg s' 2 = .bool false → Un P k Q .ret s' h') → Lp P b112_0 s hh (Un P k Q) := by
  have hb := hv.bound (by decide)
  induction n with
  | zero =>
    intro i s hh k Q hi h0 h5 h6 h7 hK hR
    refine g.lpe b112_0.eq_1 ?_
    have c1 : ¬ ((i : Int) < (l.length : Int)) := by omega
    simp only [h6, h7, c1, RX, VOp.fresh, bxC, bsC, un, most, callsOf, seval, Int.reducePow, ↓reduceIte, Nat.reduceEqDiff, reduceCtorEq]
    exact hK (fun j h1 h2 => by omega) _ _
  | succ n ih =>
    intro i s hh k Q hi h0 h5 h6 h7 hK hR
    refine g.lpe b112_0.eq_1 ?_
    have c1 : (i : Int) < (l.length : Int) := by omega
    obtain ⟨rv, r1, hrv, _, _, _, g1⟩ := getFeat hv i (by omega)
    have w1 : IntKind.i64.wrap ((i : Int) + 1) = ((i + 1 : Nat) : Int) := by rw [w64 (by omega) (by omega)]; push_cast; rfl
    have w2 : IntKind.i64.wrap ((i : Int) - 1) = (i : Int) - 1 := w64 (by omega) (by omega)
    simp only [h0, h5, h6, h7, c1, g1, RW, isL_one hrv, RX, VOp.fresh, bxC, bsC, un, most, callsOf, seval, Int.reducePow, ↓reduceIte, Nat.reduceEqDiff, reduceCtorEq]
    refine (shapeMay_pu g hrv).go (by simp [AV.tolds, AV.told, hrv.told tRing]) ?_
    rintro x ⟨b, rfl, hbb⟩
    have no : ¬ featsAt l i → ¬ ∀ j, i ≤ j → j < l.length → featsAt l j := fun h hall => h (hall i (Nat.le_refl _) (by omega))
    have step : featsAt l i → ∀ s' h', sg s' 0 = v → sg s' 5 = v → sg s' 6 = .int .i64 l.length → sg s' 7 = .int .i64 (i + 1 : Nat) → Lp P b112_0 s' h' (Un P k Q) := fun hok s' h' a0 a5 a6 a7 => by
      have all : (∀ j, i ≤ j → j < l.length → featsAt l j) ↔ ∀ j, i + 1 ≤ j → j < l.length → featsAt l j := ⟨fun h j h1 h2 => h j (by omega) h2, fun h j h1 h2 => by
        rcases Nat.lt_or_ge i j with h3 | h3
        · exact h j h3 h2
        · rw [show j = i by omega]; exact hok⟩
      refine ih (i + 1) _ _ k Q (by omega) a0 a5 a6 a7 (fun h => hK (all.2 h)) (fun h => hR (fun h' => h (all.1 h')))
    cases b
    · simp only [RX, VOp.fresh, bxC, bsC, un, most, callsOf, seval, Int.reducePow, ↓reduceIte, Nat.reduceEqDiff, reduceCtorEq]
      exact hR (no fun h => by have := hbb.2 h.1; cases this) _ _ (by simp only [sg_set, Nat.reduceEqDiff, ↓reduceIte])
    · simp only [h0, h7, RX, VOp.fresh, bxC, bsC, un, most, callsOf, seval, Int.reducePow, ↓reduceIte, Nat.reduceEqDiff, reduceCtorEq]
      by_cases hi0 : i = 0
      · have c2 : ¬ ((0 : Int) < (i : Int)) := by omega
        simp only [c2, h7, w1, RX, VOp.fresh, bxC, bsC, un, most, callsOf, seval, Int.reducePow, ↓reduceIte, Nat.reduceEqDiff, reduceCtorEq]
        refine step ⟨hbb.1 rfl, fun h => by omega⟩ _ _ ?_ ?_ ?_ ?_
        · simp only [h0, sg_set, Nat.reduceEqDiff, ↓reduceIte]
        · simp only [h5, sg_set, Nat.reduceEqDiff, ↓reduceIte]
        · simp only [h6, sg_set, Nat.reduceEqDiff, ↓reduceIte]
        · simp only [sg_set, Nat.reduceEqDiff, ↓reduceIte]
      · have c2 : (0 : Int) < (i : Int) := by omega
        obtain ⟨rv', r1', hrv', _, _, _, g1'⟩ := getFeat hv (i - 1) (by omega)
        have ec : ((i - 1 : Nat) : Int) = (i : Int) - 1 := by omega
        rw [ec] at g1'
        simp only [c2, w2, g1', RX, VOp.fresh, bxC, bsC, un, most, callsOf, seval, Int.reducePow, ↓reduceIte, Nat.reduceEqDiff, reduceCtorEq]
        by_cases hid : (l.getD (i - 1) feat0).id < (l.getD i feat0).id
        · have c3 : ¬ (l.getD i feat0).id ≤ (l.getD (i - 1) feat0).id := by omega
          simp only [c3, h7, w1, RX, VOp.fresh, bxC, bsC, un, most, callsOf, seval, Int.reducePow, ↓reduceIte, Nat.reduceEqDiff, reduceCtorEq]
          refine step ⟨hbb.1 rfl, fun h => hid⟩ _ _ ?_ ?_ ?_ ?_
          · simp only [h0, sg_set, Nat.reduceEqDiff, ↓reduceIte]
          · simp only [h5, sg_set, Nat.reduceEqDiff, ↓reduceIte]
          · simp only [h6, sg_set, Nat.reduceEqDiff, ↓reduceIte]
          · simp only [sg_set, Nat.reduceEqDiff, ↓reduceIte]
        · have c3 : (l.getD i feat0).id ≤ (l.getD (i - 1) feat0).id := by omega
          simp only [c3, RX, VOp.fresh, bxC, bsC, un, most, callsOf, seval, Int.reducePow, ↓reduceIte, Nat.reduceEqDiff, reduceCtorEq]
          exact hR (no fun h => hid (h.2 (by omega))) _ _ (by simp only [sg_set, Nat.reduceEqDiff, ↓reduceIte])
theorem rising_pu (g : Pg P tab) {l : List Feat} {v : AV} (hv : IsL 40 RFeat v l) : Pu P 112 [v] (IsB (featsOk l)) := by
  refine g.pu (vf := v112) rfl rfl ?_
  simp only [v112, hv.len, RX, VOp.fresh, bxC, bsC, un, most, callsOf, seval, Int.reducePow, ↓reduceIte, Nat.reduceEqDiff, reduceCtorEq]
  refine rising_loop g hv l.length 0 _ _ _ _ (by omega) ?_ ?_ ?_ ?_ ?_ ?_
  · simp only [sg_set, Nat.reduceEqDiff, ↓reduceIte]
  · simp only [sg_set, Nat.reduceEqDiff, ↓reduceIte]
  · simp only [sg_set, Nat.reduceEqDiff, ↓reduceIte]
  · simp only [sg_set, Nat.reduceEqDiff, ↓reduceIte]
    rfl
  · intro h s' h'
    simp only [RX, VOp.fresh, bxC, bsC, un, most, callsOf, seval, Int.reducePow, ↓reduceIte, Nat.reduceEqDiff, reduceCtorEq]
    exact fun i hi => h i (by omega) hi
  · intro h s' h' h2
    simp only [h2, RX, VOp.fresh, bxC, bsC, un, most, callsOf, seval, Int.reducePow, ↓reduceIte, Nat.reduceEqDiff, reduceCtorEq]
    exact fun hok => h fun j _ hj => hok j hj
end
structure Ms where
  kind : Int
  frm : Int
  to : Int
  node : Int
  seq : Int
  base : Int
  yes : Bool
  query : Int
  applied : Int
  busy : Bool
  box : Bx
  ops : List Op
  fs : List Feat
def msC (m : Ms) (a u : AV) : List AV := [.int .i64 m.kind, .int .i64 m.frm, .int .i64 m.to, .int .i64 m.node, .int .i64 m.seq, .int .i64 m.base, .bool m.yes, .int .i64 m.query, .int .i64 m.applied, .bool m.busy, .int .i64 m.box.x0, .int .i64 m.box.y0, .int .i64 m.box.x1, .int .i64 m.box.y1, a, u]
def zeroBox (b : Bx) : Prop := b.x0 = 0 ∧ b.y0 = 0 ∧ b.x1 = 0 ∧ b.y1 = 0
instance (b : Bx) : Decidable (zeroBox b) := by unfold zeroBox; infer_instance
def kTx (k : Int) : Bool := decide (0 ≤ k ∧ k ≤ 4)
def kOps (k : Int) : Bool := decide (k = 0)
def kYes (k : Int) : Bool := decide (k = 1 ∨ k = 2)
def kQuery (k : Int) : Bool := decide (k = 5 ∨ k = 6)
def kPart (k : Int) : Bool := decide (k = 6)
def rowV (k : Int) : AV := .agg [.bool (kTx k), .bool (kOps k), .bool (kYes k), .bool (kQuery k), .bool (kPart k)]
def opsM (m : Ms) : Prop := if kOps m.kind = true then (-1 ≤ m.base ∧ m.base ≤ 65535) ∧ opsOk 8 m.ops else m.base = 0 ∧ m.ops = []
def queryM (m : Ms) : Prop := if kQuery m.kind = true then (1 ≤ m.query ∧ m.query ≤ 65535) ∧ boxOk m.box else m.query = 0 ∧ zeroBox m.box
def partM (m : Ms) : Prop := if kPart m.kind = true then (0 ≤ m.applied ∧ m.applied ≤ 2147483647) ∧ m.fs.length ≤ 256 ∧ (m.busy = true → m.fs = []) ∧ featsOk m.fs else m.applied = 0 ∧ m.busy = false ∧ m.fs = []
def txM (m : Ms) : Prop := if kTx m.kind = true then txOk m.node m.seq else m.node = 0 ∧ m.seq = 0
def msOk (m : Ms) : Prop := (0 ≤ m.kind ∧ m.kind ≤ 6) ∧ nodeOk m.frm ∧ nodeOk m.to ∧ txM m ∧ (kYes m.kind = true ∨ m.yes = false) ∧ opsM m ∧ queryM m ∧ partM m
section
variable {P : Program}
theorem rowOf_pu (g : Pg P tab) (k : Int) : Pu P 77 [.int .i64 k] (fun v => v = .tup [rowV k, .bool (decide (0 ≤ k ∧ k ≤ 6))]) := by
  have h : (k = 0 ∨ k = 1 ∨ k = 2 ∨ k = 3 ∨ k = 4 ∨ k = 5 ∨ k = 6) ∨ (k ≠ 0 ∧ k ≠ 1 ∧ k ≠ 2 ∧ k ≠ 3 ∧ k ≠ 4 ∧ k ≠ 5 ∧ k ≠ 6) := by omega
  rcases h with h | ⟨h0, h1, h2, h3, h4, h5, h6⟩
  · rcases h with rfl | rfl | rfl | rfl | rfl | rfl | rfl <;> (refine g.pu (vf := v77) rfl rfl ?_; simp only [v77, RW, RX, VOp.fresh, bxC, bsC, un, most, callsOf, seval, Int.reducePow, ↓reduceIte, Nat.reduceEqDiff, reduceCtorEq]; exact ⟨_, .tup (.cons (.agg (.cons (.bool _) (.cons (.bool _) (.cons (.bool _) (.cons (.bool _) (.cons (.bool _) .nil)))))) (.cons (.bool _) .nil)), rfl⟩)
  · refine g.pu (vf := v77) rfl rfl ?_
    simp only [v77, RW, h0, h1, h2, h3, h4, h5, h6, RX, VOp.fresh, bxC, bsC, un, most, callsOf, seval, Int.reducePow, ↓reduceIte, Nat.reduceEqDiff, reduceCtorEq]
    refine ⟨_, .tup (.cons (.agg (.cons (.bool _) (.cons (.bool _) (.cons (.bool _) (.cons (.bool _) (.cons (.bool _) .nil)))))) (.cons (.bool _) .nil)), ?_⟩
    have n1 : ¬ (0 ≤ k ∧ k ≤ 6) := by omega
    have n2 : ¬ (0 ≤ k ∧ k ≤ 4) := by omega
    simp only [rowV, kTx, kOps, kYes, kQuery, kPart, h0, h1, h2, h5, h6, n1, n2, or_self, decide_false]
variable {m : Ms} {a u : AV} {t : List AV}
theorem opsMayM_pu (g : Pg P tab) (ha : IsL 112 ROp a m.ops) (tx yes q pt : Bool) : Pu P 99 [.agg [.bool tx, .bool (kOps m.kind), .bool yes, .bool q, .bool pt], .rp (msC m a u ++ t)] (IsB (opsM m)) := by
  refine g.pu (vf := v99) rfl rfl ?_
  unfold opsM
  cases kOps m.kind with
  | false =>
    simp only [v99, msC, ha.len, RX, VOp.fresh, bxC, bsC, un, most, callsOf, seval, Int.reducePow, ↓reduceIte, Nat.reduceEqDiff, reduceCtorEq]
    by_cases h1 : m.base = 0
    · simp only [h1, ha.len, len0, RX, VOp.fresh, bxC, bsC, un, most, callsOf, seval, Int.reducePow, ↓reduceIte, Nat.reduceEqDiff, reduceCtorEq]
    · simp only [h1, RX, VOp.fresh, bxC, bsC, un, most, callsOf, seval, Int.reducePow, ↓reduceIte, Nat.reduceEqDiff, reduceCtorEq]
  | true =>
    simp only [v99, msC, RX, VOp.fresh, bxC, bsC, un, most, callsOf, seval, Int.reducePow, ↓reduceIte, Nat.reduceEqDiff, reduceCtorEq]
    refine (baseMay_pu g _).go rfl ?_
    rintro v rfl
    by_cases h1 : -1 ≤ m.base ∧ m.base ≤ 65535
    · simp only [h1, RX, VOp.fresh, bxC, bsC, un, most, callsOf, seval, Int.reducePow, ↓reduceIte, Nat.reduceEqDiff, reduceCtorEq]
      refine (opsMay_pu g ha).go (by simp [AV.tolds, AV.told, ha.told tOp]) ?_
      rintro v ⟨b, rfl, hb⟩
      simp only [RX, VOp.fresh, bxC, bsC, un, most, callsOf, seval, Int.reducePow, ↓reduceIte, Nat.reduceEqDiff, reduceCtorEq]
      exact hb
    · simp only [h1, RX, VOp.fresh, bxC, bsC, un, most, callsOf, seval, Int.reducePow, ↓reduceIte, Nat.reduceEqDiff, reduceCtorEq]
theorem flat4 {a b c d a' b' c' d' : Int} : eqv (.flat [.int, .int, .int, .int]) (.agg [.int .i64 a, .int .i64 b, .int .i64 c, .int .i64 d]) (.agg [.int .i64 a', .int .i64 b', .int .i64 c', .int .i64 d']) = some (decide (a = a' ∧ b = b' ∧ c = c' ∧ d = d')) := by
  by_cases h1 : a = a' <;> by_cases h2 : b = b' <;> by_cases h3 : c = c' <;> by_cases h4 : d = d' <;> simp [eqv, sameCells, sameK, h1, h2, h3, h4]
theorem queryMayM_pu (g : Pg P tab) (tx ops yes pt : Bool) : Pu P 100 [.agg [.bool tx, .bool ops, .bool yes, .bool (kQuery m.kind), .bool pt], .rp (msC m a u ++ t)] (IsB (queryM m)) := by
  refine g.pu (vf := v100) rfl rfl ?_
  unfold queryM
  cases kQuery m.kind with
  | false =>
    simp only [v100, msC, RX, VOp.fresh, bxC, bsC, un, most, callsOf, seval, Int.reducePow, ↓reduceIte, Nat.reduceEqDiff, reduceCtorEq]
    by_cases h1 : m.query = 0
    · simp only [h1, flat4, zeroBox, RX, VOp.fresh, bxC, bsC, un, most, callsOf, seval, Int.reducePow, ↓reduceIte, Nat.reduceEqDiff, reduceCtorEq]
    · simp only [h1, RX, VOp.fresh, bxC, bsC, un, most, callsOf, seval, Int.reducePow, ↓reduceIte, Nat.reduceEqDiff, reduceCtorEq]
  | true =>
    simp only [v100, msC, RX, VOp.fresh, bxC, bsC, un, most, callsOf, seval, Int.reducePow, ↓reduceIte, Nat.reduceEqDiff, reduceCtorEq]
    by_cases h1 : 1 ≤ m.query
    · simp only [h1, RX, VOp.fresh, bxC, bsC, un, most, callsOf, seval, Int.reducePow, ↓reduceIte, Nat.reduceEqDiff, reduceCtorEq]
      by_cases h2 : m.query ≤ 65535
      · simp only [h2, RX, VOp.fresh, bxC, bsC, un, most, callsOf, seval, Int.reducePow, ↓reduceIte, Nat.reduceEqDiff, reduceCtorEq]
        refine (boxMay_pu g m.box).go rfl ?_
        rintro v rfl
        simp only [RX, VOp.fresh, bxC, bsC, un, most, callsOf, seval, Int.reducePow, ↓reduceIte, Nat.reduceEqDiff, reduceCtorEq]
      · simp only [h2, RX, VOp.fresh, bxC, bsC, un, most, callsOf, seval, Int.reducePow, ↓reduceIte, Nat.reduceEqDiff, reduceCtorEq]
    · simp only [h1, RX, VOp.fresh, bxC, bsC, un, most, callsOf, seval, Int.reducePow, ↓reduceIte, Nat.reduceEqDiff, reduceCtorEq]
theorem partMayM_pu (g : Pg P tab) (hu : IsL 40 RFeat u m.fs) (tx ops yes q : Bool) : Pu P 101 [.agg [.bool tx, .bool ops, .bool yes, .bool q, .bool (kPart m.kind)], .rp (msC m a u ++ t)] (IsB (partM m)) := by
  refine g.pu (vf := v101) rfl rfl ?_
  unfold partM
  have hcl : ((m.fs.length : Int) ≤ 256) = (m.fs.length ≤ 256) := by rw [eq_iff_iff]; omega
  cases kPart m.kind with
  | false =>
    cases hb : m.busy <;> simp only [v101, msC, hb, hu.len, RX, VOp.fresh, bxC, bsC, un, most, callsOf, seval, Int.reducePow, ↓reduceIte, Nat.reduceEqDiff, reduceCtorEq] <;> by_cases h1 : m.applied = 0 <;> simp only [h1, hu.len, len0, hb, RX, VOp.fresh, bxC, bsC, un, most, callsOf, seval, Int.reducePow, ↓reduceIte, Nat.reduceEqDiff, reduceCtorEq]
  | true =>
    cases hb : m.busy with
    | false =>
      simp only [v101, msC, hb, hu.len, RX, VOp.fresh, bxC, bsC, un, most, callsOf, seval, Int.reducePow, ↓reduceIte, Nat.reduceEqDiff, reduceCtorEq]
      by_cases h1 : 0 ≤ m.applied
      · by_cases h2 : m.applied ≤ 2147483647
        · by_cases h3 : m.fs.length ≤ 256
          · simp only [h1, h2, h3, hcl, hu.len, len0, hb, RX, VOp.fresh, bxC, bsC, un, most, callsOf, seval, Int.reducePow, ↓reduceIte, Nat.reduceEqDiff, reduceCtorEq]
            refine (rising_pu g hu).go (by simp [AV.tolds, AV.told, hu.told tFeat]) ?_
            rintro v ⟨b, rfl, hb⟩
            simp only [RX, VOp.fresh, bxC, bsC, un, most, callsOf, seval, Int.reducePow, ↓reduceIte, Nat.reduceEqDiff, reduceCtorEq]
            exact hb
          · simp only [h1, h2, h3, hcl, hu.len, RX, VOp.fresh, bxC, bsC, un, most, callsOf, seval, Int.reducePow, ↓reduceIte, Nat.reduceEqDiff, reduceCtorEq]
        · simp only [h1, h2, RX, VOp.fresh, bxC, bsC, un, most, callsOf, seval, Int.reducePow, ↓reduceIte, Nat.reduceEqDiff, reduceCtorEq]
      · simp only [h1, RX, VOp.fresh, bxC, bsC, un, most, callsOf, seval, Int.reducePow, ↓reduceIte, Nat.reduceEqDiff, reduceCtorEq]
    | true =>
      simp only [v101, msC, hb, hu.len, RX, VOp.fresh, bxC, bsC, un, most, callsOf, seval, Int.reducePow, ↓reduceIte, Nat.reduceEqDiff, reduceCtorEq]
      by_cases h1 : 0 ≤ m.applied
      · by_cases h2 : m.applied ≤ 2147483647
        · by_cases h3 : m.fs.length ≤ 256
          · by_cases h4 : m.fs = []
            · simp only [h1, h2, h3, hcl, hu.len, len0, hb, h4, RX, VOp.fresh, bxC, bsC, un, most, callsOf, seval, Int.reducePow, ↓reduceIte, Nat.reduceEqDiff, reduceCtorEq]
              rw [h4] at hu
              refine (rising_pu g hu).go (by simp [AV.tolds, AV.told, hu.told tFeat]) ?_
              rintro v ⟨b, rfl, hb⟩
              simp only [RX, VOp.fresh, bxC, bsC, un, most, callsOf, seval, Int.reducePow, ↓reduceIte, Nat.reduceEqDiff, reduceCtorEq]
              exact hb
            · simp only [h1, h2, h3, hcl, hu.len, len0, hb, h4, RX, VOp.fresh, bxC, bsC, un, most, callsOf, seval, Int.reducePow, ↓reduceIte, Nat.reduceEqDiff, reduceCtorEq]
          · simp only [h1, h2, h3, hcl, hu.len, RX, VOp.fresh, bxC, bsC, un, most, callsOf, seval, Int.reducePow, ↓reduceIte, Nat.reduceEqDiff, reduceCtorEq]
        · simp only [h1, h2, RX, VOp.fresh, bxC, bsC, un, most, callsOf, seval, Int.reducePow, ↓reduceIte, Nat.reduceEqDiff, reduceCtorEq]
      · simp only [h1, RX, VOp.fresh, bxC, bsC, un, most, callsOf, seval, Int.reducePow, ↓reduceIte, Nat.reduceEqDiff, reduceCtorEq]
theorem Pu.bool {f : Nat} {args : List AV} {p : Prop} (q : Pu P f args (IsB p)) (ha : AV.tolds args = true) : ∃ b : Bool, (∀ h, OK P f args h (.bool b) h) ∧ (b = true ↔ p) := by
  obtain ⟨v, v', h0, o, hf, b, rfl, hb⟩ := q
  exact ⟨b, fun h => o.pure (Fzs.refl ha) hf, hb⟩
def nodeAns : List AV → AV
  | [.int _ x] => .bool (decide (nodeOk x))
  | _ => .undef
def cMay (b1 b2 b3 : Bool) (f : Nat) (args : List AV) (h : Heap) : AV × Heap := (if f = 98 then nodeAns args else if f = 99 then .bool b1 else if f = 100 then .bool b2 else .bool b3, h)
theorem tolds_ms (ha : IsL 112 ROp a m.ops) (hu : IsL 40 RFeat u m.fs) : AV.tolds (msC m a u) = true := by
  simp [msC, AV.tolds, AV.told, ha.told tOp, hu.told tFeat]
open Classical in
theorem may_pu (g : Pg P tab) (ha : IsL 112 ROp a m.ops) (hu : IsL 40 RFeat u m.fs) (ht : AV.tolds t = true) : Pu P 71 [.rp (msC m a u ++ t)] (fun v => ∃ b : Bool, v = .tup [rowV m.kind, .bool b] ∧ (b = true ↔ msOk m)) := by
  refine g.pu (vf := v71) rfl rfl ?_
  have hm : AV.tolds (msC m a u ++ t) = true := by rw [Cat.told.tolds_append, tolds_ms ha hu, ht]; rfl
  have tr : ∀ k : Int, AV.told (rowV k) = true := fun k => rfl
  have tp : AV.tolds [rowV m.kind, .rp (msC m a u ++ t)] = true := by
    show (AV.told (rowV m.kind) && (AV.tolds (msC m a u ++ t) && true)) = true
    rw [hm, tr]; rfl
  obtain ⟨b1, o1, e1⟩ := (opsMayM_pu g (u := u) (t := t) ha (kTx m.kind) (kYes m.kind) (kQuery m.kind) (kPart m.kind)).bool tp
  obtain ⟨b2, o2, e2⟩ := (queryMayM_pu g (m := m) (a := a) (u := u) (t := t) (kTx m.kind) (kOps m.kind) (kYes m.kind) (kPart m.kind)).bool tp
  obtain ⟨b3, o3, e3⟩ := (partMayM_pu g (a := a) (t := t) hu (kTx m.kind) (kOps m.kind) (kYes m.kind) (kQuery m.kind)).bool tp
  obtain rfl : b1 = decide (opsM m) := by rw [Bool.eq_iff_iff, e1, decide_eq_true_iff]
  obtain rfl : b2 = decide (queryM m) := by rw [Bool.eq_iff_iff, e2, decide_eq_true_iff]
  obtain rfl : b3 = decide (partM m) := by rw [Bool.eq_iff_iff, e3, decide_eq_true_iff]
  have o4 : ∀ x h, OK P 98 [.int .i64 x] h (.bool (decide (nodeOk x))) h := fun x h => (node_pu g x).exact rfl
  have e4 : txM m ↔ (if kTx m.kind = true then txOk m.node m.seq else m.node = 0 ∧ m.seq = 0) := Iff.rfl
  have goal : ∀ b : Bool, (b = true ↔ msOk m) → Tl ⟨0, .e⟩ (.tup [rowV m.kind, .bool b]) (fun v => ∃ b : Bool, v = .tup [rowV m.kind, .bool b] ∧ (b = true ↔ msOk m)) := fun b hb => ⟨_, .tup (.cons (.agg (.cons (.bool _) (.cons (.bool _) (.cons (.bool _) (.cons (.bool _) (.cons (.bool _) .nil)))))) (.cons (.bool _) .nil)), b, rfl, hb⟩
  simp only [v71, msC, RX, VOp.fresh, bxC, bsC, un, most, callsOf, seval, Int.reducePow, ↓reduceIte, Nat.reduceEqDiff, reduceCtorEq]
  refine (rowOf_pu g m.kind).go rfl ?_
  rintro v rfl
  rw [rowV] at *
  simp only [RW, flat2, RX, VOp.fresh, bxC, bsC, un, most, callsOf, seval, Int.reducePow, ↓reduceIte, Nat.reduceEqDiff, reduceCtorEq]
  refine (nameMay_pu g _ _).go rfl ?_
  rintro v rfl
  rw [msC] at *
  unfold msOk at goal
  have eT : (if kTx m.kind = true then (0 ≤ m.node ∧ m.node < 8 ∧ 1 ≤ m.seq ∧ m.seq ≤ 65535) else (m.node = 0 ∧ m.seq = 0)) = txM m := rfl
  have tell : ∀ {h : Heap} {b : Bool} {R : AV → Prop}, R (.tup [.agg [.bool (kTx m.kind), .bool (kOps m.kind), .bool (kYes m.kind), .bool (kQuery m.kind), .bool (kPart m.kind)], .bool b]) → Tl h (.tup [.agg [.bool (kTx m.kind), .bool (kOps m.kind), .bool (kYes m.kind), .bool (kQuery m.kind), .bool (kPart m.kind)], .bool b]) R := fun r => ⟨_, .tup (.cons (.agg (.cons (.bool _) (.cons (.bool _) (.cons (.bool _) (.cons (.bool _) (.cons (.bool _) .nil)))))) (.cons (.bool _) .nil)), r⟩
  clear goal tr tp hm e1 e2 e3 e4
  simp only [List.cons_append, List.nil_append, msC] at o1 o2 o3
  unfold msOk
  generalize txM m = T at *
  generalize opsM m = A at *
  generalize queryM m = B at *
  generalize partM m = C at *
  cases hk : kTx m.kind <;> cases hy : kYes m.kind <;> cases hv : m.yes <;> simp only [hk, hy, hv, Bool.false_eq_true, if_true, if_false] at o1 o2 o3 eT tell <;> simp only [hk, hy, hv, Bool.false_eq_true, false_or, true_or, true_and, reduceCtorEq, and_false, false_and, iff_false, or_false, or_true, Bool.not_eq_true]
  all_goals
    simp only [hk, hv, RW, flat2, eT, RX, VOp.fresh, bxC, bsC, un, most, callsOf, seval, Int.reducePow, ↓reduceIte, Nat.reduceEqDiff, reduceCtorEq]
    refine EvD.sameN 45 (cMay (decide A) (decide B) (decide C)) rfl ?_
    simp +contextual (maxSteps := 2000000) only [hk, hy, hv, RW, flat2, cMay, nodeAns, o1, o2, o3, o4, eT, RX, VOp.fresh, bxC, bsC, un, most, callsOf, seval, Int.reducePow, ↓reduceIte, Nat.reduceEqDiff, reduceCtorEq]
  all_goals
    repeat' (first | apply And.intro | intro _)
    all_goals
      refine tell ?_
      refine ⟨_, rfl, ?_⟩
      simp only [decide_eq_true_eq, *, and_self, true_and, false_and, and_true, and_false, Bool.false_eq_true, reduceCtorEq, iff_self, not_true_eq_false, not_false_eq_true]
end
end Go.Proofs.Ytinonmcnofjeeaa.VM
namespace Go.Proofs.Ytinonmcnofjeeaa.VM
attribute [local irreducible] Af Nx EvO Ev Un Gd Cd EvR EvQ EvC Nc Gc Lp EvM NxM AfM GdM EvMR EvMQ EvMD EvMC Nm Gm
section
variable {P : Program} {m : Ms} {a u : AV}
theorem awake16_pu (g : Pg P tab) : Pu P 31 [] (fun v => v = .bool true) := g.run (n := 400) (by kernel_rfl)
theorem msgPut_bad (g : Pg P tab) (ha : IsL 112 ROp a m.ops) (hu : IsL 40 RFeat u m.fs) (hn : ¬ msOk m) : Pu P 25 [.agg (msC m a u)] (fun v => v = .tup [.str [], .int .i64 1600]) := by
  refine g.pu (vf := v25) rfl rfl ?_
  have hm := may_pu g ha hu (t := []) rfl
  rw [List.append_nil] at hm
  have ht := tolds_ms ha hu
  generalize msC m a u = c at hm ht
  simp only [v25, RX, VOp.fresh, bxC, bsC, un, most, callsOf, seval, Int.reducePow, ↓reduceIte, Nat.reduceEqDiff, reduceCtorEq]
  have hf : Fzs true (({ next := 0, t := T.e } : Heap).mk' 0 (.cells c 63 0)) [.ptr 0 0] [.rp c] := .cons (.ptr (by rw [Heap.get_mk, if_pos rfl]) (Fzs.refl ht)) .nil
  refine hm.cl hf ?_
  rintro x ⟨b, rfl, hb⟩
  cases b
  · rw [rowV]
    simp only [RW, RX, VOp.fresh, bxC, bsC, un, most, callsOf, seval, Int.reducePow, ↓reduceIte, Nat.reduceEqDiff, reduceCtorEq]
  · exact absurd (hb.1 rfl) hn
end
end Go.Proofs.Ytinonmcnofjeeaa.VM
namespace Go.Proofs.Ytinonmcnofjeeaa.VM
attribute [local irreducible] Af Nx EvO Ev Un Gd Cd EvR EvQ EvC Nc Gc Lp EvM NxM AfM GdM EvMR EvMQ EvMD EvMC Nm Gm
def boxB (b : Bx) : List Nat := numB b.x0 4 ++ (numB b.y0 4 ++ (numB b.x1 4 ++ numB b.y1 4))
def fsB (l : List Feat) : List Nat := numB l.length 2 ++ (l.map featB).flatten
theorem boxB_len (b : Bx) : (boxB b).length = 16 := by simp only [boxB, List.length_append, numB_len]
theorem By.box (b : Bx) : By (boxB b) := (By.num _ _).app ((By.num _ _).app ((By.num _ _).app (By.num _ _)))
theorem By.fs (l : List Feat) : By (fsB l) := (By.num _ _).app (By.flat By.feat)
theorem getD_feat {l : List Feat} {i : Nat} (hi : i < l.length) : l.getD i feat0 = l[i] := by simp [List.getD_eq_getElem?_getD, List.getElem?_eq_getElem hi]
section
variable {P : Program}
theorem wbox (g : Pg P tab) (b4 : Bx) {K : List (Nat × Blk)} {h : Heap} {b : Nat} {s : List Nat} (w : WR K h b s)
    (hl : s.length ≤ 1000000) {Q : AV → Heap → Prop} (q : ∀ v h', WR K h' b (s ++ boxB b4) → Q v h') : Cl P 72 [.ptr b 0, .agg (boxV b4)] h Q := by
  refine g.cl (vf := v72) rfl rfl ?_
  obtain ⟨x0, y0, x1, y1⟩ := b4
  have w0 := w.add (.cells [.int .i64 x0, .int .i64 y0, .int .i64 x1, .int .i64 y1] 60 0)
  simp only [v72, boxV, RX, VOp.fresh, bxC, bsC, un, most, callsOf, seval, Int.reducePow, ↓reduceIte, Nat.reduceEqDiff, reduceCtorEq]
  refine g.lpe b72_0.eq_1 ?_
  simp only [RX, VOp.fresh, bxC, bsC, un, most, callsOf, seval, Int.reducePow, ↓reduceIte, Nat.reduceEqDiff, reduceCtorEq]
  refine wnum (n := 4) g (num4_pu g _) (by decide) w0 (by omega) fun _ h1 w1 => ?_
  simp only [RX, VOp.fresh, bxC, bsC, un, most, callsOf, seval, Int.reducePow, ↓reduceIte, Nat.reduceEqDiff, reduceCtorEq]
  refine g.lpe b72_0.eq_1 ?_
  simp only [RX, VOp.fresh, bxC, bsC, un, most, callsOf, seval, Int.reducePow, ↓reduceIte, Nat.reduceEqDiff, reduceCtorEq]
  refine wnum (n := 4) g (num4_pu g _) (by decide) w1 (by simp only [List.length_append, numB_len]; omega) fun _ h2 w2 => ?_
  simp only [RX, VOp.fresh, bxC, bsC, un, most, callsOf, seval, Int.reducePow, ↓reduceIte, Nat.reduceEqDiff, reduceCtorEq]
  refine g.lpe b72_0.eq_1 ?_
  simp only [RX, VOp.fresh, bxC, bsC, un, most, callsOf, seval, Int.reducePow, ↓reduceIte, Nat.reduceEqDiff, reduceCtorEq]
  refine wnum (n := 4) g (num4_pu g _) (by decide) w2 (by simp only [List.length_append, numB_len]; omega) fun _ h3 w3 => ?_
  simp only [RX, VOp.fresh, bxC, bsC, un, most, callsOf, seval, Int.reducePow, ↓reduceIte, Nat.reduceEqDiff, reduceCtorEq]
  refine g.lpe b72_0.eq_1 ?_
  simp only [RX, VOp.fresh, bxC, bsC, un, most, callsOf, seval, Int.reducePow, ↓reduceIte, Nat.reduceEqDiff, reduceCtorEq]
  refine wnum (n := 4) g (num4_pu g _) (by decide) w3 (by simp only [List.length_append, numB_len]; omega) fun _ h4 w4 => ?_
  simp only [RX, VOp.fresh, bxC, bsC, un, most, callsOf, seval, Int.reducePow, ↓reduceIte, Nat.reduceEqDiff, reduceCtorEq]
  refine g.lpe b72_0.eq_1 ?_
  simp only [RX, VOp.fresh, bxC, bsC, un, most, callsOf, seval, Int.reducePow, ↓reduceIte, Nat.reduceEqDiff, reduceCtorEq]
  refine q _ _ ?_
  have := w4.less
  simpa only [boxB, List.append_assoc] using this
theorem wfs (g : Pg P tab) {m : Ms} {a u : AV} (hu : IsL 40 RFeat u m.fs) (hs : ∀ f ∈ m.fs, featSmall f) (hl : m.fs.length ≤ 1000) {K : List (Nat × Blk)} {e : TypeId} {ver : Nat} (hm : ((0, .cells (msC m a u) e ver) : Nat × Blk) ∈ K) {b : Nat} (acc : List Nat) (hacc : acc.length ≤ 10000) (n : Nat) :
    ∀ (i : Nat) (s : T AV) (h : Heap) (k : List Fr) (Q : Ex → T AV → Heap → Prop), i + n = m.fs.length → WR K h b (acc ++ ((m.fs.take i).map featB).flatten) → sg s 1 = .ptr 0 0 → sg s 6 = .ptr b 0 → sg s 81 = .int .i64 m.fs.length → sg s 82 = .int .i64 i →
      (∀ s' h', WR K h' b (acc ++ (m.fs.map featB).flatten) → sg s' 6 = .ptr b 0 → Un P k Q (.exit 2) s' h') → Lp P b25_1 s h (Un P k Q) := by
  induction n with
  | zero =>
    intro i s h k Q hi w h1 h6 h81 h82 hK
    refine g.lpe b25_1.eq_1 ?_
    have c1 : ¬ ((i : Int) < (m.fs.length : Int)) := by omega
    simp only [h81, h82, c1, RX, VOp.fresh, bxC, bsC, un, most, callsOf, seval, Int.reducePow, ↓reduceIte, Nat.reduceEqDiff, reduceCtorEq]
    rw [List.take_of_length_le (by omega)] at w
    refine hK _ _ w ?_
    · simp only [h6, sg_set, Nat.reduceEqDiff, ↓reduceIte]
  | succ n ih =>
    intro i s h k Q hi w h1 h6 h81 h82 hK
    refine g.lpe b25_1.eq_1 ?_
    have c1 : (i : Int) < (m.fs.length : Int) := by omega
    obtain ⟨rv, r1, hrv, _, _, _, g1⟩ := getFeat hu i (by omega)
    have w1 : IntKind.i64.wrap ((i : Int) + 1) = ((i + 1 : Nat) : Int) := by rw [w64 (by omega) (by omega)]; push_cast; rfl
    have hlt : (acc ++ ((m.fs.take i).map featB).flatten).length ≤ 100000000000 := by
      have := flat_lenT (F := featB) (B := 9000000) (l := m.fs) (fun x hx => featB_len (hs x hx)) i
      rw [List.length_append]
      have : m.fs.length * 9000000 ≤ 1000 * 9000000 := Nat.mul_le_mul_right _ hl
      omega
    have hk := (w.keep _ hm).2.2
    simp only [msC] at hk
    simp only [h1, h6, h81, h82, c1, hk, g1, RX, VOp.fresh, bxC, bsC, un, most, callsOf, seval, Int.reducePow, ↓reduceIte, Nat.reduceEqDiff, reduceCtorEq]
    refine wfeat g hrv (by rw [getD_feat (by omega)]; exact hs _ (List.getElem_mem _)) w hlt fun v h' w' => ?_
    simp only [h82, w1, RX, VOp.fresh, bxC, bsC, un, most, callsOf, seval, Int.reducePow, ↓reduceIte, Nat.reduceEqDiff, reduceCtorEq]
    rw [List.append_assoc, getD_feat (by omega), flat_take featB m.fs i (by omega)] at w'
    refine ih (i + 1) _ h' k Q (by omega) w' ?_ ?_ ?_ ?_ hK
    · simp only [h1, sg_set, Nat.reduceEqDiff, ↓reduceIte]
    · simp only [h6, sg_set, Nat.reduceEqDiff, ↓reduceIte]
    · simp only [h81, sg_set, Nat.reduceEqDiff, ↓reduceIte]
    · simp only [sg_set, Nat.reduceEqDiff, ↓reduceIte]
end
end Go.Proofs.Ytinonmcnofjeeaa.VM
namespace Go.Proofs.Ytinonmcnofjeeaa.VM
attribute [local irreducible] Af Nx EvO Ev Un Gd Cd EvR EvQ EvC Nc Gc Lp EvM NxM AfM GdM EvMR EvMQ EvMD EvMC Nm Gm
def msB (m : Ms) : List Nat := 77 :: 83 :: (numB m.kind 1 ++ (numB m.frm 1 ++ (numB m.to 1 ++ ((if kTx m.kind = true then txB m.node m.seq else []) ++ ((if kOps m.kind = true then numB (m.base + 1) 4 ++ opsB m.ops else []) ++
  ((if kYes m.kind = true then bitB m.yes else []) ++ ((if kQuery m.kind = true then numB m.query 2 ++ boxB m.box else []) ++ (if kPart m.kind = true then numB m.applied 4 ++ (bitB m.busy ++ fsB m.fs) else []))))))))
theorem By.ms (m : Ms) : By (msB m) := by
  have one : ∀ (b : Bool) (x : List Nat), By x → By (if b = true then x else []) := fun b x h => by split; exact h; exact By.nil
  have h2 : By [77, 83] := fun n hn => by simp at hn; omega
  have := h2.app ((By.num m.kind 1).app ((By.num m.frm 1).app ((By.num m.to 1).app ((one (kTx m.kind) _ ((By.num m.node 1).app (By.num m.seq 2))).app ((one (kOps m.kind) _ ((By.num (m.base + 1) 4).app (By.ops m.ops))).app
    ((one (kYes m.kind) _ (By.num (if m.yes then 1 else 0) 1)).app ((one (kQuery m.kind) _ ((By.num m.query 2).app (By.box m.box))).app (one (kPart m.kind) _ ((By.num m.applied 4).app ((By.num (if m.busy then 1 else 0) 1).app (By.fs m.fs)))))))))))
  exact this
theorem msB_ne (m : Ms) : msB m ≠ [] := by rw [msB]; simp
/-- what is written of a message -/
def msAns (m : Ms) : AV := if (msB m).length ≤ 16384 then .tup [.str (msB m), .int .i64 0] else .tup [.str [], .int .i64 1600]
theorem fsSmall {l : List Feat} (h : featsOk l) : ∀ f ∈ l, featSmall f := by
  intro f hf
  obtain ⟨i, hi, rfl⟩ := List.mem_iff_getElem.1 hf
  rw [← getD_feat hi]
  exact featOk_small (h i hi).1
section
variable {P : Program} {m : Ms} {a u : AV}
theorem msgPut_good (g : Pg P tab) (ha : IsL 112 ROp a m.ops) (hu : IsL 40 RFeat u m.fs) (ok : msOk m) : Pu P 25 [.agg (msC m a u)] (fun v => v = msAns m) := by
  refine g.pu (vf := v25) rfl rfl ?_
  have hm := may_pu g ha hu (t := []) rfl
  rw [List.append_nil] at hm
  have ht := tolds_ms ha hu
  generalize hc : msC m a u = c at hm ht ⊢
  simp only [v25, RX, VOp.fresh, bxC, bsC, un, most, callsOf, seval, Int.reducePow, ↓reduceIte, Nat.reduceEqDiff, reduceCtorEq]
  have hf : Fzs true (({ next := 0, t := T.e } : Heap).mk' 0 (.cells c 63 0)) [.ptr 0 0] [.rp c] := .cons (.ptr (by rw [Heap.get_mk, if_pos rfl]) (Fzs.refl ht)) .nil
  refine hm.cl hf ?_
  rintro x ⟨b, rfl, hb⟩
  cases b
  · exact absurd (hb.2 ok) (by simp)
  clear hm hf hb
  obtain ⟨⟨hk0, hk6⟩, hfr, hto, htx, hy, hops, hq, hpt⟩ := ok

  have head : ∀ {H : Heap} {s : T AV} {k : List Fr} {Q : Ex → T AV → Heap → Prop} {row : List AV}, H.next = 4 → H.get 3 = some (.cells [.sl 2 0 2 2 1] 103 0) → H.get 2 = some (.cells [.int .u8 77, .int .u8 83] 5 0) → H.get 1 = some (.cells row 132 1) → H.get 0 = some (.cells c 63 0) →
      sg s 26 = .agg [.int .i64 m.kind, .int .i64 m.frm, .int .i64 m.to] → sg s 27 = .int .i64 0 → sg s 6 = .ptr 3 0 → sg s 1 = .ptr 0 0 → sg s 4 = .ptr 1 0 →
      (∀ s' h', WR [(1, .cells row 132 1), (0, .cells c 63 0)] h' 3 (77 :: 83 :: (numB m.kind 1 ++ (numB m.frm 1 ++ numB m.to 1))) → sg s' 1 = .ptr 0 0 → sg s' 4 = .ptr 1 0 → sg s' 6 = .ptr 3 0 → Un P k Q (.exit 0) s' h') → Lp P b25_0 s H (Un P k Q) := by
    intro H s k Q row hn g3 g2 g1 g0 a26 a27 a6 a1 a4 hK
    have w0 : WR [(1, .cells row 132 1), (0, .cells c 63 0)] H 3 [77, 83] := by
      refine ⟨by omega, ⟨_, _, _, g3, .inr ⟨2, 5, 0, rfl, by omega, by decide, ?_, g2⟩⟩, ?_⟩
      · intro p hp; simp at hp; rcases hp with rfl | rfl <;> simp
      · intro p hp
        simp only [List.mem_cons, List.not_mem_nil, or_false] at hp
        rcases hp with rfl | rfl
        · exact ⟨by simp only; omega, show (1 : Nat) ≠ 3 by decide, g1⟩
        · exact ⟨by simp only; omega, show (0 : Nat) ≠ 3 by decide, g0⟩
    refine g.lpe b25_0.eq_1 ?_
    simp only [a26, a27, a6, a1, a4, RX, VOp.fresh, bxC, bsC, un, most, callsOf, seval, Int.reducePow, ↓reduceIte, Nat.reduceEqDiff, reduceCtorEq]
    refine wnum (n := 1) g (num1_pu g _) (by decide) w0 (by simp) fun _ h1 w1 => ?_
    simp only [a26, a27, a6, a1, a4, RX, VOp.fresh, bxC, bsC, un, most, callsOf, seval, Int.reducePow, ↓reduceIte, Nat.reduceEqDiff, reduceCtorEq]
    refine g.lpe b25_0.eq_1 ?_
    simp only [a26, a27, a6, a1, a4, RX, VOp.fresh, bxC, bsC, un, most, callsOf, seval, Int.reducePow, ↓reduceIte, Nat.reduceEqDiff, reduceCtorEq]
    refine wnum (n := 1) g (num1_pu g _) (by decide) w1 (by simp [numB_len]) fun _ h2 w2 => ?_
    simp only [a26, a27, a6, a1, a4, RX, VOp.fresh, bxC, bsC, un, most, callsOf, seval, Int.reducePow, ↓reduceIte, Nat.reduceEqDiff, reduceCtorEq]
    refine g.lpe b25_0.eq_1 ?_
    simp only [a26, a27, a6, a1, a4, RX, VOp.fresh, bxC, bsC, un, most, callsOf, seval, Int.reducePow, ↓reduceIte, Nat.reduceEqDiff, reduceCtorEq]
    refine wnum (n := 1) g (num1_pu g _) (by decide) w2 (by simp [numB_len]) fun _ h3 w3 => ?_
    simp only [a26, a27, a6, a1, a4, RX, VOp.fresh, bxC, bsC, un, most, callsOf, seval, Int.reducePow, ↓reduceIte, Nat.reduceEqDiff, reduceCtorEq]
    refine g.lpe b25_0.eq_1 ?_
    simp only [a26, a27, a6, a1, a4, RX, VOp.fresh, bxC, bsC, un, most, callsOf, seval, Int.reducePow, ↓reduceIte, Nat.reduceEqDiff, reduceCtorEq]
    refine hK _ _ (by simpa only [List.append_assoc, List.cons_append, List.nil_append] using w3) ?_ ?_ ?_
    · simp only [a1, sg_set, Nat.reduceEqDiff, ↓reduceIte]
    · simp only [a4, sg_set, Nat.reduceEqDiff, ↓reduceIte]
    · simp only [a6, sg_set, Nat.reduceEqDiff, ↓reduceIte]
  rcases (by omega : m.kind = 0 ∨ m.kind = 1 ∨ m.kind = 2 ∨ m.kind = 3 ∨ m.kind = 4 ∨ m.kind = 5 ∨ m.kind = 6) with ek | ek | ek | ek | ek | ek | ek
  · have hrow : rowV m.kind = .agg [.bool true, .bool true, .bool false, .bool false, .bool false] := by rw [ek]; rfl
    have er : msB m = 77 :: 83 :: (numB m.kind 1 ++ (numB m.frm 1 ++ (numB m.to 1 ++ (txB m.node m.seq ++ (numB (m.base + 1) 4 ++ (opsB m.ops)))))) := by
      have d1 : kTx m.kind = true := by rw [ek]; rfl
      have d2 : kOps m.kind = true := by rw [ek]; rfl
      have d3 : kYes m.kind = false := by rw [ek]; rfl
      have d4 : kQuery m.kind = false := by rw [ek]; rfl
      have d5 : kPart m.kind = false := by rw [ek]; rfl
      rw [msB, d1, d2, d3, d4, d5]
      simp only [if_true, Bool.false_eq_true, if_false, List.nil_append, List.append_nil, List.append_assoc]
    simp only [hrow, RW, ← hc, msC, RX, VOp.fresh, bxC, bsC, un, most, callsOf, seval, Int.reducePow, ↓reduceIte, Nat.reduceEqDiff, reduceCtorEq]
    refine head (row := [.bool true, .bool true, .bool false, .bool false, .bool false]) (by rfl) ?_ ?_ ?_ ?_ ?_ ?_ ?_ ?_ ?_ ?_
    · simp only [RX, VOp.fresh, bxC, bsC, un, most, callsOf, seval, Int.reducePow, ↓reduceIte, Nat.reduceEqDiff, reduceCtorEq]
    · simp only [RX, VOp.fresh, bxC, bsC, un, most, callsOf, seval, Int.reducePow, ↓reduceIte, Nat.reduceEqDiff, reduceCtorEq]
    · simp only [RX, VOp.fresh, bxC, bsC, un, most, callsOf, seval, Int.reducePow, ↓reduceIte, Nat.reduceEqDiff, reduceCtorEq]
    · simp only [← hc, msC, RX, VOp.fresh, bxC, bsC, un, most, callsOf, seval, Int.reducePow, ↓reduceIte, Nat.reduceEqDiff, reduceCtorEq]
    · simp only [sg_set, Nat.reduceEqDiff, ↓reduceIte]
    · simp only [sg_set, Nat.reduceEqDiff, ↓reduceIte]
    · simp only [sg_set, Nat.reduceEqDiff, ↓reduceIte]
    · simp only [sg_set, Nat.reduceEqDiff, ↓reduceIte]
    · simp only [sg_set, Nat.reduceEqDiff, ↓reduceIte]
    intro s' h1 w1 a1 a4 a6
    have hm1 : ((1, .cells [.bool true, .bool true, .bool false, .bool false, .bool false] 132 1) : Nat × Blk) ∈ [((1, .cells [.bool true, .bool true, .bool false, .bool false, .bool false] 132 1) : Nat × Blk), (0, .cells c 63 0)] := List.mem_cons_self
    have hm0 : ((0, .cells c 63 0) : Nat × Blk) ∈ [((1, .cells [.bool true, .bool true, .bool false, .bool false, .bool false] 132 1) : Nat × Blk), (0, .cells c 63 0)] := List.mem_cons_of_mem _ List.mem_cons_self
    rw [← hc] at w1 hm0 hm1
    have k0 := (w1.keep _ hm0).2.2
    have k1 := (w1.keep _ hm1).2.2
    simp only [msC] at k0 k1
    simp only [a1, a4, a6, k0, k1, ha.len, hu.len, RX, VOp.fresh, bxC, bsC, un, most, callsOf, seval, Int.reducePow, ↓reduceIte, Nat.reduceEqDiff, reduceCtorEq]
    refine wname g w1 (by simp only [List.length_cons, List.length_append, numB_len, txB, bitB, boxB_len]; omega) fun _ h2 w2 => ?_
    have k0 := (w2.keep _ hm0).2.2
    have k1 := (w2.keep _ hm1).2.2
    simp only [msC] at k0 k1
    simp only [a1, a4, a6, k0, k1, ha.len, hu.len, RX, VOp.fresh, bxC, bsC, un, most, callsOf, seval, Int.reducePow, ↓reduceIte, Nat.reduceEqDiff, reduceCtorEq]
    have hops' : (-1 ≤ m.base ∧ m.base ≤ 65535) ∧ opsOk 8 m.ops := by simpa only [opsM, ek, kOps, decide_true, if_true] using hops
    refine wops g ha (by have := hops'.2.2.1; omega) ?_ (by omega) (by omega) w2 (by simp only [List.length_cons, List.length_append, numB_len, txB, bitB, boxB_len]; omega) fun _ h3 w3 => ?_
    · intro o ho
      obtain ⟨j, hj, rfl⟩ := List.mem_iff_getElem.1 ho
      rw [← getD_op hj]
      exact opOk_small (hops'.2.2.2 j hj).1
    replace w3 := (show WR _ _ 3 (msB m) from by rw [er]; simpa only [List.append_assoc, List.cons_append, fsB] using w3)
    obtain ⟨v, e0, ver, hb1, ho⟩ := w3.out
    rcases ho with ⟨_, hnil⟩ | ⟨c0, e', ver', rfl, _, _, _, hc6⟩
    · exact absurd hnil (msB_ne _)
    have k1 := (w3.keep _ hm1).2.2
    simp only at k1
    by_cases hlen : (msB m).length ≤ 16384
    · have c8 : ¬ (16384 : Int) < ((msB m).length : Int) := by omega
      simp only [a1, a4, a6, k1, hb1, c8, RX, VOp.fresh, bxC, bsC, un, most, callsOf, seval, Int.reducePow, ↓reduceIte, Nat.reduceEqDiff, reduceCtorEq]
      rw [cvT_sl hc6 (List.length_map _), mb_bytes (By.ms m)]
      simp only [RX, VOp.fresh, bxC, bsC, un, most, callsOf, seval, Int.reducePow, ↓reduceIte, Nat.reduceEqDiff, reduceCtorEq]
      rw [msAns, if_pos hlen]
    · have c8 : (16384 : Int) < ((msB m).length : Int) := by omega
      simp only [a1, a4, a6, k1, hb1, c8, RX, VOp.fresh, bxC, bsC, un, most, callsOf, seval, Int.reducePow, ↓reduceIte, Nat.reduceEqDiff, reduceCtorEq]
      rw [msAns, if_neg hlen]
  · have hrow : rowV m.kind = .agg [.bool true, .bool false, .bool true, .bool false, .bool false] := by rw [ek]; rfl
    have er : msB m = 77 :: 83 :: (numB m.kind 1 ++ (numB m.frm 1 ++ (numB m.to 1 ++ (txB m.node m.seq ++ (bitB m.yes))))) := by
      have d1 : kTx m.kind = true := by rw [ek]; rfl
      have d2 : kOps m.kind = false := by rw [ek]; rfl
      have d3 : kYes m.kind = true := by rw [ek]; rfl
      have d4 : kQuery m.kind = false := by rw [ek]; rfl
      have d5 : kPart m.kind = false := by rw [ek]; rfl
      rw [msB, d1, d2, d3, d4, d5]
      simp only [if_true, Bool.false_eq_true, if_false, List.nil_append, List.append_nil, List.append_assoc]
    simp only [hrow, RW, ← hc, msC, RX, VOp.fresh, bxC, bsC, un, most, callsOf, seval, Int.reducePow, ↓reduceIte, Nat.reduceEqDiff, reduceCtorEq]
    refine head (row := [.bool true, .bool false, .bool true, .bool false, .bool false]) (by rfl) ?_ ?_ ?_ ?_ ?_ ?_ ?_ ?_ ?_ ?_
    · simp only [RX, VOp.fresh, bxC, bsC, un, most, callsOf, seval, Int.reducePow, ↓reduceIte, Nat.reduceEqDiff, reduceCtorEq]
    · simp only [RX, VOp.fresh, bxC, bsC, un, most, callsOf, seval, Int.reducePow, ↓reduceIte, Nat.reduceEqDiff, reduceCtorEq]
    · simp only [RX, VOp.fresh, bxC, bsC, un, most, callsOf, seval, Int.reducePow, ↓reduceIte, Nat.reduceEqDiff, reduceCtorEq]
    · simp only [← hc, msC, RX, VOp.fresh, bxC, bsC, un, most, callsOf, seval, Int.reducePow, ↓reduceIte, Nat.reduceEqDiff, reduceCtorEq]
    · simp only [sg_set, Nat.reduceEqDiff, ↓reduceIte]
    · simp only [sg_set, Nat.reduceEqDiff, ↓reduceIte]
    · simp only [sg_set, Nat.reduceEqDiff, ↓reduceIte]
    · simp only [sg_set, Nat.reduceEqDiff, ↓reduceIte]
    · simp only [sg_set, Nat.reduceEqDiff, ↓reduceIte]
    intro s' h1 w1 a1 a4 a6
    have hm1 : ((1, .cells [.bool true, .bool false, .bool true, .bool false, .bool false] 132 1) : Nat × Blk) ∈ [((1, .cells [.bool true, .bool false, .bool true, .bool false, .bool false] 132 1) : Nat × Blk), (0, .cells c 63 0)] := List.mem_cons_self
    have hm0 : ((0, .cells c 63 0) : Nat × Blk) ∈ [((1, .cells [.bool true, .bool false, .bool true, .bool false, .bool false] 132 1) : Nat × Blk), (0, .cells c 63 0)] := List.mem_cons_of_mem _ List.mem_cons_self
    rw [← hc] at w1 hm0 hm1
    have k0 := (w1.keep _ hm0).2.2
    have k1 := (w1.keep _ hm1).2.2
    simp only [msC] at k0 k1
    simp only [a1, a4, a6, k0, k1, ha.len, hu.len, RX, VOp.fresh, bxC, bsC, un, most, callsOf, seval, Int.reducePow, ↓reduceIte, Nat.reduceEqDiff, reduceCtorEq]
    refine wname g w1 (by simp only [List.length_cons, List.length_append, numB_len, txB, bitB, boxB_len]; omega) fun _ h2 w2 => ?_
    have k0 := (w2.keep _ hm0).2.2
    have k1 := (w2.keep _ hm1).2.2
    simp only [msC] at k0 k1
    simp only [a1, a4, a6, k0, k1, ha.len, hu.len, RX, VOp.fresh, bxC, bsC, un, most, callsOf, seval, Int.reducePow, ↓reduceIte, Nat.reduceEqDiff, reduceCtorEq]
    refine wbool g w2 (by simp only [List.length_cons, List.length_append, numB_len, txB, bitB, boxB_len]; omega) fun _ h3 w3 => ?_
    replace w3 := (show WR _ _ 3 (msB m) from by rw [er]; simpa only [List.append_assoc, List.cons_append, fsB] using w3)
    obtain ⟨v, e0, ver, hb1, ho⟩ := w3.out
    rcases ho with ⟨_, hnil⟩ | ⟨c0, e', ver', rfl, _, _, _, hc6⟩
    · exact absurd hnil (msB_ne _)
    have k1 := (w3.keep _ hm1).2.2
    simp only at k1
    by_cases hlen : (msB m).length ≤ 16384
    · have c8 : ¬ (16384 : Int) < ((msB m).length : Int) := by omega
      simp only [a1, a4, a6, k1, hb1, c8, RX, VOp.fresh, bxC, bsC, un, most, callsOf, seval, Int.reducePow, ↓reduceIte, Nat.reduceEqDiff, reduceCtorEq]
      rw [cvT_sl hc6 (List.length_map _), mb_bytes (By.ms m)]
      simp only [RX, VOp.fresh, bxC, bsC, un, most, callsOf, seval, Int.reducePow, ↓reduceIte, Nat.reduceEqDiff, reduceCtorEq]
      rw [msAns, if_pos hlen]
    · have c8 : (16384 : Int) < ((msB m).length : Int) := by omega
      simp only [a1, a4, a6, k1, hb1, c8, RX, VOp.fresh, bxC, bsC, un, most, callsOf, seval, Int.reducePow, ↓reduceIte, Nat.reduceEqDiff, reduceCtorEq]
      rw [msAns, if_neg hlen]
  · have hrow : rowV m.kind = .agg [.bool true, .bool false, .bool true, .bool false, .bool false] := by rw [ek]; rfl
    have er : msB m = 77 :: 83 :: (numB m.kind 1 ++ (numB m.frm 1 ++ (numB m.to 1 ++ (txB m.node m.seq ++ (bitB m.yes))))) := by
      have d1 : kTx m.kind = true := by rw [ek]; rfl
      have d2 : kOps m.kind = false := by rw [ek]; rfl
      have d3 : kYes m.kind = true := by rw [ek]; rfl
      have d4 : kQuery m.kind = false := by rw [ek]; rfl
      have d5 : kPart m.kind = false := by rw [ek]; rfl
      rw [msB, d1, d2, d3, d4, d5]
      simp only [if_true, Bool.false_eq_true, if_false, List.nil_append, List.append_nil, List.append_assoc]
    simp only [hrow, RW, ← hc, msC, RX, VOp.fresh, bxC, bsC, un, most, callsOf, seval, Int.reducePow, ↓reduceIte, Nat.reduceEqDiff, reduceCtorEq]
    refine head (row := [.bool true, .bool false, .bool true, .bool false, .bool false]) (by rfl) ?_ ?_ ?_ ?_ ?_ ?_ ?_ ?_ ?_ ?_
    · simp only [RX, VOp.fresh, bxC, bsC, un, most, callsOf, seval, Int.reducePow, ↓reduceIte, Nat.reduceEqDiff, reduceCtorEq]
    · simp only [RX, VOp.fresh, bxC, bsC, un, most, callsOf, seval, Int.reducePow, ↓reduceIte, Nat.reduceEqDiff, reduceCtorEq]
    · simp only [RX, VOp.fresh, bxC, bsC, un, most, callsOf, seval, Int.reducePow, ↓reduceIte, Nat.reduceEqDiff, reduceCtorEq]
    · simp only [← hc, msC, RX, VOp.fresh, bxC, bsC, un, most, callsOf, seval, Int.reducePow, ↓reduceIte, Nat.reduceEqDiff, reduceCtorEq]
    · simp only [sg_set, Nat.reduceEqDiff, ↓reduceIte]
    · simp only [sg_set, Nat.reduceEqDiff, ↓reduceIte]
    · simp only [sg_set, Nat.reduceEqDiff, ↓reduceIte]
    · simp only [sg_set, Nat.reduceEqDiff, ↓reduceIte]
    · simp only [sg_set, Nat.reduceEqDiff, ↓reduceIte]
    intro s' h1 w1 a1 a4 a6
    have hm1 : ((1, .cells [.bool true, .bool false, .bool true, .bool false, .bool false] 132 1) : Nat × Blk) ∈ [((1, .cells [.bool true, .bool false, .bool true, .bool false, .bool false] 132 1) : Nat × Blk), (0, .cells c 63 0)] := List.mem_cons_self
    have hm0 : ((0, .cells c 63 0) : Nat × Blk) ∈ [((1, .cells [.bool true, .bool false, .bool true, .bool false, .bool false] 132 1) : Nat × Blk), (0, .cells c 63 0)] := List.mem_cons_of_mem _ List.mem_cons_self
    rw [← hc] at w1 hm0 hm1
    have k0 := (w1.keep _ hm0).2.2
    have k1 := (w1.keep _ hm1).2.2
    simp only [msC] at k0 k1
    simp only [a1, a4, a6, k0, k1, ha.len, hu.len, RX, VOp.fresh, bxC, bsC, un, most, callsOf, seval, Int.reducePow, ↓reduceIte, Nat.reduceEqDiff, reduceCtorEq]
    refine wname g w1 (by simp only [List.length_cons, List.length_append, numB_len, txB, bitB, boxB_len]; omega) fun _ h2 w2 => ?_
    have k0 := (w2.keep _ hm0).2.2
    have k1 := (w2.keep _ hm1).2.2
    simp only [msC] at k0 k1
    simp only [a1, a4, a6, k0, k1, ha.len, hu.len, RX, VOp.fresh, bxC, bsC, un, most, callsOf, seval, Int.reducePow, ↓reduceIte, Nat.reduceEqDiff, reduceCtorEq]
    refine wbool g w2 (by simp only [List.length_cons, List.length_append, numB_len, txB, bitB, boxB_len]; omega) fun _ h3 w3 => ?_
    replace w3 := (show WR _ _ 3 (msB m) from by rw [er]; simpa only [List.append_assoc, List.cons_append, fsB] using w3)
    obtain ⟨v, e0, ver, hb1, ho⟩ := w3.out
    rcases ho with ⟨_, hnil⟩ | ⟨c0, e', ver', rfl, _, _, _, hc6⟩
    · exact absurd hnil (msB_ne _)
    have k1 := (w3.keep _ hm1).2.2
    simp only at k1
    by_cases hlen : (msB m).length ≤ 16384
    · have c8 : ¬ (16384 : Int) < ((msB m).length : Int) := by omega
      simp only [a1, a4, a6, k1, hb1, c8, RX, VOp.fresh, bxC, bsC, un, most, callsOf, seval, Int.reducePow, ↓reduceIte, Nat.reduceEqDiff, reduceCtorEq]
      rw [cvT_sl hc6 (List.length_map _), mb_bytes (By.ms m)]
      simp only [RX, VOp.fresh, bxC, bsC, un, most, callsOf, seval, Int.reducePow, ↓reduceIte, Nat.reduceEqDiff, reduceCtorEq]
      rw [msAns, if_pos hlen]
    · have c8 : (16384 : Int) < ((msB m).length : Int) := by omega
      simp only [a1, a4, a6, k1, hb1, c8, RX, VOp.fresh, bxC, bsC, un, most, callsOf, seval, Int.reducePow, ↓reduceIte, Nat.reduceEqDiff, reduceCtorEq]
      rw [msAns, if_neg hlen]
  · have hrow : rowV m.kind = .agg [.bool true, .bool false, .bool false, .bool false, .bool false] := by rw [ek]; rfl
    have er : msB m = 77 :: 83 :: (numB m.kind 1 ++ (numB m.frm 1 ++ (numB m.to 1 ++ (txB m.node m.seq)))) := by
      have d1 : kTx m.kind = true := by rw [ek]; rfl
      have d2 : kOps m.kind = false := by rw [ek]; rfl
      have d3 : kYes m.kind = false := by rw [ek]; rfl
      have d4 : kQuery m.kind = false := by rw [ek]; rfl
      have d5 : kPart m.kind = false := by rw [ek]; rfl
      rw [msB, d1, d2, d3, d4, d5]
      simp only [if_true, Bool.false_eq_true, if_false, List.nil_append, List.append_nil, List.append_assoc]
    simp only [hrow, RW, ← hc, msC, RX, VOp.fresh, bxC, bsC, un, most, callsOf, seval, Int.reducePow, ↓reduceIte, Nat.reduceEqDiff, reduceCtorEq]
    refine head (row := [.bool true, .bool false, .bool false, .bool false, .bool false]) (by rfl) ?_ ?_ ?_ ?_ ?_ ?_ ?_ ?_ ?_ ?_
    · simp only [RX, VOp.fresh, bxC, bsC, un, most, callsOf, seval, Int.reducePow, ↓reduceIte, Nat.reduceEqDiff, reduceCtorEq]
    · simp only [RX, VOp.fresh, bxC, bsC, un, most, callsOf, seval, Int.reducePow, ↓reduceIte, Nat.reduceEqDiff, reduceCtorEq]
    · simp only [RX, VOp.fresh, bxC, bsC, un, most, callsOf, seval, Int.reducePow, ↓reduceIte, Nat.reduceEqDiff, reduceCtorEq]
    · simp only [← hc, msC, RX, VOp.fresh, bxC, bsC, un, most, callsOf, seval, Int.reducePow, ↓reduceIte, Nat.reduceEqDiff, reduceCtorEq]
    · simp only [sg_set, Nat.reduceEqDiff, ↓reduceIte]
    · simp only [sg_set, Nat.reduceEqDiff, ↓reduceIte]
    · simp only [sg_set, Nat.reduceEqDiff, ↓reduceIte]
    · simp only [sg_set, Nat.reduceEqDiff, ↓reduceIte]
    · simp only [sg_set, Nat.reduceEqDiff, ↓reduceIte]
    intro s' h1 w1 a1 a4 a6
    have hm1 : ((1, .cells [.bool true, .bool false, .bool false, .bool false, .bool false] 132 1) : Nat × Blk) ∈ [((1, .cells [.bool true, .bool false, .bool false, .bool false, .bool false] 132 1) : Nat × Blk), (0, .cells c 63 0)] := List.mem_cons_self
    have hm0 : ((0, .cells c 63 0) : Nat × Blk) ∈ [((1, .cells [.bool true, .bool false, .bool false, .bool false, .bool false] 132 1) : Nat × Blk), (0, .cells c 63 0)] := List.mem_cons_of_mem _ List.mem_cons_self
    rw [← hc] at w1 hm0 hm1
    have k0 := (w1.keep _ hm0).2.2
    have k1 := (w1.keep _ hm1).2.2
    simp only [msC] at k0 k1
    simp only [a1, a4, a6, k0, k1, ha.len, hu.len, RX, VOp.fresh, bxC, bsC, un, most, callsOf, seval, Int.reducePow, ↓reduceIte, Nat.reduceEqDiff, reduceCtorEq]
    refine wname g w1 (by simp only [List.length_cons, List.length_append, numB_len, txB, bitB, boxB_len]; omega) fun _ h2 w2 => ?_
    replace w2 := (show WR _ _ 3 (msB m) from by rw [er]; simpa only [List.append_assoc, List.cons_append, fsB] using w2)
    obtain ⟨v, e0, ver, hb1, ho⟩ := w2.out
    rcases ho with ⟨_, hnil⟩ | ⟨c0, e', ver', rfl, _, _, _, hc6⟩
    · exact absurd hnil (msB_ne _)
    have k1 := (w2.keep _ hm1).2.2
    simp only at k1
    by_cases hlen : (msB m).length ≤ 16384
    · have c8 : ¬ (16384 : Int) < ((msB m).length : Int) := by omega
      simp only [a1, a4, a6, k1, hb1, c8, RX, VOp.fresh, bxC, bsC, un, most, callsOf, seval, Int.reducePow, ↓reduceIte, Nat.reduceEqDiff, reduceCtorEq]
      rw [cvT_sl hc6 (List.length_map _), mb_bytes (By.ms m)]
      simp only [RX, VOp.fresh, bxC, bsC, un, most, callsOf, seval, Int.reducePow, ↓reduceIte, Nat.reduceEqDiff, reduceCtorEq]
      rw [msAns, if_pos hlen]
    · have c8 : (16384 : Int) < ((msB m).length : Int) := by omega
      simp only [a1, a4, a6, k1, hb1, c8, RX, VOp.fresh, bxC, bsC, un, most, callsOf, seval, Int.reducePow, ↓reduceIte, Nat.reduceEqDiff, reduceCtorEq]
      rw [msAns, if_neg hlen]
  · have hrow : rowV m.kind = .agg [.bool true, .bool false, .bool false, .bool false, .bool false] := by rw [ek]; rfl
    have er : msB m = 77 :: 83 :: (numB m.kind 1 ++ (numB m.frm 1 ++ (numB m.to 1 ++ (txB m.node m.seq)))) := by
      have d1 : kTx m.kind = true := by rw [ek]; rfl
      have d2 : kOps m.kind = false := by rw [ek]; rfl
      have d3 : kYes m.kind = false := by rw [ek]; rfl
      have d4 : kQuery m.kind = false := by rw [ek]; rfl
      have d5 : kPart m.kind = false := by rw [ek]; rfl
      rw [msB, d1, d2, d3, d4, d5]
      simp only [if_true, Bool.false_eq_true, if_false, List.nil_append, List.append_nil, List.append_assoc]
    simp only [hrow, RW, ← hc, msC, RX, VOp.fresh, bxC, bsC, un, most, callsOf, seval, Int.reducePow, ↓reduceIte, Nat.reduceEqDiff, reduceCtorEq]
    refine head (row := [.bool true, .bool false, .bool false, .bool false, .bool false]) (by rfl) ?_ ?_ ?_ ?_ ?_ ?_ ?_ ?_ ?_ ?_
    · simp only [RX, VOp.fresh, bxC, bsC, un, most, callsOf, seval, Int.reducePow, ↓reduceIte, Nat.reduceEqDiff, reduceCtorEq]
    · simp only [RX, VOp.fresh, bxC, bsC, un, most, callsOf, seval, Int.reducePow, ↓reduceIte, Nat.reduceEqDiff, reduceCtorEq]
    · simp only [RX, VOp.fresh, bxC, bsC, un, most, callsOf, seval, Int.reducePow, ↓reduceIte, Nat.reduceEqDiff, reduceCtorEq]
    · simp only [← hc, msC, RX, VOp.fresh, bxC, bsC, un, most, callsOf, seval, Int.reducePow, ↓reduceIte, Nat.reduceEqDiff, reduceCtorEq]
    · simp only [sg_set, Nat.reduceEqDiff, ↓reduceIte]
    · simp only [sg_set, Nat.reduceEqDiff, ↓reduceIte]
    · simp only [sg_set, Nat.reduceEqDiff, ↓reduceIte]
    · simp only [sg_set, Nat.reduceEqDiff, ↓reduceIte]
    · simp only [sg_set, Nat.reduceEqDiff, ↓reduceIte]
    intro s' h1 w1 a1 a4 a6
    have hm1 : ((1, .cells [.bool true, .bool false, .bool false, .bool false, .bool false] 132 1) : Nat × Blk) ∈ [((1, .cells [.bool true, .bool false, .bool false, .bool false, .bool false] 132 1) : Nat × Blk), (0, .cells c 63 0)] := List.mem_cons_self
    have hm0 : ((0, .cells c 63 0) : Nat × Blk) ∈ [((1, .cells [.bool true, .bool false, .bool false, .bool false, .bool false] 132 1) : Nat × Blk), (0, .cells c 63 0)] := List.mem_cons_of_mem _ List.mem_cons_self
    rw [← hc] at w1 hm0 hm1
    have k0 := (w1.keep _ hm0).2.2
    have k1 := (w1.keep _ hm1).2.2
    simp only [msC] at k0 k1
    simp only [a1, a4, a6, k0, k1, ha.len, hu.len, RX, VOp.fresh, bxC, bsC, un, most, callsOf, seval, Int.reducePow, ↓reduceIte, Nat.reduceEqDiff, reduceCtorEq]
    refine wname g w1 (by simp only [List.length_cons, List.length_append, numB_len, txB, bitB, boxB_len]; omega) fun _ h2 w2 => ?_
    replace w2 := (show WR _ _ 3 (msB m) from by rw [er]; simpa only [List.append_assoc, List.cons_append, fsB] using w2)
    obtain ⟨v, e0, ver, hb1, ho⟩ := w2.out
    rcases ho with ⟨_, hnil⟩ | ⟨c0, e', ver', rfl, _, _, _, hc6⟩
    · exact absurd hnil (msB_ne _)
    have k1 := (w2.keep _ hm1).2.2
    simp only at k1
    by_cases hlen : (msB m).length ≤ 16384
    · have c8 : ¬ (16384 : Int) < ((msB m).length : Int) := by omega
      simp only [a1, a4, a6, k1, hb1, c8, RX, VOp.fresh, bxC, bsC, un, most, callsOf, seval, Int.reducePow, ↓reduceIte, Nat.reduceEqDiff, reduceCtorEq]
      rw [cvT_sl hc6 (List.length_map _), mb_bytes (By.ms m)]
      simp only [RX, VOp.fresh, bxC, bsC, un, most, callsOf, seval, Int.reducePow, ↓reduceIte, Nat.reduceEqDiff, reduceCtorEq]
      rw [msAns, if_pos hlen]
    · have c8 : (16384 : Int) < ((msB m).length : Int) := by omega
      simp only [a1, a4, a6, k1, hb1, c8, RX, VOp.fresh, bxC, bsC, un, most, callsOf, seval, Int.reducePow, ↓reduceIte, Nat.reduceEqDiff, reduceCtorEq]
      rw [msAns, if_neg hlen]
  · have hrow : rowV m.kind = .agg [.bool false, .bool false, .bool false, .bool true, .bool false] := by rw [ek]; rfl
    have er : msB m = 77 :: 83 :: (numB m.kind 1 ++ (numB m.frm 1 ++ (numB m.to 1 ++ (numB m.query 2 ++ (boxB m.box))))) := by
      have d1 : kTx m.kind = false := by rw [ek]; rfl
      have d2 : kOps m.kind = false := by rw [ek]; rfl
      have d3 : kYes m.kind = false := by rw [ek]; rfl
      have d4 : kQuery m.kind = true := by rw [ek]; rfl
      have d5 : kPart m.kind = false := by rw [ek]; rfl
      rw [msB, d1, d2, d3, d4, d5]
      simp only [if_true, Bool.false_eq_true, if_false, List.nil_append, List.append_nil, List.append_assoc]
    simp only [hrow, RW, ← hc, msC, RX, VOp.fresh, bxC, bsC, un, most, callsOf, seval, Int.reducePow, ↓reduceIte, Nat.reduceEqDiff, reduceCtorEq]
    refine head (row := [.bool false, .bool false, .bool false, .bool true, .bool false]) (by rfl) ?_ ?_ ?_ ?_ ?_ ?_ ?_ ?_ ?_ ?_
    · simp only [RX, VOp.fresh, bxC, bsC, un, most, callsOf, seval, Int.reducePow, ↓reduceIte, Nat.reduceEqDiff, reduceCtorEq]
    · simp only [RX, VOp.fresh, bxC, bsC, un, most, callsOf, seval, Int.reducePow, ↓reduceIte, Nat.reduceEqDiff, reduceCtorEq]
    · simp only [RX, VOp.fresh, bxC, bsC, un, most, callsOf, seval, Int.reducePow, ↓reduceIte, Nat.reduceEqDiff, reduceCtorEq]
    · simp only [← hc, msC, RX, VOp.fresh, bxC, bsC, un, most, callsOf, seval, Int.reducePow, ↓reduceIte, Nat.reduceEqDiff, reduceCtorEq]
    · simp only [sg_set, Nat.reduceEqDiff, ↓reduceIte]
    · simp only [sg_set, Nat.reduceEqDiff, ↓reduceIte]
    · simp only [sg_set, Nat.reduceEqDiff, ↓reduceIte]
    · simp only [sg_set, Nat.reduceEqDiff, ↓reduceIte]
    · simp only [sg_set, Nat.reduceEqDiff, ↓reduceIte]
    intro s' h1 w1 a1 a4 a6
    have hm1 : ((1, .cells [.bool false, .bool false, .bool false, .bool true, .bool false] 132 1) : Nat × Blk) ∈ [((1, .cells [.bool false, .bool false, .bool false, .bool true, .bool false] 132 1) : Nat × Blk), (0, .cells c 63 0)] := List.mem_cons_self
    have hm0 : ((0, .cells c 63 0) : Nat × Blk) ∈ [((1, .cells [.bool false, .bool false, .bool false, .bool true, .bool false] 132 1) : Nat × Blk), (0, .cells c 63 0)] := List.mem_cons_of_mem _ List.mem_cons_self
    rw [← hc] at w1 hm0 hm1
    have k0 := (w1.keep _ hm0).2.2
    have k1 := (w1.keep _ hm1).2.2
    simp only [msC] at k0 k1
    simp only [a1, a4, a6, k0, k1, ha.len, hu.len, RX, VOp.fresh, bxC, bsC, un, most, callsOf, seval, Int.reducePow, ↓reduceIte, Nat.reduceEqDiff, reduceCtorEq]
    refine wnum (n := 2) g (num2_pu g _) (by decide) w1 (by simp only [List.length_cons, List.length_append, numB_len, txB, bitB, boxB_len]; omega) fun _ h2 w2 => ?_
    have k0 := (w2.keep _ hm0).2.2
    have k1 := (w2.keep _ hm1).2.2
    simp only [msC] at k0 k1
    simp only [a1, a4, a6, k0, k1, ha.len, hu.len, RX, VOp.fresh, bxC, bsC, un, most, callsOf, seval, Int.reducePow, ↓reduceIte, Nat.reduceEqDiff, reduceCtorEq]
    refine wbox g m.box w2 (by simp only [List.length_cons, List.length_append, numB_len, txB, bitB, boxB_len]; omega) fun _ h3 w3 => ?_
    replace w3 := (show WR _ _ 3 (msB m) from by rw [er]; simpa only [List.append_assoc, List.cons_append, fsB] using w3)
    obtain ⟨v, e0, ver, hb1, ho⟩ := w3.out
    rcases ho with ⟨_, hnil⟩ | ⟨c0, e', ver', rfl, _, _, _, hc6⟩
    · exact absurd hnil (msB_ne _)
    have k1 := (w3.keep _ hm1).2.2
    simp only at k1
    by_cases hlen : (msB m).length ≤ 16384
    · have c8 : ¬ (16384 : Int) < ((msB m).length : Int) := by omega
      simp only [a1, a4, a6, k1, hb1, c8, RX, VOp.fresh, bxC, bsC, un, most, callsOf, seval, Int.reducePow, ↓reduceIte, Nat.reduceEqDiff, reduceCtorEq]
      rw [cvT_sl hc6 (List.length_map _), mb_bytes (By.ms m)]
      simp only [RX, VOp.fresh, bxC, bsC, un, most, callsOf, seval, Int.reducePow, ↓reduceIte, Nat.reduceEqDiff, reduceCtorEq]
      rw [msAns, if_pos hlen]
    · have c8 : (16384 : Int) < ((msB m).length : Int) := by omega
      simp only [a1, a4, a6, k1, hb1, c8, RX, VOp.fresh, bxC, bsC, un, most, callsOf, seval, Int.reducePow, ↓reduceIte, Nat.reduceEqDiff, reduceCtorEq]
      rw [msAns, if_neg hlen]
  · have hrow : rowV m.kind = .agg [.bool false, .bool false, .bool false, .bool true, .bool true] := by rw [ek]; rfl
    have er : msB m = 77 :: 83 :: (numB m.kind 1 ++ (numB m.frm 1 ++ (numB m.to 1 ++ (numB m.query 2 ++ (boxB m.box ++ (numB m.applied 4 ++ (bitB m.busy ++ (fsB m.fs)))))))) := by
      have d1 : kTx m.kind = false := by rw [ek]; rfl
      have d2 : kOps m.kind = false := by rw [ek]; rfl
      have d3 : kYes m.kind = false := by rw [ek]; rfl
      have d4 : kQuery m.kind = true := by rw [ek]; rfl
      have d5 : kPart m.kind = true := by rw [ek]; rfl
      rw [msB, d1, d2, d3, d4, d5]
      simp only [if_true, Bool.false_eq_true, if_false, List.nil_append, List.append_nil, List.append_assoc]
    simp only [hrow, RW, ← hc, msC, RX, VOp.fresh, bxC, bsC, un, most, callsOf, seval, Int.reducePow, ↓reduceIte, Nat.reduceEqDiff, reduceCtorEq]
    refine head (row := [.bool false, .bool false, .bool false, .bool true, .bool true]) (by rfl) ?_ ?_ ?_ ?_ ?_ ?_ ?_ ?_ ?_ ?_
    · simp only [RX, VOp.fresh, bxC, bsC, un, most, callsOf, seval, Int.reducePow, ↓reduceIte, Nat.reduceEqDiff, reduceCtorEq]
    · simp only [RX, VOp.fresh, bxC, bsC, un, most, callsOf, seval, Int.reducePow, ↓reduceIte, Nat.reduceEqDiff, reduceCtorEq]
    · simp only [RX, VOp.fresh, bxC, bsC, un, most, callsOf, seval, Int.reducePow, ↓reduceIte, Nat.reduceEqDiff, reduceCtorEq]
    · simp only [← hc, msC, RX, VOp.fresh, bxC, bsC, un, most, callsOf, seval, Int.reducePow, ↓reduceIte, Nat.reduceEqDiff, reduceCtorEq]
    · simp only [sg_set, Nat.reduceEqDiff, ↓reduceIte]
    · simp only [sg_set, Nat.reduceEqDiff, ↓reduceIte]
    · simp only [sg_set, Nat.reduceEqDiff, ↓reduceIte]
    · simp only [sg_set, Nat.reduceEqDiff, ↓reduceIte]
    · simp only [sg_set, Nat.reduceEqDiff, ↓reduceIte]
    intro s' h1 w1 a1 a4 a6
    have hm1 : ((1, .cells [.bool false, .bool false, .bool false, .bool true, .bool true] 132 1) : Nat × Blk) ∈ [((1, .cells [.bool false, .bool false, .bool false, .bool true, .bool true] 132 1) : Nat × Blk), (0, .cells c 63 0)] := List.mem_cons_self
    have hm0 : ((0, .cells c 63 0) : Nat × Blk) ∈ [((1, .cells [.bool false, .bool false, .bool false, .bool true, .bool true] 132 1) : Nat × Blk), (0, .cells c 63 0)] := List.mem_cons_of_mem _ List.mem_cons_self
    rw [← hc] at w1 hm0 hm1
    have k0 := (w1.keep _ hm0).2.2
    have k1 := (w1.keep _ hm1).2.2
    simp only [msC] at k0 k1
    simp only [a1, a4, a6, k0, k1, ha.len, hu.len, RX, VOp.fresh, bxC, bsC, un, most, callsOf, seval, Int.reducePow, ↓reduceIte, Nat.reduceEqDiff, reduceCtorEq]
    refine wnum (n := 2) g (num2_pu g _) (by decide) w1 (by simp only [List.length_cons, List.length_append, numB_len, txB, bitB, boxB_len]; omega) fun _ h2 w2 => ?_
    have k0 := (w2.keep _ hm0).2.2
    have k1 := (w2.keep _ hm1).2.2
    simp only [msC] at k0 k1
    simp only [a1, a4, a6, k0, k1, ha.len, hu.len, RX, VOp.fresh, bxC, bsC, un, most, callsOf, seval, Int.reducePow, ↓reduceIte, Nat.reduceEqDiff, reduceCtorEq]
    refine wbox g m.box w2 (by simp only [List.length_cons, List.length_append, numB_len, txB, bitB, boxB_len]; omega) fun _ h3 w3 => ?_
    have k0 := (w3.keep _ hm0).2.2
    have k1 := (w3.keep _ hm1).2.2
    simp only [msC] at k0 k1
    simp only [a1, a4, a6, k0, k1, ha.len, hu.len, RX, VOp.fresh, bxC, bsC, un, most, callsOf, seval, Int.reducePow, ↓reduceIte, Nat.reduceEqDiff, reduceCtorEq]
    refine wnum (n := 4) g (num4_pu g _) (by decide) w3 (by simp only [List.length_cons, List.length_append, numB_len, txB, bitB, boxB_len]; omega) fun _ h4 w4 => ?_
    have k0 := (w4.keep _ hm0).2.2
    have k1 := (w4.keep _ hm1).2.2
    simp only [msC] at k0 k1
    simp only [a1, a4, a6, k0, k1, ha.len, hu.len, RX, VOp.fresh, bxC, bsC, un, most, callsOf, seval, Int.reducePow, ↓reduceIte, Nat.reduceEqDiff, reduceCtorEq]
    refine wbool g w4 (by simp only [List.length_cons, List.length_append, numB_len, txB, bitB, boxB_len]; omega) fun _ h5 w5 => ?_
    have k0 := (w5.keep _ hm0).2.2
    have k1 := (w5.keep _ hm1).2.2
    simp only [msC] at k0 k1
    simp only [a1, a4, a6, k0, k1, ha.len, hu.len, RX, VOp.fresh, bxC, bsC, un, most, callsOf, seval, Int.reducePow, ↓reduceIte, Nat.reduceEqDiff, reduceCtorEq]
    refine wnum (n := 2) g (num2_pu g _) (by decide) w5 (by simp only [List.length_cons, List.length_append, numB_len, txB, bitB, boxB_len]; omega) fun _ h6 w6 => ?_
    have k0 := (w6.keep _ hm0).2.2
    have k1 := (w6.keep _ hm1).2.2
    simp only [msC] at k0 k1
    simp only [a1, a4, a6, k0, k1, ha.len, hu.len, RX, VOp.fresh, bxC, bsC, un, most, callsOf, seval, Int.reducePow, ↓reduceIte, Nat.reduceEqDiff, reduceCtorEq]
    have hpt' : (0 ≤ m.applied ∧ m.applied ≤ 2147483647) ∧ m.fs.length ≤ 256 ∧ (m.busy = true → m.fs = []) ∧ featsOk m.fs := by simpa only [partM, ek, kPart, decide_true, if_true] using hpt
    refine wfs g hu (fsSmall hpt'.2.2.2) (by omega) hm0 _ ?_ m.fs.length 0 _ _ _ _ (by omega) (by simpa using w6) ?_ ?_ ?_ ?_ ?_
    · simp only [List.length_cons, List.length_append, numB_len, bitB, boxB_len]; omega
    · simp only [a1, sg_set, Nat.reduceEqDiff, ↓reduceIte]
    · simp only [a6, sg_set, Nat.reduceEqDiff, ↓reduceIte]
    · simp only [sg_set, Nat.reduceEqDiff, ↓reduceIte]
    · simp only [sg_set, Nat.reduceEqDiff, ↓reduceIte]
      rfl
    intro s'' h7 w7 a6' 
    replace w7 := (show WR _ _ 3 (msB m) from by rw [er]; simpa only [List.append_assoc, List.cons_append, fsB] using w7)
    obtain ⟨v, e0, ver, hb1, ho⟩ := w7.out
    rcases ho with ⟨_, hnil⟩ | ⟨c0, e', ver', rfl, _, _, _, hc6⟩
    · exact absurd hnil (msB_ne _)
    have k1 := (w7.keep _ hm1).2.2
    simp only at k1
    have a6 := a6' 
    by_cases hlen : (msB m).length ≤ 16384
    · have c8 : ¬ (16384 : Int) < ((msB m).length : Int) := by omega
      simp only [a1, a4, a6, k1, hb1, c8, RX, VOp.fresh, bxC, bsC, un, most, callsOf, seval, Int.reducePow, ↓reduceIte, Nat.reduceEqDiff, reduceCtorEq]
      rw [cvT_sl hc6 (List.length_map _), mb_bytes (By.ms m)]
      simp only [RX, VOp.fresh, bxC, bsC, un, most, callsOf, seval, Int.reducePow, ↓reduceIte, Nat.reduceEqDiff, reduceCtorEq]
      rw [msAns, if_pos hlen]
    · have c8 : (16384 : Int) < ((msB m).length : Int) := by omega
      simp only [a1, a4, a6, k1, hb1, c8, RX, VOp.fresh, bxC, bsC, un, most, callsOf, seval, Int.reducePow, ↓reduceIte, Nat.reduceEqDiff, reduceCtorEq]
      rw [msAns, if_neg hlen]
end
end Go.Proofs.Ytinonmcnofjeeaa.VM
namespace Go.Proofs.Ytinonmcnofjeeaa.VM
attribute [local irreducible] Af Nx EvO Ev Un Gd Cd EvR EvQ EvC Nc Gc Lp EvM NxM AfM GdM EvMR EvMQ EvMD EvMC Nm Gm
section
variable {P : Program}
theorem cp_feats (g : Pg P tab) {os : List Feat} {w : AV} (hw : IsL 40 RFeat w os) {N0 : Nat} (n : Nat) :
    ∀ (i : Nat) (tc : List AV) (s : T AV) (h : Heap) (k : List Fr) (Q : Ex → T AV → Heap → Prop), i + n = os.length → N0 ≤ h.next → LR h (N0 ≤ ·) (sg s 3) 3 tc i → Cat RFeat (os.take i) tc →
    sg s 0 = w → sg s 4 = .int .i64 i →
    (∀ s' h' tc', LR h' (N0 ≤ ·) (sg s' 3) 3 tc' os.length → Cat RFeat os tc' → (∀ b, b < N0 → h'.get b = h.get b) → N0 ≤ h'.next → Un P k Q (.exit 0) s' h') → Lp P b24_0 s h (Un P k Q) := by
  have hbd := hw.bound (by decide)
  induction n with
  | zero =>
    intro i tc s h k Q hi hh r hc h0 h4 hQ
    refine g.lpe b24_0.eq_1 ?_
    have c1 : ¬ ((i : Int) < (os.length : Int)) := by omega
    simp only [h0, h4, hw.len, c1, RX, VOp.fresh, bxC, bsC, un, most, callsOf, seval, Int.reducePow, ↓reduceIte, Nat.reduceEqDiff, reduceCtorEq]
    have hi' : i = os.length := by omega
    subst hi'
    rw [List.take_length] at hc
    refine hQ _ _ _ ?_ hc (fun _ _ => rfl) hh
    simp only [sg_set, Nat.reduceEqDiff, ↓reduceIte]
    exact r
  | succ n ih =>
    intro i tc s h k Q hi hh r hc h0 h4 hQ
    refine g.lpe b24_0.eq_1 ?_
    have c1 : ((i : Int) < (os.length : Int)) := by omega
    have w1 : IntKind.i64.wrap ((i : Int) + 1) = ((i + 1 : Nat) : Int) := by rw [w64 (by omega) (by omega)]; push_cast; rfl
    have hm40 : (i + 1) * 40 ≤ most2 := by have := hw.1; rw [reach_eq] at this; unfold most2; omega
    obtain ⟨ci, rr, ⟨va, rfl, i1, i2, i3⟩, hat⟩ := hw.at zFeat i (by omega)
    simp only [h0, h4, hw.len, c1, hat, RX, VOp.fresh, bxC, bsC, un, most, callsOf, seval, Int.reducePow, ↓reduceIte, Nat.reduceEqDiff, reduceCtorEq]
    refine copyFeat_cl g (f := os[i]) ⟨_, rfl, i1, i2, i3⟩ fun c1' t1 h1 lv1 is1 ln1 on1 e1 => ?_
    obtain ⟨x1, x2, x3, rfl⟩ := len3 ln1
    have on1' := on1
    simp only [List.all_cons, List.all_nil, Bool.and_true, Bool.and_eq_true] at on1'
    obtain ⟨o1, o2, o3⟩ := on1'
    have em := Ext.mk (h := h1) (.cells [x1, x2, x3] 52 0)
    have nb : (h1.mk' h1.next (.cells [x1, x2, x3] 52 0)).next = h1.next + 1 := by rw [mk_next]; omega
    have hlt := r.lt
    have e11 := e1.1
    have r2 : LR h1 (N0 ≤ ·) (sg s 3) 3 tc i := r.frame e1.1 fun b _ hb => e1.2 b hb
    have a1 : Lvs (h1.mk' h1.next (.cells [x1, x2, x3] 52 0)) (fun b => N0 ≤ b ∧ b ∉ blkOf (sg s 3)) [x1, x2, x3] t1 :=
      (lv1.frame em.1 fun b _ hb => em.2 b hb).weak fun b hb _ => ⟨by omega, fun hc => by have := hlt b hc; omega⟩
    obtain ⟨H3, p3, r3, n3, k3⟩ := (r2.frame em.1 fun b _ hb => em.2 b hb).push (nb := h1.next) (eb := 52) (vb := 0) (c := [x1, x2, x3]) (by rw [Heap.get_mk, if_pos rfl]) rfl on1 a1 (by rw [nb]; omega) (bytes := 40) hm40 52
    rw [nb] at p3 r3 n3 k3
    have hv := r2.inB
    have kk3 : ∀ b, b < N0 → H3.get b = h.get b := fun b hb => (k3 b (fun hc => by have := hv b hc; omega) (by omega)).trans ((em.2 b (by omega)).trans (e1.2 b (by omega)))
    simp only [h0, h4, o1, o2, o3, p3, w1, RW, RX, VOp.fresh, bxC, bsC, un, most, callsOf, seval, Int.reducePow, ↓reduceIte, Nat.reduceEqDiff, reduceCtorEq]
    refine ih (i + 1) (tc ++ _) _ H3 k Q (by omega) (by omega) ?_ (hc.take (by omega) is1) ?_ ?_ ?_
    · simp only [sg_set, Nat.reduceEqDiff, ↓reduceIte]
      exact r3
    · simp only [h0, sg_set, Nat.reduceEqDiff, ↓reduceIte]
    · simp only [sg_set, Nat.reduceEqDiff, ↓reduceIte]
    · intro s' h' tc' q1 q2 q3 q4
      exact hQ s' h' tc' q1 q2 (fun b hb => (q3 b hb).trans (kk3 b hb)) q4
theorem copyFeats_cl (g : Pg P tab) {os : List Feat} {w : AV} (hw : IsL 40 RFeat w os) {h : Heap} {Q : AV → Heap → Prop}
    (q : ∀ v t h', Lv h' (h.next ≤ ·) v t → IsL 40 RFeat t os → v.cells = some [v] → v.one = true → Ext h h' → Q v h') : Cl P 24 [w] h Q := by
  refine g.cl (vf := v24) rfl rfl ?_
  simp only [v24, RX, VOp.fresh, bxC, bsC, un, most, callsOf, seval, Int.reducePow, ↓reduceIte, Nat.reduceEqDiff, reduceCtorEq]
  refine cp_feats g hw (N0 := h.next) os.length 0 [] _ h _ _ (by omega) (Nat.le_refl _) ?_ .nil ?_ ?_ ?_
  · simp only [sg_set, Nat.reduceEqDiff, ↓reduceIte]
    exact .nil _ _ _
  · simp only [sg_set, Nat.reduceEqDiff, ↓reduceIte]
  · simp only [sg_set, Nat.reduceEqDiff, ↓reduceIte]
    rfl
  intro s' h' tc r hc hk hn
  simp only [RX, VOp.fresh, bxC, bsC, un, most, callsOf, seval, Int.reducePow, ↓reduceIte, Nat.reduceEqDiff, reduceCtorEq]
  exact q _ (cRow tc os.length) _ r.lv (row_isL hw.1 hc) r.cells r.one ⟨hn, hk⟩
theorem sFeats_loop (g : Pg P tab) {l : List Feat} {a b : AV} (ha : IsL 40 RFeat a l) (hb : IsL 40 RFeat b l) (n : Nat) :
    ∀ (i : Nat) (s : T AV) (hh : Heap) (k : List Fr) (Q : Ex → T AV → Heap → Prop), i + n = l.length → sg s 0 = a → sg s 1 = b → sg s 5 = .int .i64 i → (∀ s' h', Un P k Q (.exit 0) s' h') → Lp P b81_0 s hh (Un P k Q) := by
  have hbd := ha.bound (by decide)
  induction n with
  | zero =>
    intro i s hh k Q hi h0 h1 h5 hK
    refine g.lpe b81_0.eq_1 ?_
    have c1 : ¬ ((i : Int) < (l.length : Int)) := by omega
    simp only [h0, h5, ha.len, c1, RX, VOp.fresh, bxC, bsC, un, most, callsOf, seval, Int.reducePow, ↓reduceIte, Nat.reduceEqDiff, reduceCtorEq]
    exact hK _ _
  | succ n ih =>
    intro i s hh k Q hi h0 h1 h5 hK
    refine g.lpe b81_0.eq_1 ?_
    have c1 : (i : Int) < (l.length : Int) := by omega
    obtain ⟨x1, r1, i4, i2, i3, _, g1⟩ := getFeat ha i (by omega)
    obtain ⟨y1, r2, k4, k2, k3, _, g2⟩ := getFeat hb i (by omega)
    have w1 : IntKind.i64.wrap ((i : Int) + 1) = ((i + 1 : Nat) : Int) := by rw [w64 (by omega) (by omega)]; push_cast; rfl
    simp only [h0, h1, h5, ha.len, c1, g1, g2, Bool.or_self, RX, VOp.fresh, bxC, bsC, un, most, callsOf, seval, Int.reducePow, ↓reduceIte, Nat.reduceEqDiff, reduceCtorEq]
    refine (sFeat_pu g (f := l.getD i feat0) ⟨_, rfl, i2, i3, i4⟩ ⟨_, rfl, k2, k3, k4⟩).go (by simp [AV.tolds, AV.told, i4.told tRing, k4.told tRing]) ?_
    rintro v rfl
    simp only [h0, h1, h5, w1, RX, VOp.fresh, bxC, bsC, un, most, callsOf, seval, Int.reducePow, ↓reduceIte, Nat.reduceEqDiff, reduceCtorEq]
    refine ih (i + 1) _ _ k Q (by omega) ?_ ?_ ?_ hK
    · simp only [h0, sg_set, Nat.reduceEqDiff, ↓reduceIte]
    · simp only [h1, sg_set, Nat.reduceEqDiff, ↓reduceIte]
    · simp only [sg_set, Nat.reduceEqDiff, ↓reduceIte]
theorem sFeats_pu (g : Pg P tab) {l : List Feat} {a b : AV} (ha : IsL 40 RFeat a l) (hb : IsL 40 RFeat b l) : Pu P 81 [a, b] (fun v => v = .bool true) := by
  refine g.pu (vf := v81) rfl rfl ?_
  simp only [v81, ha.len, hb.len, RX, VOp.fresh, bxC, bsC, un, most, callsOf, seval, Int.reducePow, ↓reduceIte, Nat.reduceEqDiff, reduceCtorEq]
  refine sFeats_loop g ha hb l.length 0 _ _ _ _ (by omega) ?_ ?_ ?_ fun s' h' => ?_
  · simp only [sg_set, Nat.reduceEqDiff, ↓reduceIte]
  · simp only [sg_set, Nat.reduceEqDiff, ↓reduceIte]
  · simp only [sg_set, Nat.reduceEqDiff, ↓reduceIte]
    rfl
  simp only [RX, VOp.fresh, bxC, bsC, un, most, callsOf, seval, Int.reducePow, ↓reduceIte, Nat.reduceEqDiff, reduceCtorEq]
theorem sMsg_pu (g : Pg P tab) {m : Ms} {a1 a2 b1 b2 : AV} (i1 : IsL 112 ROp a1 m.ops) (i2 : IsL 40 RFeat a2 m.fs) (k1 : IsL 112 ROp b1 m.ops) (k2 : IsL 40 RFeat b2 m.fs) : Pu P 29 [.agg (msC m a1 a2), .agg (msC m b1 b2)] (fun v => v = .bool true) := by
  refine g.pu (vf := v29) rfl rfl ?_
  have eb : ∀ b : Bool, eqv .bool (.bool b) (.bool b) = some true := fun b => by show some (b == b) = _; rw [beq_self_eq_true]
  simp only [v29, msC, flat2, flat4, eb, Option.map_some, RX, VOp.fresh, bxC, bsC, un, most, callsOf, seval, Int.reducePow, ↓reduceIte, Nat.reduceEqDiff, reduceCtorEq]
  refine (sOps_pu g i1 k1).go (by simp [AV.tolds, AV.told, i1.told tOp, k1.told tOp]) ?_
  rintro v rfl
  simp only [RX, VOp.fresh, bxC, bsC, un, most, callsOf, seval, Int.reducePow, ↓reduceIte, Nat.reduceEqDiff, reduceCtorEq]
  refine (sFeats_pu g i2 k2).go (by simp [AV.tolds, AV.told, i2.told tFeat, k2.told tFeat]) ?_
  rintro v rfl
  simp only [RX, VOp.fresh, bxC, bsC, un, most, callsOf, seval, Int.reducePow, ↓reduceIte, Nat.reduceEqDiff, reduceCtorEq]
theorem spMsgs_cl (g : Pg P tab) {B : Nat → Prop} {h : Heap} {nb e ver : Nat} {m : Ms} {u v : AV} (hg : h.get nb = some (.cells (msC m u v) e ver)) (hn : nb < h.next) (lu : LOps h B u) (lv : LFeats h B v) {Q : AV → Heap → Prop} (q : ∀ w h', Sim (fun c => B c ∨ c = nb) h h' → Q w h') : Cl P 30 [.sl nb 0 1 1 16] h Q := by
  refine g.cl (vf := v30) rfl rfl ?_
  simp only [v30, RX, VOp.fresh, bxC, bsC, un, most, callsOf, seval, Int.reducePow, ↓reduceIte, Nat.reduceEqDiff, reduceCtorEq]
  refine g.lpe b30_0.eq_1 ?_
  have a14 : At h nb 14 u := ⟨_, _, _, hg, rfl⟩
  have a15 : At h nb 15 v := ⟨_, _, _, hg, rfl⟩
  have a2 : AtI h nb 2 := ⟨m.to, _, _, _, hg, rfl⟩
  have l0 := a14.ld
  have c0 : 0 ≤ (0 : Int) ∧ (0 : Int) < 1 ∧ 16 = 16 := by decide
  simp only [l0, RX, VOp.fresh, bxC, bsC, un, most, callsOf, seval, Int.reducePow, ↓reduceIte, Nat.reduceEqDiff, reduceCtorEq]
  refine spOps_cl g lu fun _ h1 s1 => ?_
  have l1 := (a15.sim hn (by rintro m rfl; rcases lv with e | ⟨_, _, _, _, e, _⟩ <;> cases e) s1).ld
  simp only [l1, RX, VOp.fresh, bxC, bsC, un, most, callsOf, seval, Int.reducePow, ↓reduceIte, Nat.reduceEqDiff, reduceCtorEq]
  refine spFeats_cl g (lv.sim s1) fun _ h2 s2 => ?_
  have s12 := s1.trans s2
  obtain ⟨t, ta⟩ := a2.sim hn s12
  have l2 := ta.ld
  obtain ⟨h3, hw, s3⟩ := (a2.sim hn s12).st (B := fun c => B c ∨ c = nb) (.inr rfl) (bitsOf .xor .i64 t 90)
  have w1 : IntKind.i64.wrap ((0 : Int) + 1) = 1 := by decide
  simp only [l2, hw, w1, RX, VOp.fresh, bxC, bsC, un, most, callsOf, seval, Int.reducePow, ↓reduceIte, Nat.reduceEqDiff, reduceCtorEq]
  refine g.lpe b30_0.eq_1 ?_
  simp only [RX, VOp.fresh, bxC, bsC, un, most, callsOf, seval, Int.reducePow, ↓reduceIte, Nat.reduceEqDiff, reduceCtorEq]
  exact q _ _ ((s12.cut fun b hb _ => .inl hb).trans s3)
end
end Go.Proofs.Ytinonmcnofjeeaa.VM
namespace Go.Proofs.Ytinonmcnofjeeaa.VM
attribute [local irreducible] Af Nx EvO Ev Un Gd Cd EvR EvQ EvC Nc Gc Lp EvM NxM AfM GdM EvMR EvMQ EvMD EvMC Nm Gm
def rdTx (k : Int) (t : List Nat) : (Int × Int) × List Nat := if kTx k = true then (((rdN 1 t).1, (rdN 2 (rdN 1 t).2).1), (rdN 2 (rdN 1 t).2).2) else ((0, 0), t)
def rdBO (k : Int) (t : List Nat) : (Int × List Op) × List Nat := if kOps k = true then (((rdN 4 t).1 - 1, (rdOps (rdN 4 t).2).1), (rdOps (rdN 4 t).2).2) else ((0, []), t)
def rdY (k : Int) (t : List Nat) : Bool × List Nat := if kYes k = true then (decide ((rdN 1 t).1 = 1), (rdN 1 t).2) else (false, t)
def rdBx (t : List Nat) : Bx × List Nat :=
  let a := rdN 4 t; let b := rdN 4 a.2; let c := rdN 4 b.2; let d := rdN 4 c.2
  (⟨a.1, b.1, c.1, d.1⟩, d.2)
def rdQ (k : Int) (t : List Nat) : (Int × Bx) × List Nat := if kQuery k = true then (((rdN 2 t).1, (rdBx (rdN 2 t).2).1), (rdBx (rdN 2 t).2).2) else ((0, ⟨0, 0, 0, 0⟩), t)
def rdFs (t : List Nat) : List Feat × List Nat := rep rdFeat (min (rdN 2 t).1 257).toNat (rdN 2 t).2
def rdPa (k : Int) (t : List Nat) : (Int × Bool × List Feat) × List Nat :=
  if kPart k = true then (((rdN 4 t).1, decide ((rdN 1 (rdN 4 t).2).1 = 1), (rdFs (rdN 1 (rdN 4 t).2).2).1), (rdFs (rdN 1 (rdN 4 t).2).2).2) else ((0, false, []), t)
def rdMs (s : List Nat) : Ms :=
  let a := rdN 1 (s.drop 2); let b := rdN 1 a.2; let c := rdN 1 b.2
  let x := rdTx a.1 c.2; let o := rdBO a.1 x.2; let y := rdY a.1 o.2; let q := rdQ a.1 y.2; let p := rdPa a.1 q.2
  ⟨a.1, b.1, c.1, x.1.1, x.1.2, o.1.1, y.1, q.1.1, p.1.1, p.1.2.1, q.1.2, o.1.2, p.1.2.2⟩
theorem bit_dec (b : Bool) : decide ((if b = true then (1 : Int) else 0) = 1) = b := by cases b <;> decide
theorem rdBit_put (b : Bool) (t : List Nat) : rdN 1 (bitB b ++ t) = (if b = true then 1 else 0, t) := by
  cases b
  · exact rdN_put (by decide) (by decide) t
  · exact rdN_put (by decide) (by decide) t
theorem rdBx_put {b : Bx} (h : boxOk b) (t : List Nat) : rdBx (boxB b ++ t) = (b, t) := by
  obtain ⟨⟨a1, a2⟩, ⟨b1, b2⟩, ⟨c1, c2⟩, ⟨d1, d2⟩, _⟩ := h
  rw [rdBx, boxB]
  simp only [List.append_assoc]
  rw [rdN_put a1 (by omega)]
  simp only
  rw [rdN_put b1 (by omega)]
  simp only
  rw [rdN_put c1 (by omega)]
  simp only
  rw [rdN_put d1 (by omega)]
theorem rdFs_put {l : List Feat} (hl : l.length ≤ 256) (h : featsOk l) (t : List Nat) : rdFs (fsB l ++ t) = (l, t) := by
  rw [rdFs, fsB, List.append_assoc, rdN_put (by omega) (by omega)]
  simp only
  rw [show (min (l.length : Int) 257).toNat = l.length by omega]
  refine rep_put l t fun f hf t => ?_
  obtain ⟨i, hi, rfl⟩ := List.mem_iff_getElem.1 hf
  have := (h i hi).1
  rw [getD_feat hi] at this
  exact rdFeat_put this t
theorem rdMs_put {m : Ms} (h : msOk m) : rdMs (msB m) = m := by
  obtain ⟨⟨k0, k6⟩, ⟨f0, f7⟩, ⟨t0, t7⟩, htx, hy, ho, hq, hp⟩ := h
  have e1 : rdN 1 ((msB m).drop 2) = (m.kind, (msB m).drop 3) := by
    rw [msB, List.drop_succ_cons, List.drop_succ_cons, List.drop_zero, rdN_put k0 (by omega)]
    rw [List.drop_succ_cons, List.drop_succ_cons, List.drop_append_of_le_length (by rw [numB_len]; omega), List.drop_of_length_le (by rw [numB_len]; omega), List.nil_append]
  have e2 : (msB m).drop 3 = numB m.frm 1 ++ (numB m.to 1 ++ ((if kTx m.kind = true then txB m.node m.seq else []) ++ ((if kOps m.kind = true then numB (m.base + 1) 4 ++ opsB m.ops else []) ++
      ((if kYes m.kind = true then bitB m.yes else []) ++ ((if kQuery m.kind = true then numB m.query 2 ++ boxB m.box else []) ++ (if kPart m.kind = true then numB m.applied 4 ++ (bitB m.busy ++ fsB m.fs) else [])))))) := by
    rw [msB, List.drop_succ_cons, List.drop_succ_cons, List.drop_append_of_le_length (by rw [numB_len]; omega), List.drop_of_length_le (by rw [numB_len]; omega), List.nil_append]
  have x1 : ∀ t, rdTx m.kind ((if kTx m.kind = true then txB m.node m.seq else []) ++ t) = ((m.node, m.seq), t) := fun t => by
    unfold rdTx
    unfold txM at htx
    cases hk : kTx m.kind with
    | true =>
      rw [hk] at htx
      simp only [if_true] at htx ⊢
      obtain ⟨a, b, c, d⟩ := htx
      rw [txB, List.append_assoc, rdN_put a (by omega), rdN_put (by omega) (by omega)]
    | false =>
      rw [hk] at htx
      simp only [Bool.false_eq_true, if_false, List.nil_append] at htx ⊢
      rw [htx.1, htx.2]
  have x2 : ∀ t, rdBO m.kind ((if kOps m.kind = true then numB (m.base + 1) 4 ++ opsB m.ops else []) ++ t) = ((m.base, m.ops), t) := fun t => by
    unfold rdBO
    unfold opsM at ho
    cases hk : kOps m.kind with
    | true =>
      rw [hk] at ho
      simp only [if_true] at ho ⊢
      obtain ⟨⟨a, b⟩, c⟩ := ho
      rw [List.append_assoc, rdN_put (by omega) (by omega), rdOps_put c]
      simp only [Prod.mk.injEq, and_true]
      omega
    | false =>
      rw [hk] at ho
      simp only [Bool.false_eq_true, if_false, List.nil_append] at ho ⊢
      rw [ho.1, ho.2]
  have x3 : ∀ t, rdY m.kind ((if kYes m.kind = true then bitB m.yes else []) ++ t) = (m.yes, t) := fun t => by
    unfold rdY
    cases hk : kYes m.kind with
    | true =>
      simp only [if_true]
      rw [rdBit_put, bit_dec]
    | false =>
      rw [hk] at hy
      simp only [Bool.false_eq_true, if_false, List.nil_append, false_or] at hy ⊢
      rw [hy]
  have x4 : ∀ t, rdQ m.kind ((if kQuery m.kind = true then numB m.query 2 ++ boxB m.box else []) ++ t) = ((m.query, m.box), t) := fun t => by
    unfold rdQ
    unfold queryM at hq
    cases hk : kQuery m.kind with
    | true =>
      rw [hk] at hq
      simp only [if_true] at hq ⊢
      obtain ⟨⟨a, b⟩, c⟩ := hq
      rw [List.append_assoc, rdN_put (by omega) (by omega), rdBx_put c]
    | false =>
      rw [hk] at hq
      simp only [Bool.false_eq_true, if_false, List.nil_append] at hq ⊢
      obtain ⟨a, b1, b2, b3, b4⟩ := hq
      have : m.box = ⟨0, 0, 0, 0⟩ := by
        cases hb : m.box
        rw [hb] at b1 b2 b3 b4
        simp only at b1 b2 b3 b4
        rw [b1, b2, b3, b4]
      rw [a, this]
  have x5 : ∀ t, rdPa m.kind ((if kPart m.kind = true then numB m.applied 4 ++ (bitB m.busy ++ fsB m.fs) else []) ++ t) = ((m.applied, m.busy, m.fs), t) := fun t => by
    unfold rdPa
    unfold partM at hp
    cases hk : kPart m.kind with
    | true =>
      rw [hk] at hp
      simp only [if_true] at hp ⊢
      obtain ⟨⟨a, b⟩, c, _, d⟩ := hp
      simp only [List.append_assoc]
      rw [rdN_put a (by omega)]
      simp only
      rw [rdBit_put, bit_dec]
      simp only
      rw [rdFs_put c d]
    | false =>
      rw [hk] at hp
      simp only [Bool.false_eq_true, if_false, List.nil_append] at hp ⊢
      rw [hp.1, hp.2.1, hp.2.2]
  have x5' := x5 []
  rw [List.append_nil] at x5'
  rw [rdMs]
  simp only [e1]
  rw [e2, rdN_put f0 (by omega)]
  simp only
  rw [rdN_put t0 (by omega)]
  simp only [x1, x2, x3, x4, x5']
end Go.Proofs.Ytinonmcnofjeeaa.VM
namespace Go.Proofs.Ytinonmcnofjeeaa.VM
attribute [local irreducible] Af Nx EvO Ev Un Gd Cd EvR EvQ EvC Nc Gc Lp EvM NxM AfM GdM EvMR EvMQ EvMD EvMC Nm Gm
def cFeats (l : List Feat) : AV := cRow ((l.map cFeat).flatten) l.length
def featsSm (l : List Feat) : Prop := l.length ≤ 1000000 ∧ ∀ f ∈ l, featSm f
theorem cFeats_is {l : List Feat} (h : featsSm l) : IsL 40 RFeat (cFeats l) l := row_isL (by rw [reach_eq]; have := h.1; omega) (cat_map fun f hf => cFeat_is (h.2 f hf))
section
variable {P : Program}
theorem rd_fsl (g : Pg P tab) {rb mb N0 : Nat} {G : Nat → Option Blk} {p0 p1 p2 p3 p4 p5 p6 p7 p8 p9 p10 p11 p12 p13 p14 : AV} (hrb : rb < N0) (hmb : mb < N0) (hne : mb ≠ rb) (n : Nat) : ∀ (done : List Feat) (t : List Nat) (s : T AV) (h : Heap) (rv : AV) (k : List Fr) (Q : Ex → T AV → Heap → Prop), done.length + n ≤ 1000 →
    N0 ≤ h.next → (∃ e ver, h.get mb = some (.cells [p0, p1, p2, p3, p4, p5, p6, p7, p8, p9, p10, p11, p12, p13, p14, rv] e ver)) → LR h (N0 ≤ ·) rv 3 ((done.map cFeat).flatten) done.length → RP rb t h → (∀ b, b < N0 → b ≠ rb → b ≠ mb → h.get b = G b) → sg s 0 = .ptr rb 0 → sg s 1 = .ptr mb 0 → sg s 16 = .int .i64 (done.length + n : Nat) → sg s 17 = .int .i64 done.length →
    (∀ s' h' rv', (∃ e ver, h'.get mb = some (.cells [p0, p1, p2, p3, p4, p5, p6, p7, p8, p9, p10, p11, p12, p13, p14, rv'] e ver)) → LR h' (N0 ≤ ·) rv' 3 (((done ++ (rep rdFeat n t).1).map cFeat).flatten) (done.length + n) → RP rb (rep rdFeat n t).2 h' → (∀ b, b < N0 → b ≠ rb → b ≠ mb → h'.get b = G b) → N0 ≤ h'.next → Un P k Q (.exit 0) s' h') → Lp P b78_0 s h (Un P k Q) := by
  induction n with
  | zero =>
    intro done t s h rv k Q hl hn0 hf r rp ex h0 h1 h16 h17 hQ
    refine g.lpe b78_0.eq_1 ?_
    have c1 : ¬ ((done.length : Int) < (done.length : Int)) := by omega
    rw [Nat.add_zero] at h16
    simp only [h16, h17, c1, RX, VOp.fresh, bxC, bsC, un, most, callsOf, seval, Int.reducePow, ↓reduceIte, Nat.reduceEqDiff, reduceCtorEq]
    refine hQ _ _ rv hf ?_ rp ex hn0
    simpa [rep] using r
  | succ n ih =>
    intro done t s h rv k Q hl hn0 hf r rp ex h0 h1 h16 h17 hQ
    refine g.lpe b78_0.eq_1 ?_
    have c1 : (done.length : Int) < ((done.length + (n + 1) : Nat) : Int) := by omega
    have w1 : IntKind.i64.wrap ((done.length : Int) + 1) = ((done.length + 1 : Nat) : Int) := by rw [w64 (by omega) (by omega)]; push_cast; rfl
    have hnb : ¬ N0 ≤ rb := by omega
    obtain ⟨ef, vf, hf⟩ := hf
    obtain ⟨_, h4, ok4, fv, rfl, r4, rp4, x4⟩ := rd_feat g rp (Q := fun v h' => ∃ fv, v = .agg [.int .i64 (rdFeat t).1.id, .int .i64 (rdFeat t).1.shape, fv] ∧ LR h' (h.next ≤ ·) fv 1 ((rdFeat t).1.rings.map cRing) (rdFeat t).1.rings.length ∧ RP rb (rdFeat t).2 h' ∧ ExtX rb h h') (fun fv h' a b c => ⟨fv, rfl, a, b, c⟩)
    have x4n := x4.1
    have hf4 : h4.get mb = some (.cells [p0, p1, p2, p3, p4, p5, p6, p7, p8, p9, p10, p11, p12, p13, p14, rv] ef vf) := (x4.2 mb (by omega) hne).trans hf
    have r4' : LR h4 (N0 ≤ ·) rv 3 ((done.map cFeat).flatten) done.length := r.frame x4.1 fun b hb hlt => x4.2 b hlt fun e => hnb (e ▸ hb)
    have em := Ext.mk (h := h4) (.cells [.int .i64 (rdFeat t).1.id, .int .i64 (rdFeat t).1.shape, fv] 52 0)
    have hn4 : (h4.mk' h4.next (.cells [.int .i64 (rdFeat t).1.id, .int .i64 (rdFeat t).1.shape, fv] 52 0)).next = h4.next + 1 := by rw [mk_next]; omega
    have hlt := r.lt
    have lv4 : Lvs (h4.mk' h4.next (.cells [.int .i64 (rdFeat t).1.id, .int .i64 (rdFeat t).1.shape, fv] 52 0)) (fun b => N0 ≤ b ∧ b ∉ blkOf rv) [.int .i64 (rdFeat t).1.id, .int .i64 (rdFeat t).1.shape, fv] (cFeat (rdFeat t).1) :=
      .cons .int (.cons .int (.cons ((r4.lv.frame em.1 fun b _ hb => em.2 b hb).weak fun b hb _ => ⟨by omega, fun hc => by have := hlt b hc; omega⟩) .nil))
    obtain ⟨h5, e5, r5, n5, k5⟩ := (r4'.frame em.1 fun b _ hb => em.2 b hb).push (nb := h4.next) (eb := 52) (vb := 0) (c := [.int .i64 (rdFeat t).1.id, .int .i64 (rdFeat t).1.shape, fv]) (by rw [Heap.get_mk, if_pos rfl]) rfl (by simp only [List.all_cons, List.all_nil, one_int, r4.one, Bool.and_self]) lv4 (by rw [hn4]; omega) (bytes := 40) (by unfold most2; omega) 52
    rw [hn4] at e5 r5 n5 k5
    have kk : ∀ b, b < h4.next → b ∉ blkOf rv → h5.get b = h4.get b := fun b hb hn => (k5 b hn (by omega)).trans (em.2 b hb)
    have hv := r4'.inB
    have hf5 : h5.get mb = some (.cells [p0, p1, p2, p3, p4, p5, p6, p7, p8, p9, p10, p11, p12, p13, p14, rv] ef vf) := (kk mb (by omega) fun hc => by have := hv mb hc; omega).trans hf4
    have hfn : ¬ mb = h4.next := by omega
    have gm := (em.2 mb (by omega)).trans hf4
    simp only [h0, h1, h16, h17, c1, hf, RX, VOp.fresh, bxC, bsC, un, most, callsOf, seval, Int.reducePow, ↓reduceIte, Nat.reduceEqDiff, reduceCtorEq]
    refine EvD.lk (fun _ _ _ => (.agg [.int .i64 (rdFeat t).1.id, .int .i64 (rdFeat t).1.shape, fv], h4)) ?_
    simp only [h0, h1, h16, h17, hf, hf4, hf5, hfn, ok4, e5, r4.one, w1, RW, RX, VOp.fresh, bxC, bsC, un, most, callsOf, seval, Int.reducePow, ↓reduceIte, Nat.reduceEqDiff, reduceCtorEq]
    refine ⟨⟨⟨?_, ?_, trivial⟩, trivial⟩, ?_⟩
    · show Lk _ _ _ _
      simp only [Lk, wanted, hf4, RX, VOp.fresh, bxC, bsC, un, most, callsOf, seval, Int.reducePow, ↓reduceIte, Nat.reduceEqDiff, reduceCtorEq]
    · show Lk _ _ _ _
      simp only [Lk, wanted, gm, hf4, hfn, RX, VOp.fresh, bxC, bsC, un, most, callsOf, seval, Int.reducePow, ↓reduceIte, Nat.reduceEqDiff, reduceCtorEq]
    refine ih (done ++ [(rdFeat t).1]) (rdFeat t).2 _ _ (.sl (h4.next + 1) 0 (done.length + 1) (done.length + 1) 3) k Q (by rw [List.length_append, List.length_singleton]; omega) ?_ ?_ ?_ ?_ ?_ ?_ ?_ ?_ ?_ ?_
    · rw [put_next]; omega
    · exact ⟨ef, vf + 1, by rw [Heap.get_put, if_pos rfl]⟩
    · have r6 := (r5.weak (B' := fun b => N0 ≤ b ∧ b ≠ mb) fun b hb _ => ⟨hb, by omega⟩).frame (h' := h5.put mb (.cells [p0, p1, p2, p3, p4, p5, p6, p7, p8, p9, p10, p11, p12, p13, p14, .sl (h4.next + 1) 0 (done.length + 1) (done.length + 1) 3] ef (vf + 1))) (by rw [put_next]; exact Nat.le_refl _) fun b hb _ => by rw [Heap.get_put, if_neg hb.2]
      have r7 := r6.weak (B' := (N0 ≤ ·)) fun b hb _ => hb.1
      simpa only [List.map_append, List.flatten_append, List.map_cons, List.map_nil, List.flatten_cons, List.flatten_nil, List.append_nil, List.length_append, List.length_singleton] using r7
    · exact (rp4.frame (by omega) (kk rb rp4.1 fun hc => by have := hv rb hc; omega)).frame (by rw [put_next]; exact Nat.le_refl _) (by rw [Heap.get_put, if_neg (fun e => hne e.symm)])
    · intro b hb hx hf'
      rw [Heap.get_put, if_neg hf', kk b (by omega) (fun hc => by have := hv b hc; omega), x4.2 b (by omega) hx, ex b hb hx hf']
    · simp only [h0, sg_set, Nat.reduceEqDiff, ↓reduceIte]
    · simp only [h1, sg_set, Nat.reduceEqDiff, ↓reduceIte]
    · simp only [h16, sg_set, Nat.reduceEqDiff, ↓reduceIte]
      rw [List.length_append, List.length_singleton]
      congr 2; omega
    · simp only [sg_set, Nat.reduceEqDiff, ↓reduceIte]
      rw [List.length_append, List.length_singleton]
    · intro s' h' rv' q1 q2 q3 q4 q5
      refine hQ s' h' rv' q1 ?_ q3 q4 q5
      simpa only [rep, List.append_assoc, List.cons_append, List.nil_append, List.length_append, List.length_singleton, Nat.add_assoc, Nat.add_comm 1 n] using q2
theorem rd_part (g : Pg P tab) {rb mb : Nat} {p0 p1 p2 p3 p4 p5 p6 p7 p8 p9 p10 p11 p12 p13 p14 : AV} {t : List Nat} {h : Heap} (rp : RP rb t h) (hmb : mb < h.next) (hne : mb ≠ rb) (hf : ∃ e ver, h.get mb = some (.cells [p0, p1, p2, p3, p4, p5, p6, p7, p8, p9, p10, p11, p12, p13, p14, .nils] e ver)) {Q : AV → Heap → Prop}
    (q : ∀ v rv h', (∃ e ver, h'.get mb = some (.cells [p0, p1, p2, p3, p4, p5, p6, p7, .int .i64 (rdPa 6 t).1.1, .bool (rdPa 6 t).1.2.1, p10, p11, p12, p13, p14, rv] e ver)) → LR h' (h.next ≤ ·) rv 3 (((rdPa 6 t).1.2.2.map cFeat).flatten) (rdPa 6 t).1.2.2.length → RP rb (rdPa 6 t).2 h' → (∀ b, b < h.next → b ≠ rb → b ≠ mb → h'.get b = h.get b) → h.next ≤ h'.next → Q v h') : Cl P 78 [.ptr rb 0, .ptr mb 0] h Q := by
  refine g.cl (vf := v78) rfl rfl ?_
  simp only [v78, RX, VOp.fresh, bxC, bsC, un, most, callsOf, seval, Int.reducePow, ↓reduceIte, Nat.reduceEqDiff, reduceCtorEq]
  refine rnum_cl g (N := 4) (by decide) rp fun h2 rp2 x2 => ?_
  obtain ⟨e1, v1, hf⟩ := hf
  have hf2 := (x2.keep mb hne).trans hf
  have e2 := x2.next
  simp only [hf2, RW, RX, VOp.fresh, bxC, bsC, un, most, callsOf, seval, Int.reducePow, ↓reduceIte, Nat.reduceEqDiff, reduceCtorEq]
  have rp3 := rp2.frame (h' := h2.put mb (.cells [p0, p1, p2, p3, p4, p5, p6, p7, .int .i64 (rdN 4 t).1, p9, p10, p11, p12, p13, p14, .nils] e1 (v1 + 1))) (by rw [put_next]; exact Nat.le_refl _) (by rw [Heap.get_put, if_neg (fun e => hne e.symm)])
  have gH3 : (h2.put mb (.cells [p0, p1, p2, p3, p4, p5, p6, p7, .int .i64 (rdN 4 t).1, p9, p10, p11, p12, p13, p14, .nils] e1 (v1 + 1))).get mb = some (.cells [p0, p1, p2, p3, p4, p5, p6, p7, .int .i64 (rdN 4 t).1, p9, p10, p11, p12, p13, p14, .nils] e1 (v1 + 1)) := by rw [Heap.get_put, if_pos rfl]
  have nH3 : (h2.put mb (.cells [p0, p1, p2, p3, p4, p5, p6, p7, .int .i64 (rdN 4 t).1, p9, p10, p11, p12, p13, p14, .nils] e1 (v1 + 1))).next = h.next := e2
  have kH3 : ∀ b, b ≠ rb → b ≠ mb → (h2.put mb (.cells [p0, p1, p2, p3, p4, p5, p6, p7, .int .i64 (rdN 4 t).1, p9, p10, p11, p12, p13, p14, .nils] e1 (v1 + 1))).get b = h.get b := fun b hr hm => by rw [Heap.get_put, if_neg hm]; exact x2.keep b hr
  generalize h2.put mb (.cells [p0, p1, p2, p3, p4, p5, p6, p7, .int .i64 (rdN 4 t).1, p9, p10, p11, p12, p13, p14, .nils] e1 (v1 + 1)) = h3 at *
  refine rd_bool g rp3 fun h4 rp4 x4 => ?_
  have x4n := x4.1
  have gH4 := (x4.2 mb (by omega) hne).trans gH3
  simp only [gH4, RW, RX, VOp.fresh, bxC, bsC, un, most, callsOf, seval, Int.reducePow, ↓reduceIte, Nat.reduceEqDiff, reduceCtorEq]
  have rp5 := rp4.frame (h' := h4.put mb (.cells [p0, p1, p2, p3, p4, p5, p6, p7, .int .i64 (rdN 4 t).1, .bool (decide ((rdN 1 (rdN 4 t).2).1 = 1)), p10, p11, p12, p13, p14, .nils] e1 (v1 + 1 + 1))) (by rw [put_next]; exact Nat.le_refl _) (by rw [Heap.get_put, if_neg (fun e => hne e.symm)])
  have gH5 : (h4.put mb (.cells [p0, p1, p2, p3, p4, p5, p6, p7, .int .i64 (rdN 4 t).1, .bool (decide ((rdN 1 (rdN 4 t).2).1 = 1)), p10, p11, p12, p13, p14, .nils] e1 (v1 + 1 + 1))).get mb = some (.cells [p0, p1, p2, p3, p4, p5, p6, p7, .int .i64 (rdN 4 t).1, .bool (decide ((rdN 1 (rdN 4 t).2).1 = 1)), p10, p11, p12, p13, p14, .nils] e1 (v1 + 1 + 1)) := by rw [Heap.get_put, if_pos rfl]
  have nH5 : h.next ≤ (h4.put mb (.cells [p0, p1, p2, p3, p4, p5, p6, p7, .int .i64 (rdN 4 t).1, .bool (decide ((rdN 1 (rdN 4 t).2).1 = 1)), p10, p11, p12, p13, p14, .nils] e1 (v1 + 1 + 1))).next := by rw [put_next]; omega
  have kH5 : ∀ b, b < h.next → b ≠ rb → b ≠ mb → (h4.put mb (.cells [p0, p1, p2, p3, p4, p5, p6, p7, .int .i64 (rdN 4 t).1, .bool (decide ((rdN 1 (rdN 4 t).2).1 = 1)), p10, p11, p12, p13, p14, .nils] e1 (v1 + 1 + 1))).get b = h.get b := fun b hb hr hm => by rw [Heap.get_put, if_neg hm, x4.2 b (by omega) hr]; exact kH3 b hr hm
  generalize h4.put mb (.cells [p0, p1, p2, p3, p4, p5, p6, p7, .int .i64 (rdN 4 t).1, .bool (decide ((rdN 1 (rdN 4 t).2).1 = 1)), p10, p11, p12, p13, p14, .nils] e1 (v1 + 1 + 1)) = h5 at *
  refine rnum_cl g (N := 2) (by decide) rp5 fun h6 rp6 x6 => ?_
  have e6 := x6.next
  have gH6 := (x6.keep mb hne).trans gH5
  have hk0 := (rdN_le (n := 2) (by decide) rp5.2.1).1
  have hrb := rp.1
  obtain ⟨k, hk⟩ : ∃ k : Nat, min (rdN 2 (rdN 1 (rdN 4 t).2).2).1 257 = (k : Int) := ⟨(min (rdN 2 (rdN 1 (rdN 4 t).2).2).1 257).toNat, by omega⟩
  have em : foldO min2 (.int .i64 (rdN 2 (rdN 1 (rdN 4 t).2).2).1) [.int .i64 257] = some (.int .i64 (k : Int)) := by
    show some (AV.int .i64 (if (257 : Int) < _ then 257 else _)) = _
    rw [← hk]
    congr 2
    split <;> omega
  have hk257 : k ≤ 257 := by omega
  simp only [em, RX, VOp.fresh, bxC, bsC, un, most, callsOf, seval, Int.reducePow, ↓reduceIte, Nat.reduceEqDiff, reduceCtorEq]
  refine rd_fsl g (N0 := h.next) hrb hmb hne (G := h.get) k [] _ _ h6 .nils _ _ (by simp; omega) (by omega) ⟨_, _, gH6⟩ (.nil _ _ _) rp6 (fun b hb hr hm => (x6.keep b hr).trans (kH5 b hb hr hm)) ?_ ?_ ?_ ?_ ?_
  · simp only [sg_set, Nat.reduceEqDiff, ↓reduceIte]
  · simp only [sg_set, Nat.reduceEqDiff, ↓reduceIte]
  · simp only [sg_set, Nat.reduceEqDiff, ↓reduceIte]
    simp
  · simp only [sg_set, Nat.reduceEqDiff, ↓reduceIte]
    rfl
  intro s' h' rv' hf' r' rp' k' n'
  have er : rdFs (rdN 1 (rdN 4 t).2).2 = rep rdFeat k (rdN 2 (rdN 1 (rdN 4 t).2).2).2 := by rw [rdFs, hk, Int.toNat_natCast]
  have ep : rdPa 6 t = (((rdN 4 t).1, decide ((rdN 1 (rdN 4 t).2).1 = 1), (rep rdFeat k (rdN 2 (rdN 1 (rdN 4 t).2).2).2).1), (rep rdFeat k (rdN 2 (rdN 1 (rdN 4 t).2).2).2).2) := by
    rw [rdPa, if_pos (show kPart 6 = true from rfl), er]
  simp only [RX, VOp.fresh, bxC, bsC, un, most, callsOf, seval, Int.reducePow, ↓reduceIte, Nat.reduceEqDiff, reduceCtorEq]
  refine q _ rv' h' ?_ ?_ ?_ k' n'
  · rw [ep]; exact hf'
  · rw [ep]
    rw [List.nil_append, show ([] : List Feat).length + k = (rep rdFeat k (rdN 2 (rdN 1 (rdN 4 t).2).2).2).1.length by rw [rep_len]; simp] at r'
    exact r'
  · rw [ep]; exact rp'
end
end Go.Proofs.Ytinonmcnofjeeaa.VM
