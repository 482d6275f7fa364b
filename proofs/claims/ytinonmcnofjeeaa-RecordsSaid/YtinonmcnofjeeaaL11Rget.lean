/- The document's GetRec: bytes that are a record's are read as it; all others are none. -/
import Derived.Test.YtinonmcnofjeeaaL11Ru
namespace Go.Proofs.Ytinonmcnofjeeaa.VM
set_option linter.unusedSimpArgs false
set_option linter.unusedVariables false
set_option linter.defProp false
set_option maxHeartbeats 1000000
attribute [local irreducible] Af Nx EvO Ev Un Gd Cd EvR EvQ EvC Nc Gc Lp EvM NxM AfM GdM EvMR EvMQ EvMD EvMC Nm Gm
def rdRcM (s : Option (List Nat)) : Rc × Option (List Nat) :=
  let k := rdM 1 s
  if k.1 = 0 then (⟨0, 0, 0, 0, false, (rdMpM k.2).1, []⟩, (rdMpM k.2).2)
  else
    let a := rdM 1 k.2; let b := rdM 2 a.2
    if k.1 = 1 ∨ k.1 = 2 then (let c := rdM 4 b.2; (⟨k.1, a.1, b.1, c.1 - 1, false, ⟨0, [], []⟩, (rdOpsM c.2).1⟩, (rdOpsM c.2).2))
    else if k.1 = 3 then (⟨k.1, a.1, b.1, 0, (rdBitM b.2).1, ⟨0, [], []⟩, []⟩, (rdBitM b.2).2)
    else if k.1 = 4 then (⟨k.1, a.1, b.1, 0, false, ⟨0, [], []⟩, []⟩, b.2)
    else (⟨k.1, 0, 0, 0, false, ⟨0, [], []⟩, []⟩, none)
theorem rdRcM_sm {s : Option (List Nat)} (h : ByO s) : rcSm (rdRcM s).1 := by
  have o0 : opsSm [] := ⟨by simp, by simp⟩
  unfold rdRcM
  simp only
  split
  · exact ⟨rdMpM_sm (rdM_by h), o0⟩
  · split
    · exact ⟨mpSm0, rdOpsM_sm (rdM_by (rdM_by (rdM_by (rdM_by h))))⟩
    · split
      · exact ⟨mpSm0, o0⟩
      · split
        · exact ⟨mpSm0, o0⟩
        · exact ⟨mpSm0, o0⟩
theorem rdRcM_put {r : Rc} (h : recOk r) : rdRcM (some (recB r)) = (r, some []) := by
  obtain ⟨kind, node, seq, base, commit, m, ops⟩ := r
  rcases h with ⟨hk, h1, h2, h3, h4, h5, h6⟩ | ⟨hk, h1, h2, h3, h4, h5, h6⟩ | ⟨hk, h1, h2, h3, h4⟩ | ⟨hk, h1, h2, h3, h4, h5⟩
  · simp only at hk h1 h2 h3 h4 h5 h6
    subst hk h2 h3 h4 h5 h6
    rw [rdRcM, recB]
    simp only [if_true]
    rw [rdM_put (by omega) (by omega)]
    have := rdMpM_put h1 []
    rw [List.append_nil] at this
    simp only [if_true, this]
  · simp only at hk h1 h2 h3 h4 h5 h6
    subst h5
    obtain ⟨t1, t2, t3, t4⟩ := h1
    have e0 : ¬ kind = 0 := by omega
    rw [rdRcM, recB]
    simp only [if_neg e0, if_pos hk, txB, List.append_assoc]
    rw [rdM_put (by omega) (by omega)]
    simp only [if_neg e0, if_pos hk]
    rw [rdM_put (by omega) (by omega)]
    simp only
    rw [rdM_put (by omega) (by omega)]
    simp only
    rw [rdM_put (by omega) (by omega)]
    have := rdOpsM_put h4 []
    rw [List.append_nil] at this
    simp only [this]
    rw [mp0_of h6, show base + 1 - 1 = base by omega]
  · simp only at hk h1 h2 h3 h4
    subst hk h2 h3
    obtain ⟨t1, t2, t3, t4⟩ := h1
    have e0 : ¬ (3 : Int) = 0 := by decide
    have e1 : ¬ ((3 : Int) = 1 ∨ (3 : Int) = 2) := by decide
    rw [rdRcM, recB]
    simp only [if_neg e0, if_neg e1, if_true, txB, List.append_assoc]
    rw [rdM_put (by omega) (by omega)]
    simp only [if_neg e0, if_neg e1, if_true]
    rw [rdM_put (by omega) (by omega)]
    simp only
    rw [rdM_put (by omega) (by omega)]
    simp only
    have hb := rdM_put (x := if commit then 1 else 0) (n := 1) (by split <;> omega) (by split <;> omega) []
    rw [List.append_nil] at hb
    rw [bitB, rdBitM, hb, mp0_of h4]
    cases commit <;> simp
  · simp only at hk h1 h2 h3 h4 h5
    subst hk h2 h3 h4
    obtain ⟨t1, t2, t3, t4⟩ := h1
    have e0 : ¬ (4 : Int) = 0 := by decide
    have e1 : ¬ ((4 : Int) = 1 ∨ (4 : Int) = 2) := by decide
    have e3 : ¬ (4 : Int) = 3 := by decide
    rw [rdRcM, recB]
    simp only [if_neg e0, if_neg e1, if_neg e3, txB, List.append_assoc]
    rw [rdM_put (by omega) (by omega)]
    simp only [if_neg e0, if_neg e1, if_neg e3, if_true]
    rw [rdM_put (by omega) (by omega)]
    simp only
    have hb := rdM_put (x := seq) (n := 2) (by omega) (by omega) []
    rw [List.append_nil] at hb
    simp only [List.append_nil]
    rw [hb, mp0_of h5]
/-- the two readers read the same records -/
theorem getOk_M {s : List Nat} (h : getOk s) : rdRcM (some s) = (rdRc s, some []) := by
  have := rdRcM_put h.1
  rwa [h.2.1] at this
theorem getOk_ofM {s : List Nat} (h : recOk (rdRcM (some s)).1) (e : recB (rdRcM (some s)).1 = s) (hl : s.length ≤ 8192) : getOk s := (getOk_of h e hl).1
section
variable {P : Program}
theorem rr_ops (g : Pg P tab) {rb : Nat} {S : List Nat} {t : Option (List Nat)} {h : Heap} (rp : RR rb S t h) {Q : AV → Heap → Prop} (q : ∀ v h', LR h' (h.next ≤ ·) v 8 (((rdOpsM t).1.map cOpL).flatten) (rdOpsM t).1.length → RR rb S (rdOpsM t).2 h' → ExtX rb h h' → Q v h') : Cl P 65 [.ptr rb 0] h Q := by
  refine g.cl (vf := v65) rfl rfl ?_
  simp only [v65, R0, R1, R2, R3, R4, R5, R6, R7, R8, R9, VOp.fresh, bxC, bsC, R10, un, most, callsOf, List.contains_nil, List.contains_cons, beq_iff_eq, List.getElem?_cons_zero, List.getElem?_cons_succ, seval, Option.map_none, Int.reducePow, ↓reduceIte, Nat.reduceEqDiff, reduceCtorEq, and_self]
  refine rrnum_cl g (N := 1) (by decide) rp fun h3 rp3 x3 => ?_
  have hk := rdM1_le rp.by
  have hk0 := (rdM_le (n := 1) (by decide) rp.by).1
  obtain ⟨m, hm⟩ : ∃ m : Nat, (rdM 1 t).1 = (m : Int) := ⟨(rdM 1 t).1.toNat, by omega⟩
  simp only [hm, R0, R1, R2, R3, R4, R5, R6, R7, R8, R9, VOp.fresh, bxC, bsC, R10, un, most, callsOf, List.contains_nil, List.contains_cons, beq_iff_eq, List.getElem?_cons_zero, List.getElem?_cons_succ, seval, Option.map_none, Int.reducePow, ↓reduceIte, Nat.reduceEqDiff, reduceCtorEq, and_self]
  refine rr_opsl g (H0 := h3) rp3.1 m [] _ _ h3 _ _ (by simp; omega) ?_ rp3 ExtX.refl ?_ ?_ ?_ ?_
  · simp only [sg_set, Nat.reduceEqDiff, ↓reduceIte]
    exact .nil _ _ _
  · simp only [sg_set, Nat.reduceEqDiff, ↓reduceIte]
  · simp only [sg_set, Nat.reduceEqDiff, ↓reduceIte]
    simp
  · simp only [sg_set, Nat.reduceEqDiff, ↓reduceIte]
    rfl
  intro s' h4 r4 rp4 x4
  have e3 := x3.next
  have er : rdOpsM t = rpO rdOpM m (rdM 1 t).2 := by rw [rdOpsM, hm, Int.toNat_natCast]
  simp only [R0, R1, R2, R3, R4, R5, R6, R7, R8, R9, VOp.fresh, bxC, bsC, R10, un, most, callsOf, List.contains_nil, List.contains_cons, beq_iff_eq, List.getElem?_cons_zero, List.getElem?_cons_succ, seval, Option.map_none, Int.reducePow, ↓reduceIte, Nat.reduceEqDiff, reduceCtorEq, and_self]
  refine q _ _ ?_ (by rw [er]; exact rp4) (x3.x.trans x4)
  rw [er]
  rw [List.nil_append] at r4
  exact r4.weak fun b hb _ => by omega
theorem ref_get (g : Pg P tab) {s : List Nat} (hby : By s) (hsl : s.length < 4611686018427387904) {h : Heap} {Q : AV → Heap → Prop} (q1 : getOk s → ∀ c h', Lvs h' (h.next ≤ ·) c (cRc (rdRc s)) → c.length = 9 → Ext h h' → Q (.tup [.agg c, .int .i64 0]) h')
    (q2 : ¬ getOk s → ∀ h', Ext h h' → Q (.tup [.agg zRc, .int .i64 1100]) h') : Cl P 18 [.str s] h Q := by
  refine g.cl (vf := v18) rfl rfl ?_
  have x1 := Ext.mk (h := h) (.cells zRc 29 0)
  have n1 : (h.mk' h.next (.cells zRc 29 0)).next = h.next + 1 := by rw [mk_next]; omega
  have x2 := Ext.mk (h := h.mk' h.next (.cells zRc 29 0)) (.cells [.str s, .int .i64 0, .bool false] 125 0)
  rw [n1] at x2
  have n2 : ((h.mk' h.next (.cells zRc 29 0)).mk' (h.next + 1) (.cells [.str s, .int .i64 0, .bool false] 125 0)).next = h.next + 2 := by rw [mk_next, n1]; omega
  have g2 : ((h.mk' h.next (.cells zRc 29 0)).mk' (h.next + 1) (.cells [.str s, .int .i64 0, .bool false] 125 0)).get h.next = some (.cells zRc 29 0) := by rw [Heap.get_mk, if_neg (by omega), Heap.get_mk, if_pos rfl]
  have rp2 : RR (h.next + 1) s (some s) ((h.mk' h.next (.cells zRc 29 0)).mk' (h.next + 1) (.cells [.str s, .int .i64 0, .bool false] 125 0)) := ⟨by omega, hby, hsl, 125, 0, 0, false, by rw [Heap.get_mk, if_pos rfl]; rfl, Nat.zero_le _, by simp⟩
  have xe := x1.trans x2
  simp only [v18, R0, R1, R2, R3, R4, R5, R6, R7, R8, R9, VOp.fresh, bxC, bsC, R10, un, most, callsOf, List.contains_nil, List.contains_cons, beq_iff_eq, List.getElem?_cons_zero, List.getElem?_cons_succ, seval, Option.map_none, Int.reducePow, ↓reduceIte, Nat.reduceEqDiff, reduceCtorEq, and_self]
  generalize (h.mk' h.next (.cells zRc 29 0)).mk' (h.next + 1) (.cells [.str s, .int .i64 0, .bool false] 125 0) = h2 at *
  refine rrnum_cl g (N := 1) (by decide) rp2 fun h3 rp3 y3 => ?_
  have e3 := y3.next
  have g3 := (y3.keep h.next (by omega)).trans g2
  have x4 : Ext h3 ((h3.mk' h3.next (.cells zRc 29 0)).put h3.next (.cells [.int .i64 (rdM 1 (some s)).1, .int .i64 0, .int .i64 0, .int .i64 0, .bool false, .int .i64 0, .nils, .nils, .nils] 29 1)) := ⟨by rw [put_next, mk_next]; omega, fun b hb => by rw [Heap.get_put, if_neg (by omega), Heap.get_mk, if_neg (by omega)]⟩
  have n4 : ((h3.mk' h3.next (.cells zRc 29 0)).put h3.next (.cells [.int .i64 (rdM 1 (some s)).1, .int .i64 0, .int .i64 0, .int .i64 0, .bool false, .int .i64 0, .nils, .nils, .nils] 29 1)).next = h3.next + 1 := by rw [put_next, mk_next]; omega
  have g4 : ((h3.mk' h3.next (.cells zRc 29 0)).put h3.next (.cells [.int .i64 (rdM 1 (some s)).1, .int .i64 0, .int .i64 0, .int .i64 0, .bool false, .int .i64 0, .nils, .nils, .nils] 29 1)).get h3.next = some (.cells [.int .i64 (rdM 1 (some s)).1, .int .i64 0, .int .i64 0, .int .i64 0, .bool false, .int .i64 0, .nils, .nils, .nils] 29 1) := by rw [Heap.get_put, if_pos rfl]
  have g4b := (x4.2 h.next (by omega)).trans g3
  have rp4 := rp3.frame x4.1 (x4.2 (h.next + 1) rp3.1)
  simp only [RW, R0, R1, R2, R3, R4, R5, R6, R7, R8, R9, VOp.fresh, bxC, bsC, R10, un, most, callsOf, List.contains_nil, List.contains_cons, beq_iff_eq, List.getElem?_cons_zero, List.getElem?_cons_succ, seval, Option.map_none, Int.reducePow, ↓reduceIte, Nat.reduceEqDiff, reduceCtorEq, and_self]
  generalize (h3.mk' h3.next (.cells zRc 29 0)).put h3.next (.cells [.int .i64 (rdM 1 (some s)).1, .int .i64 0, .int .i64 0, .int .i64 0, .bool false, .int .i64 0, .nils, .nils, .nils] 29 1) = h4 at *
  have x4' : ExtX (h.next + 1) h2 h4 := y3.x.trans x4.x
  have xh : ∀ h', ExtX (h.next + 1) h2 h' → Ext h h' := fun h' x => ⟨by have := x.1; omega, fun b hb => (x.2 b (by omega) (by omega)).trans (xe.2 b hb)⟩
  have hbo : ByO (some s) := fun t e => by cases e; exact hby
  have sm := rdRcM_sm hbo
  have hrc := cRc_is sm
  have ans : ∀ {c : List AV} {h' : Heap} {Q' : AV → Heap → Prop}, Lvs h' (h.next < ·) c (cRc (rdRcM (some s)).1) → (getOk s → Lvs h' (h.next < ·) c (cRc (rdRc s)) → (rdRcM (some s)).2 = some [] → Q' (.tup [.str s, .int .i64 0]) h') → (¬ getOk s → recB (rdRcM (some s)).1 ≠ s → Q' (.tup [.str (recB (rdRcM (some s)).1), .int .i64 0]) h') → (¬ getOk s → Q' (.tup [.str [], .int .i64 1100]) h') → Cl P 16 [.agg c] h' Q' := by
    intro c h' Q' l a1 a2 a3
    have hf : Fzs true h' [.agg c] [.agg (cRc (rdRcM (some s)).1)] := .cons (.agg l.fzs) .nil
    have go : getOk s → recOk (rdRcM (some s)).1 ∧ recB (rdRcM (some s)).1 = s ∧ s.length ≤ 8192 := fun hg => by rw [getOk_M hg]; exact hg
    by_cases ok : recOk (rdRcM (some s)).1
    · refine (rPut_good g hrc ok).cl hf ?_
      rintro v rfl
      unfold putAns
      by_cases hl : (recB (rdRcM (some s)).1).length ≤ 8192
      · rw [if_pos hl]
        by_cases hs : recB (rdRcM (some s)).1 = s
        · have hg := getOk_ofM ok hs (by rw [← hs]; exact hl)
          have em := getOk_M hg
          have := a1 hg (by rw [em] at l; exact l) (by rw [em])
          rwa [hs]
        · exact a2 (fun hg => hs (go hg).2.1) hs
      · rw [if_neg hl]
        exact a3 fun hg => hl (by rw [(go hg).2.1]; exact (go hg).2.2)
    · refine (rPut_bad g hrc ok).cl hf ?_
      rintro v rfl
      exact a3 fun hg => ok (go hg).1
  have hk0 := (rdM_le (n := 1) (by decide) hbo).1
  have hne3 : ¬ h.next = h3.next := by omega
  have hnr : ¬ (h.next + 1) = h3.next := by have := rp3.1; omega
  have hnz : ¬ (h.next + 1) = h.next := by omega
  by_cases k0 : (rdM 1 (some s)).1 = 0
  · rw [k0] at g4
    simp only [g4, k0, R0, R1, R2, R3, R4, R5, R6, R7, R8, R9, VOp.fresh, bxC, bsC, R10, un, most, callsOf, List.contains_nil, List.contains_cons, beq_iff_eq, List.getElem?_cons_zero, List.getElem?_cons_succ, seval, Option.map_none, Int.reducePow, ↓reduceIte, Nat.reduceEqDiff, reduceCtorEq, and_self]
    refine rr_map g rp4 fun sv ov hl r5 r6 rp5 x5 => ?_
    have g5 := (x5.2 h3.next (by omega) (by omega)).trans g4
    have gz0 := (x5.2 h.next (by omega) (by omega)).trans g4b
    have xl := x4'.trans x5
    simp only [g5, RW, r5.one, r6.one, R0, R1, R2, R3, R4, R5, R6, R7, R8, R9, VOp.fresh, bxC, bsC, R10, un, most, callsOf, List.contains_nil, List.contains_cons, beq_iff_eq, List.getElem?_cons_zero, List.getElem?_cons_succ, seval, Option.map_none, Int.reducePow, ↓reduceIte, Nat.reduceEqDiff, reduceCtorEq, and_self]
    have er : rdRcM (some s) = (⟨0, 0, 0, 0, false, (rdMpM (rdM 1 (some s)).2).1, []⟩, (rdMpM (rdM 1 (some s)).2).2) := by rw [rdRcM]; simp only [k0, if_true, if_false, or_self, or_true, true_or, or_false, false_or]
    have cl : Lvs (hl.put h3.next (.cells [.int .i64 0, .int .i64 0, .int .i64 0, .int .i64 0, .bool false, .int .i64 (rdMpM (rdM 1 (some s)).2).1.epoch, sv, ov, .nils] 29 2)) (h.next < ·) [.int .i64 0, .int .i64 0, .int .i64 0, .int .i64 0, .bool false, .int .i64 (rdMpM (rdM 1 (some s)).2).1.epoch, sv, ov, .nils] (cRc (rdRcM (some s)).1) := by
      rw [er]
      exact Lvs.cells9 (r := ⟨0, 0, 0, 0, false, (rdMpM (rdM 1 (some s)).2).1, []⟩) ((((lv_ints r5).weak (B' := fun b => h.next < b ∧ b ≠ h3.next) fun b hb _ => ⟨by omega, by omega⟩).put (fun e => e.2 rfl) _).weak fun b hb _ => hb.1) ((((lv_ints r6).weak (B' := fun b => h.next < b ∧ b ≠ h3.next) fun b hb _ => ⟨by omega, by omega⟩).put (fun e => e.2 rfl) _).weak fun b hb _ => hb.1) .nils
    have gr : (hl.put h3.next (.cells [.int .i64 0, .int .i64 0, .int .i64 0, .int .i64 0, .bool false, .int .i64 (rdMpM (rdM 1 (some s)).2).1.epoch, sv, ov, .nils] 29 2)).get h3.next = some (.cells [.int .i64 0, .int .i64 0, .int .i64 0, .int .i64 0, .bool false, .int .i64 (rdMpM (rdM 1 (some s)).2).1.epoch, sv, ov, .nils] 29 2) := by simp only [Heap.get_put, if_true]
    have gz : (hl.put h3.next (.cells [.int .i64 0, .int .i64 0, .int .i64 0, .int .i64 0, .bool false, .int .i64 (rdMpM (rdM 1 (some s)).2).1.epoch, sv, ov, .nils] 29 2)).get h.next = some (.cells zRc 29 0) := by
      simp only [Heap.get_put, hne3, if_false]
      exact gz0
    have kx : ∀ b, b < h.next → (hl.put h3.next (.cells [.int .i64 0, .int .i64 0, .int .i64 0, .int .i64 0, .bool false, .int .i64 (rdMpM (rdM 1 (some s)).2).1.epoch, sv, ov, .nils] 29 2)).get b = h.get b := fun b hb => by
      have hb3 : ¬ b = h3.next := by omega
      simp only [Heap.get_put, hb3, if_false]
      exact (xh _ xl).2 b hb
    have xn : h.next ≤ (hl.put h3.next (.cells [.int .i64 0, .int .i64 0, .int .i64 0, .int .i64 0, .bool false, .int .i64 (rdMpM (rdM 1 (some s)).2).1.epoch, sv, ov, .nils] 29 2)).next := (xh _ xl).1
    have rpz : RR (h.next + 1) s (rdRcM (some s)).2 (hl.put h3.next (.cells [.int .i64 0, .int .i64 0, .int .i64 0, .int .i64 0, .bool false, .int .i64 (rdMpM (rdM 1 (some s)).2).1.epoch, sv, ov, .nils] 29 2)) := by
      rw [er]
      refine RR.frame rp5 (Nat.le_refl _) (by simp only [Heap.get_put, hnr, if_false])
    generalize hh9 : hl.put h3.next (.cells [.int .i64 0, .int .i64 0, .int .i64 0, .int .i64 0, .bool false, .int .i64 (rdMpM (rdM 1 (some s)).2).1.epoch, sv, ov, .nils] 29 2) = h9 at *
    clear er
    obtain ⟨_, _, _, e9, v9, a9, b9, gb, ha9, hst⟩ := rpz
    refine ans cl (fun ok lk est => ?_) (fun no hne => ?_) fun no => ?_
    · rw [est] at hst
      cases b9 with
      | true => simp at hst
      | false =>
        have ea : a9 = s.length := by
          simp only [Bool.false_eq_true, if_false, Option.some.injEq] at hst
          have := congrArg List.length hst
          simp only [List.length_nil, List.length_drop] at this
          omega
        have hnn : (a9 : Int) = (s.length : Int) := by omega
        simp only [gz, gr, gb, hnn, RW, r5.one, r6.one, R0, R1, R2, R3, R4, R5, R6, R7, R8, R9, VOp.fresh, bxC, bsC, R10, un, most, callsOf, List.contains_nil, List.contains_cons, beq_iff_eq, List.getElem?_cons_zero, List.getElem?_cons_succ, seval, Option.map_none, Int.reducePow, ↓reduceIte, Nat.reduceEqDiff, reduceCtorEq, and_self]
        exact q1 ok _ _ ((lk.put (Nat.lt_irrefl _) _).weak fun b hb _ => Nat.le_of_lt hb) rfl ⟨xn, fun b hb => by rw [Heap.get_put, if_neg (by omega)]; exact kx b hb⟩
    · cases b9 with
      | true =>
        simp only [gz, gr, gb, RW, hne, R0, R1, R2, R3, R4, R5, R6, R7, R8, R9, VOp.fresh, bxC, bsC, R10, un, most, callsOf, List.contains_nil, List.contains_cons, beq_iff_eq, List.getElem?_cons_zero, List.getElem?_cons_succ, seval, Option.map_none, Int.reducePow, ↓reduceIte, Nat.reduceEqDiff, reduceCtorEq, and_self]
        exact q2 no _ ⟨xn, fun b hb => by rw [Heap.get_put, if_neg (by omega)]; exact kx b hb⟩
      | false =>
        by_cases hnn : (a9 : Int) = (s.length : Int)
        · simp only [gz, gr, gb, hnn, RW, hne, R0, R1, R2, R3, R4, R5, R6, R7, R8, R9, VOp.fresh, bxC, bsC, R10, un, most, callsOf, List.contains_nil, List.contains_cons, beq_iff_eq, List.getElem?_cons_zero, List.getElem?_cons_succ, seval, Option.map_none, Int.reducePow, ↓reduceIte, Nat.reduceEqDiff, reduceCtorEq, and_self]
          exact q2 no _ ⟨xn, fun b hb => by rw [Heap.get_put, if_neg (by omega)]; exact kx b hb⟩
        · simp only [gz, gr, gb, hnn, RW, hne, R0, R1, R2, R3, R4, R5, R6, R7, R8, R9, VOp.fresh, bxC, bsC, R10, un, most, callsOf, List.contains_nil, List.contains_cons, beq_iff_eq, List.getElem?_cons_zero, List.getElem?_cons_succ, seval, Option.map_none, Int.reducePow, ↓reduceIte, Nat.reduceEqDiff, reduceCtorEq, and_self]
          exact q2 no _ ⟨xn, fun b hb => by rw [Heap.get_put, if_neg (by omega)]; exact kx b hb⟩
    · cases b9 with
      | true =>
        simp only [gz, gr, gb, RW, R0, R1, R2, R3, R4, R5, R6, R7, R8, R9, VOp.fresh, bxC, bsC, R10, un, most, callsOf, List.contains_nil, List.contains_cons, beq_iff_eq, List.getElem?_cons_zero, List.getElem?_cons_succ, seval, Option.map_none, Int.reducePow, ↓reduceIte, Nat.reduceEqDiff, reduceCtorEq, and_self]
        exact q2 no _ ⟨xn, fun b hb => by rw [Heap.get_put, if_neg (by omega)]; exact kx b hb⟩
      | false =>
        by_cases hnn : (a9 : Int) = (s.length : Int)
        · simp only [gz, gr, gb, hnn, RW, R0, R1, R2, R3, R4, R5, R6, R7, R8, R9, VOp.fresh, bxC, bsC, R10, un, most, callsOf, List.contains_nil, List.contains_cons, beq_iff_eq, List.getElem?_cons_zero, List.getElem?_cons_succ, seval, Option.map_none, Int.reducePow, ↓reduceIte, Nat.reduceEqDiff, reduceCtorEq, and_self]
          exact q2 no _ ⟨xn, fun b hb => by rw [Heap.get_put, if_neg (by omega)]; exact kx b hb⟩
        · simp only [gz, gr, gb, hnn, RW, R0, R1, R2, R3, R4, R5, R6, R7, R8, R9, VOp.fresh, bxC, bsC, R10, un, most, callsOf, List.contains_nil, List.contains_cons, beq_iff_eq, List.getElem?_cons_zero, List.getElem?_cons_succ, seval, Option.map_none, Int.reducePow, ↓reduceIte, Nat.reduceEqDiff, reduceCtorEq, and_self]
          exact q2 no _ ⟨xn, fun b hb => by rw [Heap.get_put, if_neg (by omega)]; exact kx b hb⟩
  · by_cases k1 : (rdM 1 (some s)).1 = 1
    · rw [k1] at g4
      simp only [g4, k1, R0, R1, R2, R3, R4, R5, R6, R7, R8, R9, VOp.fresh, bxC, bsC, R10, un, most, callsOf, List.contains_nil, List.contains_cons, beq_iff_eq, List.getElem?_cons_zero, List.getElem?_cons_succ, seval, Option.map_none, Int.reducePow, ↓reduceIte, Nat.reduceEqDiff, reduceCtorEq, and_self]
      refine rr_tx g rp4 fun h5 rp5 x5 => ?_
      have g5 := (x5.2 h3.next (by omega) (by omega)).trans g4
      have gz5 := (x5.2 h.next (by omega) (by omega)).trans g4b
      have x5' := x4'.trans x5
      have g6 : (h5.put h3.next (.cells [.int .i64 1, .int .i64 (rdM 1 (rdM 1 (some s)).2).1, .int .i64 (rdM 2 (rdM 1 (rdM 1 (some s)).2).2).1, .int .i64 0, .bool false, .int .i64 0, .nils, .nils, .nils] 29 2)).get h3.next = some (.cells [.int .i64 1, .int .i64 (rdM 1 (rdM 1 (some s)).2).1, .int .i64 (rdM 2 (rdM 1 (rdM 1 (some s)).2).2).1, .int .i64 0, .bool false, .int .i64 0, .nils, .nils, .nils] 29 2) := by rw [Heap.get_put, if_pos rfl]
      have gz6 : (h5.put h3.next (.cells [.int .i64 1, .int .i64 (rdM 1 (rdM 1 (some s)).2).1, .int .i64 (rdM 2 (rdM 1 (rdM 1 (some s)).2).2).1, .int .i64 0, .bool false, .int .i64 0, .nils, .nils, .nils] 29 2)).get h.next = some (.cells zRc 29 0) := by rw [Heap.get_put, if_neg hne3]; exact gz5
      have rp6 : RR (h.next + 1) s (rdM 2 (rdM 1 (rdM 1 (some s)).2).2).2 (h5.put h3.next (.cells [.int .i64 1, .int .i64 (rdM 1 (rdM 1 (some s)).2).1, .int .i64 (rdM 2 (rdM 1 (rdM 1 (some s)).2).2).1, .int .i64 0, .bool false, .int .i64 0, .nils, .nils, .nils] 29 2)) := by
        refine rp5.frame ?_ ?_
        · exact Nat.le_refl _
        · rw [Heap.get_put, if_neg hnr]
      have x6 : ExtX (h.next + 1) h2 (h5.put h3.next (.cells [.int .i64 1, .int .i64 (rdM 1 (rdM 1 (some s)).2).1, .int .i64 (rdM 2 (rdM 1 (rdM 1 (some s)).2).2).1, .int .i64 0, .bool false, .int .i64 0, .nils, .nils, .nils] 29 2)) := x5'.put' (by omega) _
      have n6 : (h5.put h3.next (.cells [.int .i64 1, .int .i64 (rdM 1 (rdM 1 (some s)).2).1, .int .i64 (rdM 2 (rdM 1 (rdM 1 (some s)).2).2).1, .int .i64 0, .bool false, .int .i64 0, .nils, .nils, .nils] 29 2)).next = h5.next := rfl
      have n5 := x5.1
      simp only [g5, RW, R0, R1, R2, R3, R4, R5, R6, R7, R8, R9, VOp.fresh, bxC, bsC, R10, un, most, callsOf, List.contains_nil, List.contains_cons, beq_iff_eq, List.getElem?_cons_zero, List.getElem?_cons_succ, seval, Option.map_none, Int.reducePow, ↓reduceIte, Nat.reduceEqDiff, reduceCtorEq, and_self]
      generalize h5.put h3.next (.cells [.int .i64 1, .int .i64 (rdM 1 (rdM 1 (some s)).2).1, .int .i64 (rdM 2 (rdM 1 (rdM 1 (some s)).2).2).1, .int .i64 0, .bool false, .int .i64 0, .nils, .nils, .nils] 29 2) = h6 at *
      refine rrnum_cl g (N := 4) (by decide) rp6 fun h7 rp7 x7 => ?_
      have hb4 := rdM_le (n := 4) (by decide) rp6.by
      have w1 : IntKind.i64.wrap ((rdM 4 (rdM 2 (rdM 1 (rdM 1 (some s)).2).2).2).1 - 1) = (rdM 4 (rdM 2 (rdM 1 (rdM 1 (some s)).2).2).2).1 - 1 := w64 (by omega) (by omega)
      have g7 := (x7.keep h3.next (by omega)).trans g6
      have gz7 := (x7.keep h.next (by omega)).trans gz6
      have e7 := x7.next
      have g8 : (h7.put h3.next (.cells [.int .i64 1, .int .i64 (rdM 1 (rdM 1 (some s)).2).1, .int .i64 (rdM 2 (rdM 1 (rdM 1 (some s)).2).2).1, .int .i64 ((rdM 4 (rdM 2 (rdM 1 (rdM 1 (some s)).2).2).2).1 - 1), .bool false, .int .i64 0, .nils, .nils, .nils] 29 3)).get h3.next = some (.cells [.int .i64 1, .int .i64 (rdM 1 (rdM 1 (some s)).2).1, .int .i64 (rdM 2 (rdM 1 (rdM 1 (some s)).2).2).1, .int .i64 ((rdM 4 (rdM 2 (rdM 1 (rdM 1 (some s)).2).2).2).1 - 1), .bool false, .int .i64 0, .nils, .nils, .nils] 29 3) := by rw [Heap.get_put, if_pos rfl]
      have gz8 : (h7.put h3.next (.cells [.int .i64 1, .int .i64 (rdM 1 (rdM 1 (some s)).2).1, .int .i64 (rdM 2 (rdM 1 (rdM 1 (some s)).2).2).1, .int .i64 ((rdM 4 (rdM 2 (rdM 1 (rdM 1 (some s)).2).2).2).1 - 1), .bool false, .int .i64 0, .nils, .nils, .nils] 29 3)).get h.next = some (.cells zRc 29 0) := by rw [Heap.get_put, if_neg hne3]; exact gz7
      have rp8 : RR (h.next + 1) s (rdM 4 (rdM 2 (rdM 1 (rdM 1 (some s)).2).2).2).2 (h7.put h3.next (.cells [.int .i64 1, .int .i64 (rdM 1 (rdM 1 (some s)).2).1, .int .i64 (rdM 2 (rdM 1 (rdM 1 (some s)).2).2).1, .int .i64 ((rdM 4 (rdM 2 (rdM 1 (rdM 1 (some s)).2).2).2).1 - 1), .bool false, .int .i64 0, .nils, .nils, .nils] 29 3)) := by
        refine rp7.frame ?_ ?_
        · exact Nat.le_refl _
        · rw [Heap.get_put, if_neg hnr]
      have x8 : ExtX (h.next + 1) h2 (h7.put h3.next (.cells [.int .i64 1, .int .i64 (rdM 1 (rdM 1 (some s)).2).1, .int .i64 (rdM 2 (rdM 1 (rdM 1 (some s)).2).2).1, .int .i64 ((rdM 4 (rdM 2 (rdM 1 (rdM 1 (some s)).2).2).2).1 - 1), .bool false, .int .i64 0, .nils, .nils, .nils] 29 3)) := (x6.trans x7.x).put' (by omega) _
      have n8 : (h7.put h3.next (.cells [.int .i64 1, .int .i64 (rdM 1 (rdM 1 (some s)).2).1, .int .i64 (rdM 2 (rdM 1 (rdM 1 (some s)).2).2).1, .int .i64 ((rdM 4 (rdM 2 (rdM 1 (rdM 1 (some s)).2).2).2).1 - 1), .bool false, .int .i64 0, .nils, .nils, .nils] 29 3)).next = h7.next := rfl
      simp only [g7, w1, RW, R0, R1, R2, R3, R4, R5, R6, R7, R8, R9, VOp.fresh, bxC, bsC, R10, un, most, callsOf, List.contains_nil, List.contains_cons, beq_iff_eq, List.getElem?_cons_zero, List.getElem?_cons_succ, seval, Option.map_none, Int.reducePow, ↓reduceIte, Nat.reduceEqDiff, reduceCtorEq, and_self]
      generalize h7.put h3.next (.cells [.int .i64 1, .int .i64 (rdM 1 (rdM 1 (some s)).2).1, .int .i64 (rdM 2 (rdM 1 (rdM 1 (some s)).2).2).1, .int .i64 ((rdM 4 (rdM 2 (rdM 1 (rdM 1 (some s)).2).2).2).1 - 1), .bool false, .int .i64 0, .nils, .nils, .nils] 29 3) = h8 at *
      refine rr_ops g rp8 fun w hl r9 rp9 x9 => ?_
      have g9 := (x9.2 h3.next (by omega) (by omega)).trans g8
      have gz0 := (x9.2 h.next (by omega) (by omega)).trans gz8
      have xl := x8.trans x9
      simp only [g9, RW, r9.one, r9.cells, R0, R1, R2, R3, R4, R5, R6, R7, R8, R9, VOp.fresh, bxC, bsC, R10, un, most, callsOf, List.contains_nil, List.contains_cons, beq_iff_eq, List.getElem?_cons_zero, List.getElem?_cons_succ, seval, Option.map_none, Int.reducePow, ↓reduceIte, Nat.reduceEqDiff, reduceCtorEq, and_self]
      have er : rdRcM (some s) = (⟨1, (rdM 1 (rdM 1 (some s)).2).1, (rdM 2 (rdM 1 (rdM 1 (some s)).2).2).1, (rdM 4 (rdM 2 (rdM 1 (rdM 1 (some s)).2).2).2).1 - 1, false, ⟨0, [], []⟩, (rdOpsM (rdM 4 (rdM 2 (rdM 1 (rdM 1 (some s)).2).2).2).2).1⟩, (rdOpsM (rdM 4 (rdM 2 (rdM 1 (rdM 1 (some s)).2).2).2).2).2) := by rw [rdRcM]; simp only [k1, Int.one_ne_zero, Int.reduceEq, if_true, if_false, or_self, or_true, true_or, or_false, false_or]
      have cl : Lvs (hl.put h3.next (.cells [.int .i64 1, .int .i64 (rdM 1 (rdM 1 (some s)).2).1, .int .i64 (rdM 2 (rdM 1 (rdM 1 (some s)).2).2).1, .int .i64 ((rdM 4 (rdM 2 (rdM 1 (rdM 1 (some s)).2).2).2).1 - 1), .bool false, .int .i64 0, .nils, .nils, w] 29 4)) (h.next < ·) [.int .i64 1, .int .i64 (rdM 1 (rdM 1 (some s)).2).1, .int .i64 (rdM 2 (rdM 1 (rdM 1 (some s)).2).2).1, .int .i64 ((rdM 4 (rdM 2 (rdM 1 (rdM 1 (some s)).2).2).2).1 - 1), .bool false, .int .i64 0, .nils, .nils, w] (cRc (rdRcM (some s)).1) := by
        rw [er]
        exact Lvs.cells9 (r := ⟨1, (rdM 1 (rdM 1 (some s)).2).1, (rdM 2 (rdM 1 (rdM 1 (some s)).2).2).1, (rdM 4 (rdM 2 (rdM 1 (rdM 1 (some s)).2).2).2).1 - 1, false, ⟨0, [], []⟩, (rdOpsM (rdM 4 (rdM 2 (rdM 1 (rdM 1 (some s)).2).2).2).2).1⟩) .nils .nils ((((lv_opsL r9).weak (B' := fun b => h.next < b ∧ b ≠ h3.next) fun b hb _ => ⟨by omega, by omega⟩).put (fun e => e.2 rfl) _).weak fun b hb _ => hb.1)
      have gr : (hl.put h3.next (.cells [.int .i64 1, .int .i64 (rdM 1 (rdM 1 (some s)).2).1, .int .i64 (rdM 2 (rdM 1 (rdM 1 (some s)).2).2).1, .int .i64 ((rdM 4 (rdM 2 (rdM 1 (rdM 1 (some s)).2).2).2).1 - 1), .bool false, .int .i64 0, .nils, .nils, w] 29 4)).get h3.next = some (.cells [.int .i64 1, .int .i64 (rdM 1 (rdM 1 (some s)).2).1, .int .i64 (rdM 2 (rdM 1 (rdM 1 (some s)).2).2).1, .int .i64 ((rdM 4 (rdM 2 (rdM 1 (rdM 1 (some s)).2).2).2).1 - 1), .bool false, .int .i64 0, .nils, .nils, w] 29 4) := by simp only [Heap.get_put, if_true]
      have gz : (hl.put h3.next (.cells [.int .i64 1, .int .i64 (rdM 1 (rdM 1 (some s)).2).1, .int .i64 (rdM 2 (rdM 1 (rdM 1 (some s)).2).2).1, .int .i64 ((rdM 4 (rdM 2 (rdM 1 (rdM 1 (some s)).2).2).2).1 - 1), .bool false, .int .i64 0, .nils, .nils, w] 29 4)).get h.next = some (.cells zRc 29 0) := by
        simp only [Heap.get_put, hne3, if_false]
        exact gz0
      have kx : ∀ b, b < h.next → (hl.put h3.next (.cells [.int .i64 1, .int .i64 (rdM 1 (rdM 1 (some s)).2).1, .int .i64 (rdM 2 (rdM 1 (rdM 1 (some s)).2).2).1, .int .i64 ((rdM 4 (rdM 2 (rdM 1 (rdM 1 (some s)).2).2).2).1 - 1), .bool false, .int .i64 0, .nils, .nils, w] 29 4)).get b = h.get b := fun b hb => by
        have hb3 : ¬ b = h3.next := by omega
        simp only [Heap.get_put, hb3, if_false]
        exact (xh _ xl).2 b hb
      have xn : h.next ≤ (hl.put h3.next (.cells [.int .i64 1, .int .i64 (rdM 1 (rdM 1 (some s)).2).1, .int .i64 (rdM 2 (rdM 1 (rdM 1 (some s)).2).2).1, .int .i64 ((rdM 4 (rdM 2 (rdM 1 (rdM 1 (some s)).2).2).2).1 - 1), .bool false, .int .i64 0, .nils, .nils, w] 29 4)).next := (xh _ xl).1
      have rpz : RR (h.next + 1) s (rdRcM (some s)).2 (hl.put h3.next (.cells [.int .i64 1, .int .i64 (rdM 1 (rdM 1 (some s)).2).1, .int .i64 (rdM 2 (rdM 1 (rdM 1 (some s)).2).2).1, .int .i64 ((rdM 4 (rdM 2 (rdM 1 (rdM 1 (some s)).2).2).2).1 - 1), .bool false, .int .i64 0, .nils, .nils, w] 29 4)) := by
        rw [er]
        refine RR.frame rp9 (Nat.le_refl _) (by simp only [Heap.get_put, hnr, if_false])
      generalize hh9 : hl.put h3.next (.cells [.int .i64 1, .int .i64 (rdM 1 (rdM 1 (some s)).2).1, .int .i64 (rdM 2 (rdM 1 (rdM 1 (some s)).2).2).1, .int .i64 ((rdM 4 (rdM 2 (rdM 1 (rdM 1 (some s)).2).2).2).1 - 1), .bool false, .int .i64 0, .nils, .nils, w] 29 4) = h9 at *
      clear er
      obtain ⟨_, _, _, e9, v9, a9, b9, gb, ha9, hst⟩ := rpz
      refine ans cl (fun ok lk est => ?_) (fun no hne => ?_) fun no => ?_
      · rw [est] at hst
        cases b9 with
        | true => simp at hst
        | false =>
          have ea : a9 = s.length := by
            simp only [Bool.false_eq_true, if_false, Option.some.injEq] at hst
            have := congrArg List.length hst
            simp only [List.length_nil, List.length_drop] at this
            omega
          have hnn : (a9 : Int) = (s.length : Int) := by omega
          simp only [gz, gr, gb, hnn, RW, r9.one, R0, R1, R2, R3, R4, R5, R6, R7, R8, R9, VOp.fresh, bxC, bsC, R10, un, most, callsOf, List.contains_nil, List.contains_cons, beq_iff_eq, List.getElem?_cons_zero, List.getElem?_cons_succ, seval, Option.map_none, Int.reducePow, ↓reduceIte, Nat.reduceEqDiff, reduceCtorEq, and_self]
          exact q1 ok _ _ ((lk.put (Nat.lt_irrefl _) _).weak fun b hb _ => Nat.le_of_lt hb) rfl ⟨xn, fun b hb => by rw [Heap.get_put, if_neg (by omega)]; exact kx b hb⟩
      · cases b9 with
        | true =>
          simp only [gz, gr, gb, RW, hne, R0, R1, R2, R3, R4, R5, R6, R7, R8, R9, VOp.fresh, bxC, bsC, R10, un, most, callsOf, List.contains_nil, List.contains_cons, beq_iff_eq, List.getElem?_cons_zero, List.getElem?_cons_succ, seval, Option.map_none, Int.reducePow, ↓reduceIte, Nat.reduceEqDiff, reduceCtorEq, and_self]
          exact q2 no _ ⟨xn, fun b hb => by rw [Heap.get_put, if_neg (by omega)]; exact kx b hb⟩
        | false =>
          by_cases hnn : (a9 : Int) = (s.length : Int)
          · simp only [gz, gr, gb, hnn, RW, hne, R0, R1, R2, R3, R4, R5, R6, R7, R8, R9, VOp.fresh, bxC, bsC, R10, un, most, callsOf, List.contains_nil, List.contains_cons, beq_iff_eq, List.getElem?_cons_zero, List.getElem?_cons_succ, seval, Option.map_none, Int.reducePow, ↓reduceIte, Nat.reduceEqDiff, reduceCtorEq, and_self]
            exact q2 no _ ⟨xn, fun b hb => by rw [Heap.get_put, if_neg (by omega)]; exact kx b hb⟩
          · simp only [gz, gr, gb, hnn, RW, hne, R0, R1, R2, R3, R4, R5, R6, R7, R8, R9, VOp.fresh, bxC, bsC, R10, un, most, callsOf, List.contains_nil, List.contains_cons, beq_iff_eq, List.getElem?_cons_zero, List.getElem?_cons_succ, seval, Option.map_none, Int.reducePow, ↓reduceIte, Nat.reduceEqDiff, reduceCtorEq, and_self]
            exact q2 no _ ⟨xn, fun b hb => by rw [Heap.get_put, if_neg (by omega)]; exact kx b hb⟩
      · cases b9 with
        | true =>
          simp only [gz, gr, gb, RW, R0, R1, R2, R3, R4, R5, R6, R7, R8, R9, VOp.fresh, bxC, bsC, R10, un, most, callsOf, List.contains_nil, List.contains_cons, beq_iff_eq, List.getElem?_cons_zero, List.getElem?_cons_succ, seval, Option.map_none, Int.reducePow, ↓reduceIte, Nat.reduceEqDiff, reduceCtorEq, and_self]
          exact q2 no _ ⟨xn, fun b hb => by rw [Heap.get_put, if_neg (by omega)]; exact kx b hb⟩
        | false =>
          by_cases hnn : (a9 : Int) = (s.length : Int)
          · simp only [gz, gr, gb, hnn, RW, R0, R1, R2, R3, R4, R5, R6, R7, R8, R9, VOp.fresh, bxC, bsC, R10, un, most, callsOf, List.contains_nil, List.contains_cons, beq_iff_eq, List.getElem?_cons_zero, List.getElem?_cons_succ, seval, Option.map_none, Int.reducePow, ↓reduceIte, Nat.reduceEqDiff, reduceCtorEq, and_self]
            exact q2 no _ ⟨xn, fun b hb => by rw [Heap.get_put, if_neg (by omega)]; exact kx b hb⟩
          · simp only [gz, gr, gb, hnn, RW, R0, R1, R2, R3, R4, R5, R6, R7, R8, R9, VOp.fresh, bxC, bsC, R10, un, most, callsOf, List.contains_nil, List.contains_cons, beq_iff_eq, List.getElem?_cons_zero, List.getElem?_cons_succ, seval, Option.map_none, Int.reducePow, ↓reduceIte, Nat.reduceEqDiff, reduceCtorEq, and_self]
            exact q2 no _ ⟨xn, fun b hb => by rw [Heap.get_put, if_neg (by omega)]; exact kx b hb⟩
    · by_cases k2 : (rdM 1 (some s)).1 = 2
      · rw [k2] at g4
        simp only [g4, k2, R0, R1, R2, R3, R4, R5, R6, R7, R8, R9, VOp.fresh, bxC, bsC, R10, un, most, callsOf, List.contains_nil, List.contains_cons, beq_iff_eq, List.getElem?_cons_zero, List.getElem?_cons_succ, seval, Option.map_none, Int.reducePow, ↓reduceIte, Nat.reduceEqDiff, reduceCtorEq, and_self]
        refine rr_tx g rp4 fun h5 rp5 x5 => ?_
        have g5 := (x5.2 h3.next (by omega) (by omega)).trans g4
        have gz5 := (x5.2 h.next (by omega) (by omega)).trans g4b
        have x5' := x4'.trans x5
        have g6 : (h5.put h3.next (.cells [.int .i64 2, .int .i64 (rdM 1 (rdM 1 (some s)).2).1, .int .i64 (rdM 2 (rdM 1 (rdM 1 (some s)).2).2).1, .int .i64 0, .bool false, .int .i64 0, .nils, .nils, .nils] 29 2)).get h3.next = some (.cells [.int .i64 2, .int .i64 (rdM 1 (rdM 1 (some s)).2).1, .int .i64 (rdM 2 (rdM 1 (rdM 1 (some s)).2).2).1, .int .i64 0, .bool false, .int .i64 0, .nils, .nils, .nils] 29 2) := by rw [Heap.get_put, if_pos rfl]
        have gz6 : (h5.put h3.next (.cells [.int .i64 2, .int .i64 (rdM 1 (rdM 1 (some s)).2).1, .int .i64 (rdM 2 (rdM 1 (rdM 1 (some s)).2).2).1, .int .i64 0, .bool false, .int .i64 0, .nils, .nils, .nils] 29 2)).get h.next = some (.cells zRc 29 0) := by rw [Heap.get_put, if_neg hne3]; exact gz5
        have rp6 : RR (h.next + 1) s (rdM 2 (rdM 1 (rdM 1 (some s)).2).2).2 (h5.put h3.next (.cells [.int .i64 2, .int .i64 (rdM 1 (rdM 1 (some s)).2).1, .int .i64 (rdM 2 (rdM 1 (rdM 1 (some s)).2).2).1, .int .i64 0, .bool false, .int .i64 0, .nils, .nils, .nils] 29 2)) := by
          refine rp5.frame ?_ ?_
          · exact Nat.le_refl _
          · rw [Heap.get_put, if_neg hnr]
        have x6 : ExtX (h.next + 1) h2 (h5.put h3.next (.cells [.int .i64 2, .int .i64 (rdM 1 (rdM 1 (some s)).2).1, .int .i64 (rdM 2 (rdM 1 (rdM 1 (some s)).2).2).1, .int .i64 0, .bool false, .int .i64 0, .nils, .nils, .nils] 29 2)) := x5'.put' (by omega) _
        have n6 : (h5.put h3.next (.cells [.int .i64 2, .int .i64 (rdM 1 (rdM 1 (some s)).2).1, .int .i64 (rdM 2 (rdM 1 (rdM 1 (some s)).2).2).1, .int .i64 0, .bool false, .int .i64 0, .nils, .nils, .nils] 29 2)).next = h5.next := rfl
        have n5 := x5.1
        simp only [g5, RW, R0, R1, R2, R3, R4, R5, R6, R7, R8, R9, VOp.fresh, bxC, bsC, R10, un, most, callsOf, List.contains_nil, List.contains_cons, beq_iff_eq, List.getElem?_cons_zero, List.getElem?_cons_succ, seval, Option.map_none, Int.reducePow, ↓reduceIte, Nat.reduceEqDiff, reduceCtorEq, and_self]
        generalize h5.put h3.next (.cells [.int .i64 2, .int .i64 (rdM 1 (rdM 1 (some s)).2).1, .int .i64 (rdM 2 (rdM 1 (rdM 1 (some s)).2).2).1, .int .i64 0, .bool false, .int .i64 0, .nils, .nils, .nils] 29 2) = h6 at *
        refine rrnum_cl g (N := 4) (by decide) rp6 fun h7 rp7 x7 => ?_
        have hb4 := rdM_le (n := 4) (by decide) rp6.by
        have w1 : IntKind.i64.wrap ((rdM 4 (rdM 2 (rdM 1 (rdM 1 (some s)).2).2).2).1 - 1) = (rdM 4 (rdM 2 (rdM 1 (rdM 1 (some s)).2).2).2).1 - 1 := w64 (by omega) (by omega)
        have g7 := (x7.keep h3.next (by omega)).trans g6
        have gz7 := (x7.keep h.next (by omega)).trans gz6
        have e7 := x7.next
        have g8 : (h7.put h3.next (.cells [.int .i64 2, .int .i64 (rdM 1 (rdM 1 (some s)).2).1, .int .i64 (rdM 2 (rdM 1 (rdM 1 (some s)).2).2).1, .int .i64 ((rdM 4 (rdM 2 (rdM 1 (rdM 1 (some s)).2).2).2).1 - 1), .bool false, .int .i64 0, .nils, .nils, .nils] 29 3)).get h3.next = some (.cells [.int .i64 2, .int .i64 (rdM 1 (rdM 1 (some s)).2).1, .int .i64 (rdM 2 (rdM 1 (rdM 1 (some s)).2).2).1, .int .i64 ((rdM 4 (rdM 2 (rdM 1 (rdM 1 (some s)).2).2).2).1 - 1), .bool false, .int .i64 0, .nils, .nils, .nils] 29 3) := by rw [Heap.get_put, if_pos rfl]
        have gz8 : (h7.put h3.next (.cells [.int .i64 2, .int .i64 (rdM 1 (rdM 1 (some s)).2).1, .int .i64 (rdM 2 (rdM 1 (rdM 1 (some s)).2).2).1, .int .i64 ((rdM 4 (rdM 2 (rdM 1 (rdM 1 (some s)).2).2).2).1 - 1), .bool false, .int .i64 0, .nils, .nils, .nils] 29 3)).get h.next = some (.cells zRc 29 0) := by rw [Heap.get_put, if_neg hne3]; exact gz7
        have rp8 : RR (h.next + 1) s (rdM 4 (rdM 2 (rdM 1 (rdM 1 (some s)).2).2).2).2 (h7.put h3.next (.cells [.int .i64 2, .int .i64 (rdM 1 (rdM 1 (some s)).2).1, .int .i64 (rdM 2 (rdM 1 (rdM 1 (some s)).2).2).1, .int .i64 ((rdM 4 (rdM 2 (rdM 1 (rdM 1 (some s)).2).2).2).1 - 1), .bool false, .int .i64 0, .nils, .nils, .nils] 29 3)) := by
          refine rp7.frame ?_ ?_
          · exact Nat.le_refl _
          · rw [Heap.get_put, if_neg hnr]
        have x8 : ExtX (h.next + 1) h2 (h7.put h3.next (.cells [.int .i64 2, .int .i64 (rdM 1 (rdM 1 (some s)).2).1, .int .i64 (rdM 2 (rdM 1 (rdM 1 (some s)).2).2).1, .int .i64 ((rdM 4 (rdM 2 (rdM 1 (rdM 1 (some s)).2).2).2).1 - 1), .bool false, .int .i64 0, .nils, .nils, .nils] 29 3)) := (x6.trans x7.x).put' (by omega) _
        have n8 : (h7.put h3.next (.cells [.int .i64 2, .int .i64 (rdM 1 (rdM 1 (some s)).2).1, .int .i64 (rdM 2 (rdM 1 (rdM 1 (some s)).2).2).1, .int .i64 ((rdM 4 (rdM 2 (rdM 1 (rdM 1 (some s)).2).2).2).1 - 1), .bool false, .int .i64 0, .nils, .nils, .nils] 29 3)).next = h7.next := rfl
        simp only [g7, w1, RW, R0, R1, R2, R3, R4, R5, R6, R7, R8, R9, VOp.fresh, bxC, bsC, R10, un, most, callsOf, List.contains_nil, List.contains_cons, beq_iff_eq, List.getElem?_cons_zero, List.getElem?_cons_succ, seval, Option.map_none, Int.reducePow, ↓reduceIte, Nat.reduceEqDiff, reduceCtorEq, and_self]
        generalize h7.put h3.next (.cells [.int .i64 2, .int .i64 (rdM 1 (rdM 1 (some s)).2).1, .int .i64 (rdM 2 (rdM 1 (rdM 1 (some s)).2).2).1, .int .i64 ((rdM 4 (rdM 2 (rdM 1 (rdM 1 (some s)).2).2).2).1 - 1), .bool false, .int .i64 0, .nils, .nils, .nils] 29 3) = h8 at *
        refine rr_ops g rp8 fun w hl r9 rp9 x9 => ?_
        have g9 := (x9.2 h3.next (by omega) (by omega)).trans g8
        have gz0 := (x9.2 h.next (by omega) (by omega)).trans gz8
        have xl := x8.trans x9
        simp only [g9, RW, r9.one, r9.cells, R0, R1, R2, R3, R4, R5, R6, R7, R8, R9, VOp.fresh, bxC, bsC, R10, un, most, callsOf, List.contains_nil, List.contains_cons, beq_iff_eq, List.getElem?_cons_zero, List.getElem?_cons_succ, seval, Option.map_none, Int.reducePow, ↓reduceIte, Nat.reduceEqDiff, reduceCtorEq, and_self]
        have er : rdRcM (some s) = (⟨2, (rdM 1 (rdM 1 (some s)).2).1, (rdM 2 (rdM 1 (rdM 1 (some s)).2).2).1, (rdM 4 (rdM 2 (rdM 1 (rdM 1 (some s)).2).2).2).1 - 1, false, ⟨0, [], []⟩, (rdOpsM (rdM 4 (rdM 2 (rdM 1 (rdM 1 (some s)).2).2).2).2).1⟩, (rdOpsM (rdM 4 (rdM 2 (rdM 1 (rdM 1 (some s)).2).2).2).2).2) := by rw [rdRcM]; simp only [k2, Int.one_ne_zero, Int.reduceEq, if_true, if_false, or_self, or_true, true_or, or_false, false_or]
        have cl : Lvs (hl.put h3.next (.cells [.int .i64 2, .int .i64 (rdM 1 (rdM 1 (some s)).2).1, .int .i64 (rdM 2 (rdM 1 (rdM 1 (some s)).2).2).1, .int .i64 ((rdM 4 (rdM 2 (rdM 1 (rdM 1 (some s)).2).2).2).1 - 1), .bool false, .int .i64 0, .nils, .nils, w] 29 4)) (h.next < ·) [.int .i64 2, .int .i64 (rdM 1 (rdM 1 (some s)).2).1, .int .i64 (rdM 2 (rdM 1 (rdM 1 (some s)).2).2).1, .int .i64 ((rdM 4 (rdM 2 (rdM 1 (rdM 1 (some s)).2).2).2).1 - 1), .bool false, .int .i64 0, .nils, .nils, w] (cRc (rdRcM (some s)).1) := by
          rw [er]
          exact Lvs.cells9 (r := ⟨2, (rdM 1 (rdM 1 (some s)).2).1, (rdM 2 (rdM 1 (rdM 1 (some s)).2).2).1, (rdM 4 (rdM 2 (rdM 1 (rdM 1 (some s)).2).2).2).1 - 1, false, ⟨0, [], []⟩, (rdOpsM (rdM 4 (rdM 2 (rdM 1 (rdM 1 (some s)).2).2).2).2).1⟩) .nils .nils ((((lv_opsL r9).weak (B' := fun b => h.next < b ∧ b ≠ h3.next) fun b hb _ => ⟨by omega, by omega⟩).put (fun e => e.2 rfl) _).weak fun b hb _ => hb.1)
        have gr : (hl.put h3.next (.cells [.int .i64 2, .int .i64 (rdM 1 (rdM 1 (some s)).2).1, .int .i64 (rdM 2 (rdM 1 (rdM 1 (some s)).2).2).1, .int .i64 ((rdM 4 (rdM 2 (rdM 1 (rdM 1 (some s)).2).2).2).1 - 1), .bool false, .int .i64 0, .nils, .nils, w] 29 4)).get h3.next = some (.cells [.int .i64 2, .int .i64 (rdM 1 (rdM 1 (some s)).2).1, .int .i64 (rdM 2 (rdM 1 (rdM 1 (some s)).2).2).1, .int .i64 ((rdM 4 (rdM 2 (rdM 1 (rdM 1 (some s)).2).2).2).1 - 1), .bool false, .int .i64 0, .nils, .nils, w] 29 4) := by simp only [Heap.get_put, if_true]
        have gz : (hl.put h3.next (.cells [.int .i64 2, .int .i64 (rdM 1 (rdM 1 (some s)).2).1, .int .i64 (rdM 2 (rdM 1 (rdM 1 (some s)).2).2).1, .int .i64 ((rdM 4 (rdM 2 (rdM 1 (rdM 1 (some s)).2).2).2).1 - 1), .bool false, .int .i64 0, .nils, .nils, w] 29 4)).get h.next = some (.cells zRc 29 0) := by
          simp only [Heap.get_put, hne3, if_false]
          exact gz0
        have kx : ∀ b, b < h.next → (hl.put h3.next (.cells [.int .i64 2, .int .i64 (rdM 1 (rdM 1 (some s)).2).1, .int .i64 (rdM 2 (rdM 1 (rdM 1 (some s)).2).2).1, .int .i64 ((rdM 4 (rdM 2 (rdM 1 (rdM 1 (some s)).2).2).2).1 - 1), .bool false, .int .i64 0, .nils, .nils, w] 29 4)).get b = h.get b := fun b hb => by
          have hb3 : ¬ b = h3.next := by omega
          simp only [Heap.get_put, hb3, if_false]
          exact (xh _ xl).2 b hb
        have xn : h.next ≤ (hl.put h3.next (.cells [.int .i64 2, .int .i64 (rdM 1 (rdM 1 (some s)).2).1, .int .i64 (rdM 2 (rdM 1 (rdM 1 (some s)).2).2).1, .int .i64 ((rdM 4 (rdM 2 (rdM 1 (rdM 1 (some s)).2).2).2).1 - 1), .bool false, .int .i64 0, .nils, .nils, w] 29 4)).next := (xh _ xl).1
        have rpz : RR (h.next + 1) s (rdRcM (some s)).2 (hl.put h3.next (.cells [.int .i64 2, .int .i64 (rdM 1 (rdM 1 (some s)).2).1, .int .i64 (rdM 2 (rdM 1 (rdM 1 (some s)).2).2).1, .int .i64 ((rdM 4 (rdM 2 (rdM 1 (rdM 1 (some s)).2).2).2).1 - 1), .bool false, .int .i64 0, .nils, .nils, w] 29 4)) := by
          rw [er]
          refine RR.frame rp9 (Nat.le_refl _) (by simp only [Heap.get_put, hnr, if_false])
        generalize hh9 : hl.put h3.next (.cells [.int .i64 2, .int .i64 (rdM 1 (rdM 1 (some s)).2).1, .int .i64 (rdM 2 (rdM 1 (rdM 1 (some s)).2).2).1, .int .i64 ((rdM 4 (rdM 2 (rdM 1 (rdM 1 (some s)).2).2).2).1 - 1), .bool false, .int .i64 0, .nils, .nils, w] 29 4) = h9 at *
        clear er
        obtain ⟨_, _, _, e9, v9, a9, b9, gb, ha9, hst⟩ := rpz
        refine ans cl (fun ok lk est => ?_) (fun no hne => ?_) fun no => ?_
        · rw [est] at hst
          cases b9 with
          | true => simp at hst
          | false =>
            have ea : a9 = s.length := by
              simp only [Bool.false_eq_true, if_false, Option.some.injEq] at hst
              have := congrArg List.length hst
              simp only [List.length_nil, List.length_drop] at this
              omega
            have hnn : (a9 : Int) = (s.length : Int) := by omega
            simp only [gz, gr, gb, hnn, RW, r9.one, R0, R1, R2, R3, R4, R5, R6, R7, R8, R9, VOp.fresh, bxC, bsC, R10, un, most, callsOf, List.contains_nil, List.contains_cons, beq_iff_eq, List.getElem?_cons_zero, List.getElem?_cons_succ, seval, Option.map_none, Int.reducePow, ↓reduceIte, Nat.reduceEqDiff, reduceCtorEq, and_self]
            exact q1 ok _ _ ((lk.put (Nat.lt_irrefl _) _).weak fun b hb _ => Nat.le_of_lt hb) rfl ⟨xn, fun b hb => by rw [Heap.get_put, if_neg (by omega)]; exact kx b hb⟩
        · cases b9 with
          | true =>
            simp only [gz, gr, gb, RW, hne, R0, R1, R2, R3, R4, R5, R6, R7, R8, R9, VOp.fresh, bxC, bsC, R10, un, most, callsOf, List.contains_nil, List.contains_cons, beq_iff_eq, List.getElem?_cons_zero, List.getElem?_cons_succ, seval, Option.map_none, Int.reducePow, ↓reduceIte, Nat.reduceEqDiff, reduceCtorEq, and_self]
            exact q2 no _ ⟨xn, fun b hb => by rw [Heap.get_put, if_neg (by omega)]; exact kx b hb⟩
          | false =>
            by_cases hnn : (a9 : Int) = (s.length : Int)
            · simp only [gz, gr, gb, hnn, RW, hne, R0, R1, R2, R3, R4, R5, R6, R7, R8, R9, VOp.fresh, bxC, bsC, R10, un, most, callsOf, List.contains_nil, List.contains_cons, beq_iff_eq, List.getElem?_cons_zero, List.getElem?_cons_succ, seval, Option.map_none, Int.reducePow, ↓reduceIte, Nat.reduceEqDiff, reduceCtorEq, and_self]
              exact q2 no _ ⟨xn, fun b hb => by rw [Heap.get_put, if_neg (by omega)]; exact kx b hb⟩
            · simp only [gz, gr, gb, hnn, RW, hne, R0, R1, R2, R3, R4, R5, R6, R7, R8, R9, VOp.fresh, bxC, bsC, R10, un, most, callsOf, List.contains_nil, List.contains_cons, beq_iff_eq, List.getElem?_cons_zero, List.getElem?_cons_succ, seval, Option.map_none, Int.reducePow, ↓reduceIte, Nat.reduceEqDiff, reduceCtorEq, and_self]
              exact q2 no _ ⟨xn, fun b hb => by rw [Heap.get_put, if_neg (by omega)]; exact kx b hb⟩
        · cases b9 with
          | true =>
            simp only [gz, gr, gb, RW, R0, R1, R2, R3, R4, R5, R6, R7, R8, R9, VOp.fresh, bxC, bsC, R10, un, most, callsOf, List.contains_nil, List.contains_cons, beq_iff_eq, List.getElem?_cons_zero, List.getElem?_cons_succ, seval, Option.map_none, Int.reducePow, ↓reduceIte, Nat.reduceEqDiff, reduceCtorEq, and_self]
            exact q2 no _ ⟨xn, fun b hb => by rw [Heap.get_put, if_neg (by omega)]; exact kx b hb⟩
          | false =>
            by_cases hnn : (a9 : Int) = (s.length : Int)
            · simp only [gz, gr, gb, hnn, RW, R0, R1, R2, R3, R4, R5, R6, R7, R8, R9, VOp.fresh, bxC, bsC, R10, un, most, callsOf, List.contains_nil, List.contains_cons, beq_iff_eq, List.getElem?_cons_zero, List.getElem?_cons_succ, seval, Option.map_none, Int.reducePow, ↓reduceIte, Nat.reduceEqDiff, reduceCtorEq, and_self]
              exact q2 no _ ⟨xn, fun b hb => by rw [Heap.get_put, if_neg (by omega)]; exact kx b hb⟩
            · simp only [gz, gr, gb, hnn, RW, R0, R1, R2, R3, R4, R5, R6, R7, R8, R9, VOp.fresh, bxC, bsC, R10, un, most, callsOf, List.contains_nil, List.contains_cons, beq_iff_eq, List.getElem?_cons_zero, List.getElem?_cons_succ, seval, Option.map_none, Int.reducePow, ↓reduceIte, Nat.reduceEqDiff, reduceCtorEq, and_self]
              exact q2 no _ ⟨xn, fun b hb => by rw [Heap.get_put, if_neg (by omega)]; exact kx b hb⟩
      · by_cases k3 : (rdM 1 (some s)).1 = 3
        · rw [k3] at g4
          simp only [g4, k3, R0, R1, R2, R3, R4, R5, R6, R7, R8, R9, VOp.fresh, bxC, bsC, R10, un, most, callsOf, List.contains_nil, List.contains_cons, beq_iff_eq, List.getElem?_cons_zero, List.getElem?_cons_succ, seval, Option.map_none, Int.reducePow, ↓reduceIte, Nat.reduceEqDiff, reduceCtorEq, and_self]
          refine rr_tx g rp4 fun h5 rp5 x5 => ?_
          have g5 := (x5.2 h3.next (by omega) (by omega)).trans g4
          have gz5 := (x5.2 h.next (by omega) (by omega)).trans g4b
          have x5' := x4'.trans x5
          have g6 : (h5.put h3.next (.cells [.int .i64 3, .int .i64 (rdM 1 (rdM 1 (some s)).2).1, .int .i64 (rdM 2 (rdM 1 (rdM 1 (some s)).2).2).1, .int .i64 0, .bool false, .int .i64 0, .nils, .nils, .nils] 29 2)).get h3.next = some (.cells [.int .i64 3, .int .i64 (rdM 1 (rdM 1 (some s)).2).1, .int .i64 (rdM 2 (rdM 1 (rdM 1 (some s)).2).2).1, .int .i64 0, .bool false, .int .i64 0, .nils, .nils, .nils] 29 2) := by rw [Heap.get_put, if_pos rfl]
          have gz6 : (h5.put h3.next (.cells [.int .i64 3, .int .i64 (rdM 1 (rdM 1 (some s)).2).1, .int .i64 (rdM 2 (rdM 1 (rdM 1 (some s)).2).2).1, .int .i64 0, .bool false, .int .i64 0, .nils, .nils, .nils] 29 2)).get h.next = some (.cells zRc 29 0) := by rw [Heap.get_put, if_neg hne3]; exact gz5
          have rp6 : RR (h.next + 1) s (rdM 2 (rdM 1 (rdM 1 (some s)).2).2).2 (h5.put h3.next (.cells [.int .i64 3, .int .i64 (rdM 1 (rdM 1 (some s)).2).1, .int .i64 (rdM 2 (rdM 1 (rdM 1 (some s)).2).2).1, .int .i64 0, .bool false, .int .i64 0, .nils, .nils, .nils] 29 2)) := by
            refine rp5.frame ?_ ?_
            · exact Nat.le_refl _
            · rw [Heap.get_put, if_neg hnr]
          have x6 : ExtX (h.next + 1) h2 (h5.put h3.next (.cells [.int .i64 3, .int .i64 (rdM 1 (rdM 1 (some s)).2).1, .int .i64 (rdM 2 (rdM 1 (rdM 1 (some s)).2).2).1, .int .i64 0, .bool false, .int .i64 0, .nils, .nils, .nils] 29 2)) := x5'.put' (by omega) _
          have n6 : (h5.put h3.next (.cells [.int .i64 3, .int .i64 (rdM 1 (rdM 1 (some s)).2).1, .int .i64 (rdM 2 (rdM 1 (rdM 1 (some s)).2).2).1, .int .i64 0, .bool false, .int .i64 0, .nils, .nils, .nils] 29 2)).next = h5.next := rfl
          have n5 := x5.1
          simp only [g5, RW, R0, R1, R2, R3, R4, R5, R6, R7, R8, R9, VOp.fresh, bxC, bsC, R10, un, most, callsOf, List.contains_nil, List.contains_cons, beq_iff_eq, List.getElem?_cons_zero, List.getElem?_cons_succ, seval, Option.map_none, Int.reducePow, ↓reduceIte, Nat.reduceEqDiff, reduceCtorEq, and_self]
          generalize h5.put h3.next (.cells [.int .i64 3, .int .i64 (rdM 1 (rdM 1 (some s)).2).1, .int .i64 (rdM 2 (rdM 1 (rdM 1 (some s)).2).2).1, .int .i64 0, .bool false, .int .i64 0, .nils, .nils, .nils] 29 2) = h6 at *
          refine rr_bool g rp6 fun hl rp7 x7 => ?_
          have g7 := (x7.2 h3.next (by omega) (by omega)).trans g6
          have gz0 := (x7.2 h.next (by omega) (by omega)).trans gz6
          have xl := x6.trans x7
          simp only [g7, RW, R0, R1, R2, R3, R4, R5, R6, R7, R8, R9, VOp.fresh, bxC, bsC, R10, un, most, callsOf, List.contains_nil, List.contains_cons, beq_iff_eq, List.getElem?_cons_zero, List.getElem?_cons_succ, seval, Option.map_none, Int.reducePow, ↓reduceIte, Nat.reduceEqDiff, reduceCtorEq, and_self]
          have er : rdRcM (some s) = (⟨3, (rdM 1 (rdM 1 (some s)).2).1, (rdM 2 (rdM 1 (rdM 1 (some s)).2).2).1, 0, (rdBitM (rdM 2 (rdM 1 (rdM 1 (some s)).2).2).2).1, ⟨0, [], []⟩, []⟩, (rdBitM (rdM 2 (rdM 1 (rdM 1 (some s)).2).2).2).2) := by rw [rdRcM]; simp only [k3, Int.one_ne_zero, Int.reduceEq, if_true, if_false, or_self, or_true, true_or, or_false, false_or]
          have cl : Lvs (hl.put h3.next (.cells [.int .i64 3, .int .i64 (rdM 1 (rdM 1 (some s)).2).1, .int .i64 (rdM 2 (rdM 1 (rdM 1 (some s)).2).2).1, .int .i64 0, .bool (rdBitM (rdM 2 (rdM 1 (rdM 1 (some s)).2).2).2).1, .int .i64 0, .nils, .nils, .nils] 29 3)) (h.next < ·) [.int .i64 3, .int .i64 (rdM 1 (rdM 1 (some s)).2).1, .int .i64 (rdM 2 (rdM 1 (rdM 1 (some s)).2).2).1, .int .i64 0, .bool (rdBitM (rdM 2 (rdM 1 (rdM 1 (some s)).2).2).2).1, .int .i64 0, .nils, .nils, .nils] (cRc (rdRcM (some s)).1) := by
            rw [er]
            exact Lvs.cells9 (r := ⟨3, (rdM 1 (rdM 1 (some s)).2).1, (rdM 2 (rdM 1 (rdM 1 (some s)).2).2).1, 0, (rdBitM (rdM 2 (rdM 1 (rdM 1 (some s)).2).2).2).1, ⟨0, [], []⟩, []⟩) .nils .nils .nils
          have gr : (hl.put h3.next (.cells [.int .i64 3, .int .i64 (rdM 1 (rdM 1 (some s)).2).1, .int .i64 (rdM 2 (rdM 1 (rdM 1 (some s)).2).2).1, .int .i64 0, .bool (rdBitM (rdM 2 (rdM 1 (rdM 1 (some s)).2).2).2).1, .int .i64 0, .nils, .nils, .nils] 29 3)).get h3.next = some (.cells [.int .i64 3, .int .i64 (rdM 1 (rdM 1 (some s)).2).1, .int .i64 (rdM 2 (rdM 1 (rdM 1 (some s)).2).2).1, .int .i64 0, .bool (rdBitM (rdM 2 (rdM 1 (rdM 1 (some s)).2).2).2).1, .int .i64 0, .nils, .nils, .nils] 29 3) := by simp only [Heap.get_put, if_true]
          have gz : (hl.put h3.next (.cells [.int .i64 3, .int .i64 (rdM 1 (rdM 1 (some s)).2).1, .int .i64 (rdM 2 (rdM 1 (rdM 1 (some s)).2).2).1, .int .i64 0, .bool (rdBitM (rdM 2 (rdM 1 (rdM 1 (some s)).2).2).2).1, .int .i64 0, .nils, .nils, .nils] 29 3)).get h.next = some (.cells zRc 29 0) := by
            simp only [Heap.get_put, hne3, if_false]
            exact gz0
          have kx : ∀ b, b < h.next → (hl.put h3.next (.cells [.int .i64 3, .int .i64 (rdM 1 (rdM 1 (some s)).2).1, .int .i64 (rdM 2 (rdM 1 (rdM 1 (some s)).2).2).1, .int .i64 0, .bool (rdBitM (rdM 2 (rdM 1 (rdM 1 (some s)).2).2).2).1, .int .i64 0, .nils, .nils, .nils] 29 3)).get b = h.get b := fun b hb => by
            have hb3 : ¬ b = h3.next := by omega
            simp only [Heap.get_put, hb3, if_false]
            exact (xh _ xl).2 b hb
          have xn : h.next ≤ (hl.put h3.next (.cells [.int .i64 3, .int .i64 (rdM 1 (rdM 1 (some s)).2).1, .int .i64 (rdM 2 (rdM 1 (rdM 1 (some s)).2).2).1, .int .i64 0, .bool (rdBitM (rdM 2 (rdM 1 (rdM 1 (some s)).2).2).2).1, .int .i64 0, .nils, .nils, .nils] 29 3)).next := (xh _ xl).1
          have rpz : RR (h.next + 1) s (rdRcM (some s)).2 (hl.put h3.next (.cells [.int .i64 3, .int .i64 (rdM 1 (rdM 1 (some s)).2).1, .int .i64 (rdM 2 (rdM 1 (rdM 1 (some s)).2).2).1, .int .i64 0, .bool (rdBitM (rdM 2 (rdM 1 (rdM 1 (some s)).2).2).2).1, .int .i64 0, .nils, .nils, .nils] 29 3)) := by
            rw [er]
            refine RR.frame rp7 (Nat.le_refl _) (by simp only [Heap.get_put, hnr, if_false])
          generalize hh9 : hl.put h3.next (.cells [.int .i64 3, .int .i64 (rdM 1 (rdM 1 (some s)).2).1, .int .i64 (rdM 2 (rdM 1 (rdM 1 (some s)).2).2).1, .int .i64 0, .bool (rdBitM (rdM 2 (rdM 1 (rdM 1 (some s)).2).2).2).1, .int .i64 0, .nils, .nils, .nils] 29 3) = h9 at *
          clear er
          obtain ⟨_, _, _, e9, v9, a9, b9, gb, ha9, hst⟩ := rpz
          refine ans cl (fun ok lk est => ?_) (fun no hne => ?_) fun no => ?_
          · rw [est] at hst
            cases b9 with
            | true => simp at hst
            | false =>
              have ea : a9 = s.length := by
                simp only [Bool.false_eq_true, if_false, Option.some.injEq] at hst
                have := congrArg List.length hst
                simp only [List.length_nil, List.length_drop] at this
                omega
              have hnn : (a9 : Int) = (s.length : Int) := by omega
              simp only [gz, gr, gb, hnn, RW, R0, R1, R2, R3, R4, R5, R6, R7, R8, R9, VOp.fresh, bxC, bsC, R10, un, most, callsOf, List.contains_nil, List.contains_cons, beq_iff_eq, List.getElem?_cons_zero, List.getElem?_cons_succ, seval, Option.map_none, Int.reducePow, ↓reduceIte, Nat.reduceEqDiff, reduceCtorEq, and_self]
              exact q1 ok _ _ ((lk.put (Nat.lt_irrefl _) _).weak fun b hb _ => Nat.le_of_lt hb) rfl ⟨xn, fun b hb => by rw [Heap.get_put, if_neg (by omega)]; exact kx b hb⟩
          · cases b9 with
            | true =>
              simp only [gz, gr, gb, RW, hne, R0, R1, R2, R3, R4, R5, R6, R7, R8, R9, VOp.fresh, bxC, bsC, R10, un, most, callsOf, List.contains_nil, List.contains_cons, beq_iff_eq, List.getElem?_cons_zero, List.getElem?_cons_succ, seval, Option.map_none, Int.reducePow, ↓reduceIte, Nat.reduceEqDiff, reduceCtorEq, and_self]
              exact q2 no _ ⟨xn, fun b hb => by rw [Heap.get_put, if_neg (by omega)]; exact kx b hb⟩
            | false =>
              by_cases hnn : (a9 : Int) = (s.length : Int)
              · simp only [gz, gr, gb, hnn, RW, hne, R0, R1, R2, R3, R4, R5, R6, R7, R8, R9, VOp.fresh, bxC, bsC, R10, un, most, callsOf, List.contains_nil, List.contains_cons, beq_iff_eq, List.getElem?_cons_zero, List.getElem?_cons_succ, seval, Option.map_none, Int.reducePow, ↓reduceIte, Nat.reduceEqDiff, reduceCtorEq, and_self]
                exact q2 no _ ⟨xn, fun b hb => by rw [Heap.get_put, if_neg (by omega)]; exact kx b hb⟩
              · simp only [gz, gr, gb, hnn, RW, hne, R0, R1, R2, R3, R4, R5, R6, R7, R8, R9, VOp.fresh, bxC, bsC, R10, un, most, callsOf, List.contains_nil, List.contains_cons, beq_iff_eq, List.getElem?_cons_zero, List.getElem?_cons_succ, seval, Option.map_none, Int.reducePow, ↓reduceIte, Nat.reduceEqDiff, reduceCtorEq, and_self]
                exact q2 no _ ⟨xn, fun b hb => by rw [Heap.get_put, if_neg (by omega)]; exact kx b hb⟩
          · cases b9 with
            | true =>
              simp only [gz, gr, gb, RW, R0, R1, R2, R3, R4, R5, R6, R7, R8, R9, VOp.fresh, bxC, bsC, R10, un, most, callsOf, List.contains_nil, List.contains_cons, beq_iff_eq, List.getElem?_cons_zero, List.getElem?_cons_succ, seval, Option.map_none, Int.reducePow, ↓reduceIte, Nat.reduceEqDiff, reduceCtorEq, and_self]
              exact q2 no _ ⟨xn, fun b hb => by rw [Heap.get_put, if_neg (by omega)]; exact kx b hb⟩
            | false =>
              by_cases hnn : (a9 : Int) = (s.length : Int)
              · simp only [gz, gr, gb, hnn, RW, R0, R1, R2, R3, R4, R5, R6, R7, R8, R9, VOp.fresh, bxC, bsC, R10, un, most, callsOf, List.contains_nil, List.contains_cons, beq_iff_eq, List.getElem?_cons_zero, List.getElem?_cons_succ, seval, Option.map_none, Int.reducePow, ↓reduceIte, Nat.reduceEqDiff, reduceCtorEq, and_self]
                exact q2 no _ ⟨xn, fun b hb => by rw [Heap.get_put, if_neg (by omega)]; exact kx b hb⟩
              · simp only [gz, gr, gb, hnn, RW, R0, R1, R2, R3, R4, R5, R6, R7, R8, R9, VOp.fresh, bxC, bsC, R10, un, most, callsOf, List.contains_nil, List.contains_cons, beq_iff_eq, List.getElem?_cons_zero, List.getElem?_cons_succ, seval, Option.map_none, Int.reducePow, ↓reduceIte, Nat.reduceEqDiff, reduceCtorEq, and_self]
                exact q2 no _ ⟨xn, fun b hb => by rw [Heap.get_put, if_neg (by omega)]; exact kx b hb⟩
        · by_cases k4 : (rdM 1 (some s)).1 = 4
          · rw [k4] at g4
            simp only [g4, k4, R0, R1, R2, R3, R4, R5, R6, R7, R8, R9, VOp.fresh, bxC, bsC, R10, un, most, callsOf, List.contains_nil, List.contains_cons, beq_iff_eq, List.getElem?_cons_zero, List.getElem?_cons_succ, seval, Option.map_none, Int.reducePow, ↓reduceIte, Nat.reduceEqDiff, reduceCtorEq, and_self]
            refine rr_tx g rp4 fun h5 rp5 x5 => ?_
            have g5 := (x5.2 h3.next (by omega) (by omega)).trans g4
            have gz5 := (x5.2 h.next (by omega) (by omega)).trans g4b
            have x5' := x4'.trans x5
            have g6 : (h5.put h3.next (.cells [.int .i64 4, .int .i64 (rdM 1 (rdM 1 (some s)).2).1, .int .i64 (rdM 2 (rdM 1 (rdM 1 (some s)).2).2).1, .int .i64 0, .bool false, .int .i64 0, .nils, .nils, .nils] 29 2)).get h3.next = some (.cells [.int .i64 4, .int .i64 (rdM 1 (rdM 1 (some s)).2).1, .int .i64 (rdM 2 (rdM 1 (rdM 1 (some s)).2).2).1, .int .i64 0, .bool false, .int .i64 0, .nils, .nils, .nils] 29 2) := by rw [Heap.get_put, if_pos rfl]
            have gz6 : (h5.put h3.next (.cells [.int .i64 4, .int .i64 (rdM 1 (rdM 1 (some s)).2).1, .int .i64 (rdM 2 (rdM 1 (rdM 1 (some s)).2).2).1, .int .i64 0, .bool false, .int .i64 0, .nils, .nils, .nils] 29 2)).get h.next = some (.cells zRc 29 0) := by rw [Heap.get_put, if_neg hne3]; exact gz5
            have rp6 : RR (h.next + 1) s (rdM 2 (rdM 1 (rdM 1 (some s)).2).2).2 (h5.put h3.next (.cells [.int .i64 4, .int .i64 (rdM 1 (rdM 1 (some s)).2).1, .int .i64 (rdM 2 (rdM 1 (rdM 1 (some s)).2).2).1, .int .i64 0, .bool false, .int .i64 0, .nils, .nils, .nils] 29 2)) := by
              refine rp5.frame ?_ ?_
              · exact Nat.le_refl _
              · rw [Heap.get_put, if_neg hnr]
            have x6 : ExtX (h.next + 1) h2 (h5.put h3.next (.cells [.int .i64 4, .int .i64 (rdM 1 (rdM 1 (some s)).2).1, .int .i64 (rdM 2 (rdM 1 (rdM 1 (some s)).2).2).1, .int .i64 0, .bool false, .int .i64 0, .nils, .nils, .nils] 29 2)) := x5'.put' (by omega) _
            have n6 : (h5.put h3.next (.cells [.int .i64 4, .int .i64 (rdM 1 (rdM 1 (some s)).2).1, .int .i64 (rdM 2 (rdM 1 (rdM 1 (some s)).2).2).1, .int .i64 0, .bool false, .int .i64 0, .nils, .nils, .nils] 29 2)).next = h5.next := rfl
            have n5 := x5.1
            simp only [g5, RW, R0, R1, R2, R3, R4, R5, R6, R7, R8, R9, VOp.fresh, bxC, bsC, R10, un, most, callsOf, List.contains_nil, List.contains_cons, beq_iff_eq, List.getElem?_cons_zero, List.getElem?_cons_succ, seval, Option.map_none, Int.reducePow, ↓reduceIte, Nat.reduceEqDiff, reduceCtorEq, and_self]
            generalize h5.put h3.next (.cells [.int .i64 4, .int .i64 (rdM 1 (rdM 1 (some s)).2).1, .int .i64 (rdM 2 (rdM 1 (rdM 1 (some s)).2).2).1, .int .i64 0, .bool false, .int .i64 0, .nils, .nils, .nils] 29 2) = h6 at *
            have g7 := g6
            have gz0 := gz6
            have xl := x6
            have er : rdRcM (some s) = (⟨4, (rdM 1 (rdM 1 (some s)).2).1, (rdM 2 (rdM 1 (rdM 1 (some s)).2).2).1, 0, false, ⟨0, [], []⟩, []⟩, (rdM 2 (rdM 1 (rdM 1 (some s)).2).2).2) := by rw [rdRcM]; simp only [k4, Int.one_ne_zero, Int.reduceEq, if_true, if_false, or_self, or_true, true_or, or_false, false_or]
            have cl : Lvs (h6) (h.next < ·) [.int .i64 4, .int .i64 (rdM 1 (rdM 1 (some s)).2).1, .int .i64 (rdM 2 (rdM 1 (rdM 1 (some s)).2).2).1, .int .i64 0, .bool false, .int .i64 0, .nils, .nils, .nils] (cRc (rdRcM (some s)).1) := by
              rw [er]
              exact Lvs.cells9 (r := ⟨4, (rdM 1 (rdM 1 (some s)).2).1, (rdM 2 (rdM 1 (rdM 1 (some s)).2).2).1, 0, false, ⟨0, [], []⟩, []⟩) .nils .nils .nils
            have gr := g7
            have gz := gz0
            have kx : ∀ b, b < h.next → (h6).get b = h.get b := fun b hb => (xh _ xl).2 b hb
            have xn : h.next ≤ (h6).next := (xh _ xl).1
            have rpz : RR (h.next + 1) s (rdRcM (some s)).2 (h6) := by
              rw [er]
              refine rp6
            clear er
            obtain ⟨_, _, _, e9, v9, a9, b9, gb, ha9, hst⟩ := rpz
            refine ans cl (fun ok lk est => ?_) (fun no hne => ?_) fun no => ?_
            · rw [est] at hst
              cases b9 with
              | true => simp at hst
              | false =>
                have ea : a9 = s.length := by
                  simp only [Bool.false_eq_true, if_false, Option.some.injEq] at hst
                  have := congrArg List.length hst
                  simp only [List.length_nil, List.length_drop] at this
                  omega
                have hnn : (a9 : Int) = (s.length : Int) := by omega
                simp only [gz, gr, gb, hnn, RW, R0, R1, R2, R3, R4, R5, R6, R7, R8, R9, VOp.fresh, bxC, bsC, R10, un, most, callsOf, List.contains_nil, List.contains_cons, beq_iff_eq, List.getElem?_cons_zero, List.getElem?_cons_succ, seval, Option.map_none, Int.reducePow, ↓reduceIte, Nat.reduceEqDiff, reduceCtorEq, and_self]
                exact q1 ok _ _ ((lk.put (Nat.lt_irrefl _) _).weak fun b hb _ => Nat.le_of_lt hb) rfl ⟨xn, fun b hb => by rw [Heap.get_put, if_neg (by omega)]; exact kx b hb⟩
            · cases b9 with
              | true =>
                simp only [gz, gr, gb, RW, hne, R0, R1, R2, R3, R4, R5, R6, R7, R8, R9, VOp.fresh, bxC, bsC, R10, un, most, callsOf, List.contains_nil, List.contains_cons, beq_iff_eq, List.getElem?_cons_zero, List.getElem?_cons_succ, seval, Option.map_none, Int.reducePow, ↓reduceIte, Nat.reduceEqDiff, reduceCtorEq, and_self]
                exact q2 no _ ⟨xn, fun b hb => by rw [Heap.get_put, if_neg (by omega)]; exact kx b hb⟩
              | false =>
                by_cases hnn : (a9 : Int) = (s.length : Int)
                · simp only [gz, gr, gb, hnn, RW, hne, R0, R1, R2, R3, R4, R5, R6, R7, R8, R9, VOp.fresh, bxC, bsC, R10, un, most, callsOf, List.contains_nil, List.contains_cons, beq_iff_eq, List.getElem?_cons_zero, List.getElem?_cons_succ, seval, Option.map_none, Int.reducePow, ↓reduceIte, Nat.reduceEqDiff, reduceCtorEq, and_self]
                  exact q2 no _ ⟨xn, fun b hb => by rw [Heap.get_put, if_neg (by omega)]; exact kx b hb⟩
                · simp only [gz, gr, gb, hnn, RW, hne, R0, R1, R2, R3, R4, R5, R6, R7, R8, R9, VOp.fresh, bxC, bsC, R10, un, most, callsOf, List.contains_nil, List.contains_cons, beq_iff_eq, List.getElem?_cons_zero, List.getElem?_cons_succ, seval, Option.map_none, Int.reducePow, ↓reduceIte, Nat.reduceEqDiff, reduceCtorEq, and_self]
                  exact q2 no _ ⟨xn, fun b hb => by rw [Heap.get_put, if_neg (by omega)]; exact kx b hb⟩
            · cases b9 with
              | true =>
                simp only [gz, gr, gb, RW, R0, R1, R2, R3, R4, R5, R6, R7, R8, R9, VOp.fresh, bxC, bsC, R10, un, most, callsOf, List.contains_nil, List.contains_cons, beq_iff_eq, List.getElem?_cons_zero, List.getElem?_cons_succ, seval, Option.map_none, Int.reducePow, ↓reduceIte, Nat.reduceEqDiff, reduceCtorEq, and_self]
                exact q2 no _ ⟨xn, fun b hb => by rw [Heap.get_put, if_neg (by omega)]; exact kx b hb⟩
              | false =>
                by_cases hnn : (a9 : Int) = (s.length : Int)
                · simp only [gz, gr, gb, hnn, RW, R0, R1, R2, R3, R4, R5, R6, R7, R8, R9, VOp.fresh, bxC, bsC, R10, un, most, callsOf, List.contains_nil, List.contains_cons, beq_iff_eq, List.getElem?_cons_zero, List.getElem?_cons_succ, seval, Option.map_none, Int.reducePow, ↓reduceIte, Nat.reduceEqDiff, reduceCtorEq, and_self]
                  exact q2 no _ ⟨xn, fun b hb => by rw [Heap.get_put, if_neg (by omega)]; exact kx b hb⟩
                · simp only [gz, gr, gb, hnn, RW, R0, R1, R2, R3, R4, R5, R6, R7, R8, R9, VOp.fresh, bxC, bsC, R10, un, most, callsOf, List.contains_nil, List.contains_cons, beq_iff_eq, List.getElem?_cons_zero, List.getElem?_cons_succ, seval, Option.map_none, Int.reducePow, ↓reduceIte, Nat.reduceEqDiff, reduceCtorEq, and_self]
                  exact q2 no _ ⟨xn, fun b hb => by rw [Heap.get_put, if_neg (by omega)]; exact kx b hb⟩
          · obtain ⟨e8, v8, a8, b8, gb8, rp8⟩ := rr_bad rp4
            have g7 : (h4.put (h.next + 1) (.cells [.str s, .int .i64 (a8 : Nat), .bool true] e8 (v8 + 1))).get h3.next = some (.cells [.int .i64 (rdM 1 (some s)).1, .int .i64 0, .int .i64 0, .int .i64 0, .bool false, .int .i64 0, .nils, .nils, .nils] 29 1) := by rw [Heap.get_put, if_neg (fun e => hnr e.symm)]; exact g4
            have gz0 : (h4.put (h.next + 1) (.cells [.str s, .int .i64 (a8 : Nat), .bool true] e8 (v8 + 1))).get h.next = some (.cells zRc 29 0) := by rw [Heap.get_put, if_neg (fun e => hnz e.symm)]; exact g4b
            have xl : ExtX (h.next + 1) h2 (h4.put (h.next + 1) (.cells [.str s, .int .i64 (a8 : Nat), .bool true] e8 (v8 + 1))) := x4'.trans (ExtX.put _)
            have hnr' : ¬ h3.next = h.next + 1 := fun e => hnr e.symm
            have gb3 := (x4.2 (h.next + 1) rp3.1).symm.trans gb8
            simp only [g4, k0, k1, k2, k3, k4, gb3, gb8, RW, hnr, hnr', R0, R1, R2, R3, R4, R5, R6, R7, R8, R9, VOp.fresh, bxC, bsC, R10, un, most, callsOf, List.contains_nil, List.contains_cons, beq_iff_eq, List.getElem?_cons_zero, List.getElem?_cons_succ, seval, Option.map_none, Int.reducePow, ↓reduceIte, Nat.reduceEqDiff, reduceCtorEq, and_self]
            generalize h4.put (h.next + 1) (.cells [.str s, .int .i64 (a8 : Nat), .bool true] e8 (v8 + 1)) = h6 at *
            have er : rdRcM (some s) = (⟨(rdM 1 (some s)).1, 0, 0, 0, false, ⟨0, [], []⟩, []⟩, none) := by rw [rdRcM]; simp only [k0, k1, k2, k3, k4, if_true, if_false, or_self, or_true, true_or, or_false, false_or]
            have cl : Lvs (h6) (h.next < ·) [.int .i64 (rdM 1 (some s)).1, .int .i64 0, .int .i64 0, .int .i64 0, .bool false, .int .i64 0, .nils, .nils, .nils] (cRc (rdRcM (some s)).1) := by
              rw [er]
              exact Lvs.cells9 (r := ⟨(rdM 1 (some s)).1, 0, 0, 0, false, ⟨0, [], []⟩, []⟩) .nils .nils .nils
            have gr := g7
            have gz := gz0
            have kx : ∀ b, b < h.next → (h6).get b = h.get b := fun b hb => (xh _ xl).2 b hb
            have xn : h.next ≤ (h6).next := (xh _ xl).1
            have rpz : RR (h.next + 1) s (rdRcM (some s)).2 (h6) := by
              rw [er]
              refine rp8
            clear er
            obtain ⟨_, _, _, e9, v9, a9, b9, gb, ha9, hst⟩ := rpz
            refine ans cl (fun ok lk est => ?_) (fun no hne => ?_) fun no => ?_
            · rw [est] at hst
              cases b9 with
              | true => simp at hst
              | false =>
                have ea : a9 = s.length := by
                  simp only [Bool.false_eq_true, if_false, Option.some.injEq] at hst
                  have := congrArg List.length hst
                  simp only [List.length_nil, List.length_drop] at this
                  omega
                have hnn : (a9 : Int) = (s.length : Int) := by omega
                simp only [gz, gr, gb, hnn, RW, R0, R1, R2, R3, R4, R5, R6, R7, R8, R9, VOp.fresh, bxC, bsC, R10, un, most, callsOf, List.contains_nil, List.contains_cons, beq_iff_eq, List.getElem?_cons_zero, List.getElem?_cons_succ, seval, Option.map_none, Int.reducePow, ↓reduceIte, Nat.reduceEqDiff, reduceCtorEq, and_self]
                exact q1 ok _ _ ((lk.put (Nat.lt_irrefl _) _).weak fun b hb _ => Nat.le_of_lt hb) rfl ⟨xn, fun b hb => by rw [Heap.get_put, if_neg (by omega)]; exact kx b hb⟩
            · cases b9 with
              | true =>
                simp only [gz, gr, gb, RW, hne, R0, R1, R2, R3, R4, R5, R6, R7, R8, R9, VOp.fresh, bxC, bsC, R10, un, most, callsOf, List.contains_nil, List.contains_cons, beq_iff_eq, List.getElem?_cons_zero, List.getElem?_cons_succ, seval, Option.map_none, Int.reducePow, ↓reduceIte, Nat.reduceEqDiff, reduceCtorEq, and_self]
                exact q2 no _ ⟨xn, fun b hb => by rw [Heap.get_put, if_neg (by omega)]; exact kx b hb⟩
              | false =>
                by_cases hnn : (a9 : Int) = (s.length : Int)
                · simp only [gz, gr, gb, hnn, RW, hne, R0, R1, R2, R3, R4, R5, R6, R7, R8, R9, VOp.fresh, bxC, bsC, R10, un, most, callsOf, List.contains_nil, List.contains_cons, beq_iff_eq, List.getElem?_cons_zero, List.getElem?_cons_succ, seval, Option.map_none, Int.reducePow, ↓reduceIte, Nat.reduceEqDiff, reduceCtorEq, and_self]
                  exact q2 no _ ⟨xn, fun b hb => by rw [Heap.get_put, if_neg (by omega)]; exact kx b hb⟩
                · simp only [gz, gr, gb, hnn, RW, hne, R0, R1, R2, R3, R4, R5, R6, R7, R8, R9, VOp.fresh, bxC, bsC, R10, un, most, callsOf, List.contains_nil, List.contains_cons, beq_iff_eq, List.getElem?_cons_zero, List.getElem?_cons_succ, seval, Option.map_none, Int.reducePow, ↓reduceIte, Nat.reduceEqDiff, reduceCtorEq, and_self]
                  exact q2 no _ ⟨xn, fun b hb => by rw [Heap.get_put, if_neg (by omega)]; exact kx b hb⟩
            · cases b9 with
              | true =>
                simp only [gz, gr, gb, RW, R0, R1, R2, R3, R4, R5, R6, R7, R8, R9, VOp.fresh, bxC, bsC, R10, un, most, callsOf, List.contains_nil, List.contains_cons, beq_iff_eq, List.getElem?_cons_zero, List.getElem?_cons_succ, seval, Option.map_none, Int.reducePow, ↓reduceIte, Nat.reduceEqDiff, reduceCtorEq, and_self]
                exact q2 no _ ⟨xn, fun b hb => by rw [Heap.get_put, if_neg (by omega)]; exact kx b hb⟩
              | false =>
                by_cases hnn : (a9 : Int) = (s.length : Int)
                · simp only [gz, gr, gb, hnn, RW, R0, R1, R2, R3, R4, R5, R6, R7, R8, R9, VOp.fresh, bxC, bsC, R10, un, most, callsOf, List.contains_nil, List.contains_cons, beq_iff_eq, List.getElem?_cons_zero, List.getElem?_cons_succ, seval, Option.map_none, Int.reducePow, ↓reduceIte, Nat.reduceEqDiff, reduceCtorEq, and_self]
                  exact q2 no _ ⟨xn, fun b hb => by rw [Heap.get_put, if_neg (by omega)]; exact kx b hb⟩
                · simp only [gz, gr, gb, hnn, RW, R0, R1, R2, R3, R4, R5, R6, R7, R8, R9, VOp.fresh, bxC, bsC, R10, un, most, callsOf, List.contains_nil, List.contains_cons, beq_iff_eq, List.getElem?_cons_zero, List.getElem?_cons_succ, seval, Option.map_none, Int.reducePow, ↓reduceIte, Nat.reduceEqDiff, reduceCtorEq, and_self]
                  exact q2 no _ ⟨xn, fun b hb => by rw [Heap.get_put, if_neg (by omega)]; exact kx b hb⟩
end
end Go.Proofs.Ytinonmcnofjeeaa.VM
