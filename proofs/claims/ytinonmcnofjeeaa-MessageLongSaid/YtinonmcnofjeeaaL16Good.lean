/- What is written of a message that may be. -/
import Derived.Test.YtinonmcnofjeeaaL16Wr
namespace Go.Proofs.Ytinonmcnofjeeaa.VM
set_option linter.unusedSimpArgs false
set_option linter.unusedVariables false
set_option linter.defProp false
set_option maxHeartbeats 1000000
attribute [local irreducible] Af Nx EvO Ev Un Gd Cd EvR EvQ EvC Nc Gc Lp EvM NxM AfM GdM EvMR EvMQ EvMD EvMC Nm Gm
def msB (m : Ms) : List Nat := 77 :: 83 :: (numB m.kind 1 ++ (numB m.frm 1 ++ (numB m.to 1 ++ ((if kTx m.kind = true then txB m.node m.seq else []) ++ ((if kOps m.kind = true then numB (m.base + 1) 4 ++ opsB m.ops else []) ++
  ((if kYes m.kind = true then bitB m.yes else []) ++ ((if kQuery m.kind = true then numB m.query 2 ++ boxB m.box else []) ++ (if kPart m.kind = true then numB m.applied 4 ++ (bitB m.busy ++ fsB m.fs) else []))))))))
theorem By.ms (m : Ms) : By (msB m) := by
  have one : ∀ (b : Bool) (x : List Nat), By x → By (if b = true then x else []) := fun b x h => by split; exact h; exact By.nil
  have h2 : By [77, 83] := fun n hn => by simp at hn; omega
  have := h2.app ((By.num m.kind 1).app ((By.num m.frm 1).app ((By.num m.to 1).app ((one (kTx m.kind) _ ((By.num m.node 1).app (By.num m.seq 2))).app ((one (kOps m.kind) _ ((By.num (m.base + 1) 4).app (By.ops m.ops))).app
    ((one (kYes m.kind) _ (By.num (if m.yes then 1 else 0) 1)).app ((one (kQuery m.kind) _ ((By.num m.query 2).app (By.box m.box))).app (one (kPart m.kind) _ ((By.num m.applied 4).app ((By.num (if m.busy then 1 else 0) 1).app (By.fs m.fs)))))))))))
  exact this
theorem msB_ne (m : Ms) : msB m ≠ [] := by rw [msB]; simp
/-- what is written of a message -/
def msAns (m : Ms) : AV := if (msB m).length ≤ 16384 then .tup [.str (msB m), .int .i64 0] else .tup [.str [], .int .i64 1600]
theorem fsSmall {l : List Feat} (h : featsOk l) : ∀ f ∈ l, featSmall f := by
  intro f hf
  obtain ⟨i, hi, rfl⟩ := List.mem_iff_getElem.1 hf
  rw [← getD_feat hi]
  exact featOk_small (h i hi).1
section
variable {P : Program} {m : Ms} {a u : AV}
theorem msgPut_good (g : Pg P tab) (ha : IsL 112 ROp a m.ops) (hu : IsL 40 RFeat u m.fs) (ok : msOk m) : Pu P 25 [.agg (msC m a u)] (fun v => v = msAns m) := by
  refine g.pu (vf := v25) rfl rfl ?_
  have hm := may_pu g ha hu (t := []) rfl
  rw [List.append_nil] at hm
  have ht := tolds_ms ha hu
  generalize hc : msC m a u = c at hm ht ⊢
  simp only [v25, R0, R1, R2, R3, R4, R5, R6, R7, R8, R9, VOp.fresh, bxC, bsC, AV.cells, un, most, callsOf, List.contains_nil, List.contains_cons, beq_iff_eq, List.getElem?_cons_zero, List.getElem?_cons_succ, seval, Option.map_none, Int.reducePow, ↓reduceIte, Nat.reduceEqDiff, reduceCtorEq, and_self]
  have hf : Fzs true (({ next := 0, t := T.e } : Heap).mk' 0 (.cells c 63 0)) [.ptr 0 0] [.rp c] := .cons (.ptr (by rw [Heap.get_mk, if_pos rfl]) (Fzs.refl ht)) .nil
  refine hm.cl hf ?_
  rintro x ⟨b, rfl, hb⟩
  cases b
  · exact absurd (hb.2 ok) (by simp)
  clear hm hf hb
  obtain ⟨⟨hk0, hk6⟩, hfr, hto, htx, hy, hops, hq, hpt⟩ := ok

  have head : ∀ {H : Heap} {s : T AV} {k : List Fr} {Q : Ex → T AV → Heap → Prop} {row : List AV}, H.next = 4 → H.get 3 = some (.cells [.sl 2 0 2 2 1] 103 0) → H.get 2 = some (.cells [.int .u8 77, .int .u8 83] 5 0) → H.get 1 = some (.cells row 132 1) → H.get 0 = some (.cells c 63 0) →
      sg s 26 = .agg [.int .i64 m.kind, .int .i64 m.frm, .int .i64 m.to] → sg s 27 = .int .i64 0 → sg s 6 = .ptr 3 0 → sg s 1 = .ptr 0 0 → sg s 4 = .ptr 1 0 →
      (∀ s' h', WR [(1, .cells row 132 1), (0, .cells c 63 0)] h' 3 (77 :: 83 :: (numB m.kind 1 ++ (numB m.frm 1 ++ numB m.to 1))) → sg s' 1 = .ptr 0 0 → sg s' 4 = .ptr 1 0 → sg s' 6 = .ptr 3 0 → Un P k Q (.exit 0) s' h') → Lp P b25_0 s H (Un P k Q) := by
    intro H s k Q row hn g3 g2 g1 g0 a26 a27 a6 a1 a4 hK
    have w0 : WR [(1, .cells row 132 1), (0, .cells c 63 0)] H 3 [77, 83] := by
      refine ⟨by omega, ⟨_, _, _, g3, .inr ⟨2, 5, 0, rfl, by omega, by decide, ?_, g2⟩⟩, ?_⟩
      · intro p hp; simp at hp; rcases hp with rfl | rfl <;> simp
      · intro p hp
        simp only [List.mem_cons, List.not_mem_nil, or_false] at hp
        rcases hp with rfl | rfl
        · exact ⟨by simp only; omega, show (1 : Nat) ≠ 3 by decide, g1⟩
        · exact ⟨by simp only; omega, show (0 : Nat) ≠ 3 by decide, g0⟩
    refine g.lpe b25_0.eq_1 ?_
    simp only [a26, a27, a6, a1, a4, R0, R1, R2, R3, R4, R5, R6, R7, R8, R9, VOp.fresh, bxC, bsC, AV.cells, un, most, callsOf, List.contains_nil, List.contains_cons, beq_iff_eq, List.getElem?_cons_zero, List.getElem?_cons_succ, seval, Option.map_none, Int.reducePow, ↓reduceIte, Nat.reduceEqDiff, reduceCtorEq, and_self]
    refine wnum (n := 1) g (num1_pu g _) (by decide) w0 (by simp) fun _ h1 w1 => ?_
    simp only [a26, a27, a6, a1, a4, R0, R1, R2, R3, R4, R5, R6, R7, R8, R9, VOp.fresh, bxC, bsC, AV.cells, un, most, callsOf, List.contains_nil, List.contains_cons, beq_iff_eq, List.getElem?_cons_zero, List.getElem?_cons_succ, seval, Option.map_none, Int.reducePow, ↓reduceIte, Nat.reduceEqDiff, reduceCtorEq, and_self]
    refine g.lpe b25_0.eq_1 ?_
    simp only [a26, a27, a6, a1, a4, R0, R1, R2, R3, R4, R5, R6, R7, R8, R9, VOp.fresh, bxC, bsC, AV.cells, un, most, callsOf, List.contains_nil, List.contains_cons, beq_iff_eq, List.getElem?_cons_zero, List.getElem?_cons_succ, seval, Option.map_none, Int.reducePow, ↓reduceIte, Nat.reduceEqDiff, reduceCtorEq, and_self]
    refine wnum (n := 1) g (num1_pu g _) (by decide) w1 (by simp [numB_len]) fun _ h2 w2 => ?_
    simp only [a26, a27, a6, a1, a4, R0, R1, R2, R3, R4, R5, R6, R7, R8, R9, VOp.fresh, bxC, bsC, AV.cells, un, most, callsOf, List.contains_nil, List.contains_cons, beq_iff_eq, List.getElem?_cons_zero, List.getElem?_cons_succ, seval, Option.map_none, Int.reducePow, ↓reduceIte, Nat.reduceEqDiff, reduceCtorEq, and_self]
    refine g.lpe b25_0.eq_1 ?_
    simp only [a26, a27, a6, a1, a4, R0, R1, R2, R3, R4, R5, R6, R7, R8, R9, VOp.fresh, bxC, bsC, AV.cells, un, most, callsOf, List.contains_nil, List.contains_cons, beq_iff_eq, List.getElem?_cons_zero, List.getElem?_cons_succ, seval, Option.map_none, Int.reducePow, ↓reduceIte, Nat.reduceEqDiff, reduceCtorEq, and_self]
    refine wnum (n := 1) g (num1_pu g _) (by decide) w2 (by simp [numB_len]) fun _ h3 w3 => ?_
    simp only [a26, a27, a6, a1, a4, R0, R1, R2, R3, R4, R5, R6, R7, R8, R9, VOp.fresh, bxC, bsC, AV.cells, un, most, callsOf, List.contains_nil, List.contains_cons, beq_iff_eq, List.getElem?_cons_zero, List.getElem?_cons_succ, seval, Option.map_none, Int.reducePow, ↓reduceIte, Nat.reduceEqDiff, reduceCtorEq, and_self]
    refine g.lpe b25_0.eq_1 ?_
    simp only [a26, a27, a6, a1, a4, R0, R1, R2, R3, R4, R5, R6, R7, R8, R9, VOp.fresh, bxC, bsC, AV.cells, un, most, callsOf, List.contains_nil, List.contains_cons, beq_iff_eq, List.getElem?_cons_zero, List.getElem?_cons_succ, seval, Option.map_none, Int.reducePow, ↓reduceIte, Nat.reduceEqDiff, reduceCtorEq, and_self]
    refine hK _ _ (by simpa only [List.append_assoc, List.cons_append, List.nil_append] using w3) ?_ ?_ ?_
    · simp only [a1, sg_set, Nat.reduceEqDiff, ↓reduceIte]
    · simp only [a4, sg_set, Nat.reduceEqDiff, ↓reduceIte]
    · simp only [a6, sg_set, Nat.reduceEqDiff, ↓reduceIte]
  rcases (by omega : m.kind = 0 ∨ m.kind = 1 ∨ m.kind = 2 ∨ m.kind = 3 ∨ m.kind = 4 ∨ m.kind = 5 ∨ m.kind = 6) with ek | ek | ek | ek | ek | ek | ek
  · have hrow : rowV m.kind = .agg [.bool true, .bool true, .bool false, .bool false, .bool false] := by rw [ek]; rfl
    have er : msB m = 77 :: 83 :: (numB m.kind 1 ++ (numB m.frm 1 ++ (numB m.to 1 ++ (txB m.node m.seq ++ (numB (m.base + 1) 4 ++ (opsB m.ops)))))) := by
      have d1 : kTx m.kind = true := by rw [ek]; rfl
      have d2 : kOps m.kind = true := by rw [ek]; rfl
      have d3 : kYes m.kind = false := by rw [ek]; rfl
      have d4 : kQuery m.kind = false := by rw [ek]; rfl
      have d5 : kPart m.kind = false := by rw [ek]; rfl
      rw [msB, d1, d2, d3, d4, d5]
      simp only [if_true, Bool.false_eq_true, if_false, List.nil_append, List.append_nil, List.append_assoc]
    simp only [hrow, RW, ← hc, msC, R0, R1, R2, R3, R4, R5, R6, R7, R8, R9, VOp.fresh, bxC, bsC, AV.cells, un, most, callsOf, List.contains_nil, List.contains_cons, beq_iff_eq, List.getElem?_cons_zero, List.getElem?_cons_succ, seval, Option.map_none, Int.reducePow, ↓reduceIte, Nat.reduceEqDiff, reduceCtorEq, and_self]
    refine head (row := [.bool true, .bool true, .bool false, .bool false, .bool false]) (by rfl) ?_ ?_ ?_ ?_ ?_ ?_ ?_ ?_ ?_ ?_
    · simp only [R0, R1, R2, R3, R4, R5, R6, R7, R8, R9, VOp.fresh, bxC, bsC, AV.cells, un, most, callsOf, List.contains_nil, List.contains_cons, beq_iff_eq, List.getElem?_cons_zero, List.getElem?_cons_succ, seval, Option.map_none, Int.reducePow, ↓reduceIte, Nat.reduceEqDiff, reduceCtorEq, and_self]
    · simp only [R0, R1, R2, R3, R4, R5, R6, R7, R8, R9, VOp.fresh, bxC, bsC, AV.cells, un, most, callsOf, List.contains_nil, List.contains_cons, beq_iff_eq, List.getElem?_cons_zero, List.getElem?_cons_succ, seval, Option.map_none, Int.reducePow, ↓reduceIte, Nat.reduceEqDiff, reduceCtorEq, and_self]
    · simp only [R0, R1, R2, R3, R4, R5, R6, R7, R8, R9, VOp.fresh, bxC, bsC, AV.cells, un, most, callsOf, List.contains_nil, List.contains_cons, beq_iff_eq, List.getElem?_cons_zero, List.getElem?_cons_succ, seval, Option.map_none, Int.reducePow, ↓reduceIte, Nat.reduceEqDiff, reduceCtorEq, and_self]
    · simp only [← hc, msC, R0, R1, R2, R3, R4, R5, R6, R7, R8, R9, VOp.fresh, bxC, bsC, AV.cells, un, most, callsOf, List.contains_nil, List.contains_cons, beq_iff_eq, List.getElem?_cons_zero, List.getElem?_cons_succ, seval, Option.map_none, Int.reducePow, ↓reduceIte, Nat.reduceEqDiff, reduceCtorEq, and_self]
    · simp only [sg_set, Nat.reduceEqDiff, ↓reduceIte]
    · simp only [sg_set, Nat.reduceEqDiff, ↓reduceIte]
    · simp only [sg_set, Nat.reduceEqDiff, ↓reduceIte]
    · simp only [sg_set, Nat.reduceEqDiff, ↓reduceIte]
    · simp only [sg_set, Nat.reduceEqDiff, ↓reduceIte]
    intro s' h1 w1 a1 a4 a6
    have hm1 : ((1, .cells [.bool true, .bool true, .bool false, .bool false, .bool false] 132 1) : Nat × Blk) ∈ [((1, .cells [.bool true, .bool true, .bool false, .bool false, .bool false] 132 1) : Nat × Blk), (0, .cells c 63 0)] := List.mem_cons_self
    have hm0 : ((0, .cells c 63 0) : Nat × Blk) ∈ [((1, .cells [.bool true, .bool true, .bool false, .bool false, .bool false] 132 1) : Nat × Blk), (0, .cells c 63 0)] := List.mem_cons_of_mem _ List.mem_cons_self
    rw [← hc] at w1 hm0 hm1
    have k0 := (w1.keep _ hm0).2.2
    have k1 := (w1.keep _ hm1).2.2
    simp only [msC] at k0 k1
    simp only [a1, a4, a6, k0, k1, ha.len, hu.len, R0, R1, R2, R3, R4, R5, R6, R7, R8, R9, VOp.fresh, bxC, bsC, AV.cells, un, most, callsOf, List.contains_nil, List.contains_cons, beq_iff_eq, List.getElem?_cons_zero, List.getElem?_cons_succ, seval, Option.map_none, Int.reducePow, ↓reduceIte, Nat.reduceEqDiff, reduceCtorEq, and_self]
    refine wname g w1 (by simp only [List.length_cons, List.length_append, numB_len, txB, bitB, boxB_len]; omega) fun _ h2 w2 => ?_
    have k0 := (w2.keep _ hm0).2.2
    have k1 := (w2.keep _ hm1).2.2
    simp only [msC] at k0 k1
    simp only [a1, a4, a6, k0, k1, ha.len, hu.len, R0, R1, R2, R3, R4, R5, R6, R7, R8, R9, VOp.fresh, bxC, bsC, AV.cells, un, most, callsOf, List.contains_nil, List.contains_cons, beq_iff_eq, List.getElem?_cons_zero, List.getElem?_cons_succ, seval, Option.map_none, Int.reducePow, ↓reduceIte, Nat.reduceEqDiff, reduceCtorEq, and_self]
    have hops' : (-1 ≤ m.base ∧ m.base ≤ 65535) ∧ opsOk 8 m.ops := by simpa only [opsM, ek, kOps, decide_true, if_true] using hops
    refine wops g ha (by have := hops'.2.2.1; omega) ?_ (by omega) (by omega) w2 (by simp only [List.length_cons, List.length_append, numB_len, txB, bitB, boxB_len]; omega) fun _ h3 w3 => ?_
    · intro o ho
      obtain ⟨j, hj, rfl⟩ := List.mem_iff_getElem.1 ho
      rw [← getD_op hj]
      exact opOk_small (hops'.2.2.2 j hj).1
    replace w3 := (show WR _ _ 3 (msB m) from by rw [er]; simpa only [List.append_assoc, List.cons_append, fsB] using w3)
    obtain ⟨v, e0, ver, hb1, ho⟩ := w3.out
    rcases ho with ⟨_, hnil⟩ | ⟨c0, e', ver', rfl, _, _, _, hc6⟩
    · exact absurd hnil (msB_ne _)
    have k1 := (w3.keep _ hm1).2.2
    simp only at k1
    by_cases hlen : (msB m).length ≤ 16384
    · have c8 : ¬ (16384 : Int) < ((msB m).length : Int) := by omega
      simp only [a1, a4, a6, k1, hb1, c8, R0, R1, R2, R3, R4, R5, R6, R7, R8, R9, VOp.fresh, bxC, bsC, AV.cells, un, most, callsOf, List.contains_nil, List.contains_cons, beq_iff_eq, List.getElem?_cons_zero, List.getElem?_cons_succ, seval, Option.map_none, Int.reducePow, ↓reduceIte, Nat.reduceEqDiff, reduceCtorEq, and_self]
      rw [cvT_sl hc6 (List.length_map _), mb_bytes (By.ms m)]
      simp only [R0, R1, R2, R3, R4, R5, R6, R7, R8, R9, VOp.fresh, bxC, bsC, AV.cells, un, most, callsOf, List.contains_nil, List.contains_cons, beq_iff_eq, List.getElem?_cons_zero, List.getElem?_cons_succ, seval, Option.map_none, Int.reducePow, ↓reduceIte, Nat.reduceEqDiff, reduceCtorEq, and_self]
      rw [msAns, if_pos hlen]
    · have c8 : (16384 : Int) < ((msB m).length : Int) := by omega
      simp only [a1, a4, a6, k1, hb1, c8, R0, R1, R2, R3, R4, R5, R6, R7, R8, R9, VOp.fresh, bxC, bsC, AV.cells, un, most, callsOf, List.contains_nil, List.contains_cons, beq_iff_eq, List.getElem?_cons_zero, List.getElem?_cons_succ, seval, Option.map_none, Int.reducePow, ↓reduceIte, Nat.reduceEqDiff, reduceCtorEq, and_self]
      rw [msAns, if_neg hlen]
  · have hrow : rowV m.kind = .agg [.bool true, .bool false, .bool true, .bool false, .bool false] := by rw [ek]; rfl
    have er : msB m = 77 :: 83 :: (numB m.kind 1 ++ (numB m.frm 1 ++ (numB m.to 1 ++ (txB m.node m.seq ++ (bitB m.yes))))) := by
      have d1 : kTx m.kind = true := by rw [ek]; rfl
      have d2 : kOps m.kind = false := by rw [ek]; rfl
      have d3 : kYes m.kind = true := by rw [ek]; rfl
      have d4 : kQuery m.kind = false := by rw [ek]; rfl
      have d5 : kPart m.kind = false := by rw [ek]; rfl
      rw [msB, d1, d2, d3, d4, d5]
      simp only [if_true, Bool.false_eq_true, if_false, List.nil_append, List.append_nil, List.append_assoc]
    simp only [hrow, RW, ← hc, msC, R0, R1, R2, R3, R4, R5, R6, R7, R8, R9, VOp.fresh, bxC, bsC, AV.cells, un, most, callsOf, List.contains_nil, List.contains_cons, beq_iff_eq, List.getElem?_cons_zero, List.getElem?_cons_succ, seval, Option.map_none, Int.reducePow, ↓reduceIte, Nat.reduceEqDiff, reduceCtorEq, and_self]
    refine head (row := [.bool true, .bool false, .bool true, .bool false, .bool false]) (by rfl) ?_ ?_ ?_ ?_ ?_ ?_ ?_ ?_ ?_ ?_
    · simp only [R0, R1, R2, R3, R4, R5, R6, R7, R8, R9, VOp.fresh, bxC, bsC, AV.cells, un, most, callsOf, List.contains_nil, List.contains_cons, beq_iff_eq, List.getElem?_cons_zero, List.getElem?_cons_succ, seval, Option.map_none, Int.reducePow, ↓reduceIte, Nat.reduceEqDiff, reduceCtorEq, and_self]
    · simp only [R0, R1, R2, R3, R4, R5, R6, R7, R8, R9, VOp.fresh, bxC, bsC, AV.cells, un, most, callsOf, List.contains_nil, List.contains_cons, beq_iff_eq, List.getElem?_cons_zero, List.getElem?_cons_succ, seval, Option.map_none, Int.reducePow, ↓reduceIte, Nat.reduceEqDiff, reduceCtorEq, and_self]
    · simp only [R0, R1, R2, R3, R4, R5, R6, R7, R8, R9, VOp.fresh, bxC, bsC, AV.cells, un, most, callsOf, List.contains_nil, List.contains_cons, beq_iff_eq, List.getElem?_cons_zero, List.getElem?_cons_succ, seval, Option.map_none, Int.reducePow, ↓reduceIte, Nat.reduceEqDiff, reduceCtorEq, and_self]
    · simp only [← hc, msC, R0, R1, R2, R3, R4, R5, R6, R7, R8, R9, VOp.fresh, bxC, bsC, AV.cells, un, most, callsOf, List.contains_nil, List.contains_cons, beq_iff_eq, List.getElem?_cons_zero, List.getElem?_cons_succ, seval, Option.map_none, Int.reducePow, ↓reduceIte, Nat.reduceEqDiff, reduceCtorEq, and_self]
    · simp only [sg_set, Nat.reduceEqDiff, ↓reduceIte]
    · simp only [sg_set, Nat.reduceEqDiff, ↓reduceIte]
    · simp only [sg_set, Nat.reduceEqDiff, ↓reduceIte]
    · simp only [sg_set, Nat.reduceEqDiff, ↓reduceIte]
    · simp only [sg_set, Nat.reduceEqDiff, ↓reduceIte]
    intro s' h1 w1 a1 a4 a6
    have hm1 : ((1, .cells [.bool true, .bool false, .bool true, .bool false, .bool false] 132 1) : Nat × Blk) ∈ [((1, .cells [.bool true, .bool false, .bool true, .bool false, .bool false] 132 1) : Nat × Blk), (0, .cells c 63 0)] := List.mem_cons_self
    have hm0 : ((0, .cells c 63 0) : Nat × Blk) ∈ [((1, .cells [.bool true, .bool false, .bool true, .bool false, .bool false] 132 1) : Nat × Blk), (0, .cells c 63 0)] := List.mem_cons_of_mem _ List.mem_cons_self
    rw [← hc] at w1 hm0 hm1
    have k0 := (w1.keep _ hm0).2.2
    have k1 := (w1.keep _ hm1).2.2
    simp only [msC] at k0 k1
    simp only [a1, a4, a6, k0, k1, ha.len, hu.len, R0, R1, R2, R3, R4, R5, R6, R7, R8, R9, VOp.fresh, bxC, bsC, AV.cells, un, most, callsOf, List.contains_nil, List.contains_cons, beq_iff_eq, List.getElem?_cons_zero, List.getElem?_cons_succ, seval, Option.map_none, Int.reducePow, ↓reduceIte, Nat.reduceEqDiff, reduceCtorEq, and_self]
    refine wname g w1 (by simp only [List.length_cons, List.length_append, numB_len, txB, bitB, boxB_len]; omega) fun _ h2 w2 => ?_
    have k0 := (w2.keep _ hm0).2.2
    have k1 := (w2.keep _ hm1).2.2
    simp only [msC] at k0 k1
    simp only [a1, a4, a6, k0, k1, ha.len, hu.len, R0, R1, R2, R3, R4, R5, R6, R7, R8, R9, VOp.fresh, bxC, bsC, AV.cells, un, most, callsOf, List.contains_nil, List.contains_cons, beq_iff_eq, List.getElem?_cons_zero, List.getElem?_cons_succ, seval, Option.map_none, Int.reducePow, ↓reduceIte, Nat.reduceEqDiff, reduceCtorEq, and_self]
    refine wbool g w2 (by simp only [List.length_cons, List.length_append, numB_len, txB, bitB, boxB_len]; omega) fun _ h3 w3 => ?_
    replace w3 := (show WR _ _ 3 (msB m) from by rw [er]; simpa only [List.append_assoc, List.cons_append, fsB] using w3)
    obtain ⟨v, e0, ver, hb1, ho⟩ := w3.out
    rcases ho with ⟨_, hnil⟩ | ⟨c0, e', ver', rfl, _, _, _, hc6⟩
    · exact absurd hnil (msB_ne _)
    have k1 := (w3.keep _ hm1).2.2
    simp only at k1
    by_cases hlen : (msB m).length ≤ 16384
    · have c8 : ¬ (16384 : Int) < ((msB m).length : Int) := by omega
      simp only [a1, a4, a6, k1, hb1, c8, R0, R1, R2, R3, R4, R5, R6, R7, R8, R9, VOp.fresh, bxC, bsC, AV.cells, un, most, callsOf, List.contains_nil, List.contains_cons, beq_iff_eq, List.getElem?_cons_zero, List.getElem?_cons_succ, seval, Option.map_none, Int.reducePow, ↓reduceIte, Nat.reduceEqDiff, reduceCtorEq, and_self]
      rw [cvT_sl hc6 (List.length_map _), mb_bytes (By.ms m)]
      simp only [R0, R1, R2, R3, R4, R5, R6, R7, R8, R9, VOp.fresh, bxC, bsC, AV.cells, un, most, callsOf, List.contains_nil, List.contains_cons, beq_iff_eq, List.getElem?_cons_zero, List.getElem?_cons_succ, seval, Option.map_none, Int.reducePow, ↓reduceIte, Nat.reduceEqDiff, reduceCtorEq, and_self]
      rw [msAns, if_pos hlen]
    · have c8 : (16384 : Int) < ((msB m).length : Int) := by omega
      simp only [a1, a4, a6, k1, hb1, c8, R0, R1, R2, R3, R4, R5, R6, R7, R8, R9, VOp.fresh, bxC, bsC, AV.cells, un, most, callsOf, List.contains_nil, List.contains_cons, beq_iff_eq, List.getElem?_cons_zero, List.getElem?_cons_succ, seval, Option.map_none, Int.reducePow, ↓reduceIte, Nat.reduceEqDiff, reduceCtorEq, and_self]
      rw [msAns, if_neg hlen]
  · have hrow : rowV m.kind = .agg [.bool true, .bool false, .bool true, .bool false, .bool false] := by rw [ek]; rfl
    have er : msB m = 77 :: 83 :: (numB m.kind 1 ++ (numB m.frm 1 ++ (numB m.to 1 ++ (txB m.node m.seq ++ (bitB m.yes))))) := by
      have d1 : kTx m.kind = true := by rw [ek]; rfl
      have d2 : kOps m.kind = false := by rw [ek]; rfl
      have d3 : kYes m.kind = true := by rw [ek]; rfl
      have d4 : kQuery m.kind = false := by rw [ek]; rfl
      have d5 : kPart m.kind = false := by rw [ek]; rfl
      rw [msB, d1, d2, d3, d4, d5]
      simp only [if_true, Bool.false_eq_true, if_false, List.nil_append, List.append_nil, List.append_assoc]
    simp only [hrow, RW, ← hc, msC, R0, R1, R2, R3, R4, R5, R6, R7, R8, R9, VOp.fresh, bxC, bsC, AV.cells, un, most, callsOf, List.contains_nil, List.contains_cons, beq_iff_eq, List.getElem?_cons_zero, List.getElem?_cons_succ, seval, Option.map_none, Int.reducePow, ↓reduceIte, Nat.reduceEqDiff, reduceCtorEq, and_self]
    refine head (row := [.bool true, .bool false, .bool true, .bool false, .bool false]) (by rfl) ?_ ?_ ?_ ?_ ?_ ?_ ?_ ?_ ?_ ?_
    · simp only [R0, R1, R2, R3, R4, R5, R6, R7, R8, R9, VOp.fresh, bxC, bsC, AV.cells, un, most, callsOf, List.contains_nil, List.contains_cons, beq_iff_eq, List.getElem?_cons_zero, List.getElem?_cons_succ, seval, Option.map_none, Int.reducePow, ↓reduceIte, Nat.reduceEqDiff, reduceCtorEq, and_self]
    · simp only [R0, R1, R2, R3, R4, R5, R6, R7, R8, R9, VOp.fresh, bxC, bsC, AV.cells, un, most, callsOf, List.contains_nil, List.contains_cons, beq_iff_eq, List.getElem?_cons_zero, List.getElem?_cons_succ, seval, Option.map_none, Int.reducePow, ↓reduceIte, Nat.reduceEqDiff, reduceCtorEq, and_self]
    · simp only [R0, R1, R2, R3, R4, R5, R6, R7, R8, R9, VOp.fresh, bxC, bsC, AV.cells, un, most, callsOf, List.contains_nil, List.contains_cons, beq_iff_eq, List.getElem?_cons_zero, List.getElem?_cons_succ, seval, Option.map_none, Int.reducePow, ↓reduceIte, Nat.reduceEqDiff, reduceCtorEq, and_self]
    · simp only [← hc, msC, R0, R1, R2, R3, R4, R5, R6, R7, R8, R9, VOp.fresh, bxC, bsC, AV.cells, un, most, callsOf, List.contains_nil, List.contains_cons, beq_iff_eq, List.getElem?_cons_zero, List.getElem?_cons_succ, seval, Option.map_none, Int.reducePow, ↓reduceIte, Nat.reduceEqDiff, reduceCtorEq, and_self]
    · simp only [sg_set, Nat.reduceEqDiff, ↓reduceIte]
    · simp only [sg_set, Nat.reduceEqDiff, ↓reduceIte]
    · simp only [sg_set, Nat.reduceEqDiff, ↓reduceIte]
    · simp only [sg_set, Nat.reduceEqDiff, ↓reduceIte]
    · simp only [sg_set, Nat.reduceEqDiff, ↓reduceIte]
    intro s' h1 w1 a1 a4 a6
    have hm1 : ((1, .cells [.bool true, .bool false, .bool true, .bool false, .bool false] 132 1) : Nat × Blk) ∈ [((1, .cells [.bool true, .bool false, .bool true, .bool false, .bool false] 132 1) : Nat × Blk), (0, .cells c 63 0)] := List.mem_cons_self
    have hm0 : ((0, .cells c 63 0) : Nat × Blk) ∈ [((1, .cells [.bool true, .bool false, .bool true, .bool false, .bool false] 132 1) : Nat × Blk), (0, .cells c 63 0)] := List.mem_cons_of_mem _ List.mem_cons_self
    rw [← hc] at w1 hm0 hm1
    have k0 := (w1.keep _ hm0).2.2
    have k1 := (w1.keep _ hm1).2.2
    simp only [msC] at k0 k1
    simp only [a1, a4, a6, k0, k1, ha.len, hu.len, R0, R1, R2, R3, R4, R5, R6, R7, R8, R9, VOp.fresh, bxC, bsC, AV.cells, un, most, callsOf, List.contains_nil, List.contains_cons, beq_iff_eq, List.getElem?_cons_zero, List.getElem?_cons_succ, seval, Option.map_none, Int.reducePow, ↓reduceIte, Nat.reduceEqDiff, reduceCtorEq, and_self]
    refine wname g w1 (by simp only [List.length_cons, List.length_append, numB_len, txB, bitB, boxB_len]; omega) fun _ h2 w2 => ?_
    have k0 := (w2.keep _ hm0).2.2
    have k1 := (w2.keep _ hm1).2.2
    simp only [msC] at k0 k1
    simp only [a1, a4, a6, k0, k1, ha.len, hu.len, R0, R1, R2, R3, R4, R5, R6, R7, R8, R9, VOp.fresh, bxC, bsC, AV.cells, un, most, callsOf, List.contains_nil, List.contains_cons, beq_iff_eq, List.getElem?_cons_zero, List.getElem?_cons_succ, seval, Option.map_none, Int.reducePow, ↓reduceIte, Nat.reduceEqDiff, reduceCtorEq, and_self]
    refine wbool g w2 (by simp only [List.length_cons, List.length_append, numB_len, txB, bitB, boxB_len]; omega) fun _ h3 w3 => ?_
    replace w3 := (show WR _ _ 3 (msB m) from by rw [er]; simpa only [List.append_assoc, List.cons_append, fsB] using w3)
    obtain ⟨v, e0, ver, hb1, ho⟩ := w3.out
    rcases ho with ⟨_, hnil⟩ | ⟨c0, e', ver', rfl, _, _, _, hc6⟩
    · exact absurd hnil (msB_ne _)
    have k1 := (w3.keep _ hm1).2.2
    simp only at k1
    by_cases hlen : (msB m).length ≤ 16384
    · have c8 : ¬ (16384 : Int) < ((msB m).length : Int) := by omega
      simp only [a1, a4, a6, k1, hb1, c8, R0, R1, R2, R3, R4, R5, R6, R7, R8, R9, VOp.fresh, bxC, bsC, AV.cells, un, most, callsOf, List.contains_nil, List.contains_cons, beq_iff_eq, List.getElem?_cons_zero, List.getElem?_cons_succ, seval, Option.map_none, Int.reducePow, ↓reduceIte, Nat.reduceEqDiff, reduceCtorEq, and_self]
      rw [cvT_sl hc6 (List.length_map _), mb_bytes (By.ms m)]
      simp only [R0, R1, R2, R3, R4, R5, R6, R7, R8, R9, VOp.fresh, bxC, bsC, AV.cells, un, most, callsOf, List.contains_nil, List.contains_cons, beq_iff_eq, List.getElem?_cons_zero, List.getElem?_cons_succ, seval, Option.map_none, Int.reducePow, ↓reduceIte, Nat.reduceEqDiff, reduceCtorEq, and_self]
      rw [msAns, if_pos hlen]
    · have c8 : (16384 : Int) < ((msB m).length : Int) := by omega
      simp only [a1, a4, a6, k1, hb1, c8, R0, R1, R2, R3, R4, R5, R6, R7, R8, R9, VOp.fresh, bxC, bsC, AV.cells, un, most, callsOf, List.contains_nil, List.contains_cons, beq_iff_eq, List.getElem?_cons_zero, List.getElem?_cons_succ, seval, Option.map_none, Int.reducePow, ↓reduceIte, Nat.reduceEqDiff, reduceCtorEq, and_self]
      rw [msAns, if_neg hlen]
  · have hrow : rowV m.kind = .agg [.bool true, .bool false, .bool false, .bool false, .bool false] := by rw [ek]; rfl
    have er : msB m = 77 :: 83 :: (numB m.kind 1 ++ (numB m.frm 1 ++ (numB m.to 1 ++ (txB m.node m.seq)))) := by
      have d1 : kTx m.kind = true := by rw [ek]; rfl
      have d2 : kOps m.kind = false := by rw [ek]; rfl
      have d3 : kYes m.kind = false := by rw [ek]; rfl
      have d4 : kQuery m.kind = false := by rw [ek]; rfl
      have d5 : kPart m.kind = false := by rw [ek]; rfl
      rw [msB, d1, d2, d3, d4, d5]
      simp only [if_true, Bool.false_eq_true, if_false, List.nil_append, List.append_nil, List.append_assoc]
    simp only [hrow, RW, ← hc, msC, R0, R1, R2, R3, R4, R5, R6, R7, R8, R9, VOp.fresh, bxC, bsC, AV.cells, un, most, callsOf, List.contains_nil, List.contains_cons, beq_iff_eq, List.getElem?_cons_zero, List.getElem?_cons_succ, seval, Option.map_none, Int.reducePow, ↓reduceIte, Nat.reduceEqDiff, reduceCtorEq, and_self]
    refine head (row := [.bool true, .bool false, .bool false, .bool false, .bool false]) (by rfl) ?_ ?_ ?_ ?_ ?_ ?_ ?_ ?_ ?_ ?_
    · simp only [R0, R1, R2, R3, R4, R5, R6, R7, R8, R9, VOp.fresh, bxC, bsC, AV.cells, un, most, callsOf, List.contains_nil, List.contains_cons, beq_iff_eq, List.getElem?_cons_zero, List.getElem?_cons_succ, seval, Option.map_none, Int.reducePow, ↓reduceIte, Nat.reduceEqDiff, reduceCtorEq, and_self]
    · simp only [R0, R1, R2, R3, R4, R5, R6, R7, R8, R9, VOp.fresh, bxC, bsC, AV.cells, un, most, callsOf, List.contains_nil, List.contains_cons, beq_iff_eq, List.getElem?_cons_zero, List.getElem?_cons_succ, seval, Option.map_none, Int.reducePow, ↓reduceIte, Nat.reduceEqDiff, reduceCtorEq, and_self]
    · simp only [R0, R1, R2, R3, R4, R5, R6, R7, R8, R9, VOp.fresh, bxC, bsC, AV.cells, un, most, callsOf, List.contains_nil, List.contains_cons, beq_iff_eq, List.getElem?_cons_zero, List.getElem?_cons_succ, seval, Option.map_none, Int.reducePow, ↓reduceIte, Nat.reduceEqDiff, reduceCtorEq, and_self]
    · simp only [← hc, msC, R0, R1, R2, R3, R4, R5, R6, R7, R8, R9, VOp.fresh, bxC, bsC, AV.cells, un, most, callsOf, List.contains_nil, List.contains_cons, beq_iff_eq, List.getElem?_cons_zero, List.getElem?_cons_succ, seval, Option.map_none, Int.reducePow, ↓reduceIte, Nat.reduceEqDiff, reduceCtorEq, and_self]
    · simp only [sg_set, Nat.reduceEqDiff, ↓reduceIte]
    · simp only [sg_set, Nat.reduceEqDiff, ↓reduceIte]
    · simp only [sg_set, Nat.reduceEqDiff, ↓reduceIte]
    · simp only [sg_set, Nat.reduceEqDiff, ↓reduceIte]
    · simp only [sg_set, Nat.reduceEqDiff, ↓reduceIte]
    intro s' h1 w1 a1 a4 a6
    have hm1 : ((1, .cells [.bool true, .bool false, .bool false, .bool false, .bool false] 132 1) : Nat × Blk) ∈ [((1, .cells [.bool true, .bool false, .bool false, .bool false, .bool false] 132 1) : Nat × Blk), (0, .cells c 63 0)] := List.mem_cons_self
    have hm0 : ((0, .cells c 63 0) : Nat × Blk) ∈ [((1, .cells [.bool true, .bool false, .bool false, .bool false, .bool false] 132 1) : Nat × Blk), (0, .cells c 63 0)] := List.mem_cons_of_mem _ List.mem_cons_self
    rw [← hc] at w1 hm0 hm1
    have k0 := (w1.keep _ hm0).2.2
    have k1 := (w1.keep _ hm1).2.2
    simp only [msC] at k0 k1
    simp only [a1, a4, a6, k0, k1, ha.len, hu.len, R0, R1, R2, R3, R4, R5, R6, R7, R8, R9, VOp.fresh, bxC, bsC, AV.cells, un, most, callsOf, List.contains_nil, List.contains_cons, beq_iff_eq, List.getElem?_cons_zero, List.getElem?_cons_succ, seval, Option.map_none, Int.reducePow, ↓reduceIte, Nat.reduceEqDiff, reduceCtorEq, and_self]
    refine wname g w1 (by simp only [List.length_cons, List.length_append, numB_len, txB, bitB, boxB_len]; omega) fun _ h2 w2 => ?_
    replace w2 := (show WR _ _ 3 (msB m) from by rw [er]; simpa only [List.append_assoc, List.cons_append, fsB] using w2)
    obtain ⟨v, e0, ver, hb1, ho⟩ := w2.out
    rcases ho with ⟨_, hnil⟩ | ⟨c0, e', ver', rfl, _, _, _, hc6⟩
    · exact absurd hnil (msB_ne _)
    have k1 := (w2.keep _ hm1).2.2
    simp only at k1
    by_cases hlen : (msB m).length ≤ 16384
    · have c8 : ¬ (16384 : Int) < ((msB m).length : Int) := by omega
      simp only [a1, a4, a6, k1, hb1, c8, R0, R1, R2, R3, R4, R5, R6, R7, R8, R9, VOp.fresh, bxC, bsC, AV.cells, un, most, callsOf, List.contains_nil, List.contains_cons, beq_iff_eq, List.getElem?_cons_zero, List.getElem?_cons_succ, seval, Option.map_none, Int.reducePow, ↓reduceIte, Nat.reduceEqDiff, reduceCtorEq, and_self]
      rw [cvT_sl hc6 (List.length_map _), mb_bytes (By.ms m)]
      simp only [R0, R1, R2, R3, R4, R5, R6, R7, R8, R9, VOp.fresh, bxC, bsC, AV.cells, un, most, callsOf, List.contains_nil, List.contains_cons, beq_iff_eq, List.getElem?_cons_zero, List.getElem?_cons_succ, seval, Option.map_none, Int.reducePow, ↓reduceIte, Nat.reduceEqDiff, reduceCtorEq, and_self]
      rw [msAns, if_pos hlen]
    · have c8 : (16384 : Int) < ((msB m).length : Int) := by omega
      simp only [a1, a4, a6, k1, hb1, c8, R0, R1, R2, R3, R4, R5, R6, R7, R8, R9, VOp.fresh, bxC, bsC, AV.cells, un, most, callsOf, List.contains_nil, List.contains_cons, beq_iff_eq, List.getElem?_cons_zero, List.getElem?_cons_succ, seval, Option.map_none, Int.reducePow, ↓reduceIte, Nat.reduceEqDiff, reduceCtorEq, and_self]
      rw [msAns, if_neg hlen]
  · have hrow : rowV m.kind = .agg [.bool true, .bool false, .bool false, .bool false, .bool false] := by rw [ek]; rfl
    have er : msB m = 77 :: 83 :: (numB m.kind 1 ++ (numB m.frm 1 ++ (numB m.to 1 ++ (txB m.node m.seq)))) := by
      have d1 : kTx m.kind = true := by rw [ek]; rfl
      have d2 : kOps m.kind = false := by rw [ek]; rfl
      have d3 : kYes m.kind = false := by rw [ek]; rfl
      have d4 : kQuery m.kind = false := by rw [ek]; rfl
      have d5 : kPart m.kind = false := by rw [ek]; rfl
      rw [msB, d1, d2, d3, d4, d5]
      simp only [if_true, Bool.false_eq_true, if_false, List.nil_append, List.append_nil, List.append_assoc]
    simp only [hrow, RW, ← hc, msC, R0, R1, R2, R3, R4, R5, R6, R7, R8, R9, VOp.fresh, bxC, bsC, AV.cells, un, most, callsOf, List.contains_nil, List.contains_cons, beq_iff_eq, List.getElem?_cons_zero, List.getElem?_cons_succ, seval, Option.map_none, Int.reducePow, ↓reduceIte, Nat.reduceEqDiff, reduceCtorEq, and_self]
    refine head (row := [.bool true, .bool false, .bool false, .bool false, .bool false]) (by rfl) ?_ ?_ ?_ ?_ ?_ ?_ ?_ ?_ ?_ ?_
    · simp only [R0, R1, R2, R3, R4, R5, R6, R7, R8, R9, VOp.fresh, bxC, bsC, AV.cells, un, most, callsOf, List.contains_nil, List.contains_cons, beq_iff_eq, List.getElem?_cons_zero, List.getElem?_cons_succ, seval, Option.map_none, Int.reducePow, ↓reduceIte, Nat.reduceEqDiff, reduceCtorEq, and_self]
    · simp only [R0, R1, R2, R3, R4, R5, R6, R7, R8, R9, VOp.fresh, bxC, bsC, AV.cells, un, most, callsOf, List.contains_nil, List.contains_cons, beq_iff_eq, List.getElem?_cons_zero, List.getElem?_cons_succ, seval, Option.map_none, Int.reducePow, ↓reduceIte, Nat.reduceEqDiff, reduceCtorEq, and_self]
    · simp only [R0, R1, R2, R3, R4, R5, R6, R7, R8, R9, VOp.fresh, bxC, bsC, AV.cells, un, most, callsOf, List.contains_nil, List.contains_cons, beq_iff_eq, List.getElem?_cons_zero, List.getElem?_cons_succ, seval, Option.map_none, Int.reducePow, ↓reduceIte, Nat.reduceEqDiff, reduceCtorEq, and_self]
    · simp only [← hc, msC, R0, R1, R2, R3, R4, R5, R6, R7, R8, R9, VOp.fresh, bxC, bsC, AV.cells, un, most, callsOf, List.contains_nil, List.contains_cons, beq_iff_eq, List.getElem?_cons_zero, List.getElem?_cons_succ, seval, Option.map_none, Int.reducePow, ↓reduceIte, Nat.reduceEqDiff, reduceCtorEq, and_self]
    · simp only [sg_set, Nat.reduceEqDiff, ↓reduceIte]
    · simp only [sg_set, Nat.reduceEqDiff, ↓reduceIte]
    · simp only [sg_set, Nat.reduceEqDiff, ↓reduceIte]
    · simp only [sg_set, Nat.reduceEqDiff, ↓reduceIte]
    · simp only [sg_set, Nat.reduceEqDiff, ↓reduceIte]
    intro s' h1 w1 a1 a4 a6
    have hm1 : ((1, .cells [.bool true, .bool false, .bool false, .bool false, .bool false] 132 1) : Nat × Blk) ∈ [((1, .cells [.bool true, .bool false, .bool false, .bool false, .bool false] 132 1) : Nat × Blk), (0, .cells c 63 0)] := List.mem_cons_self
    have hm0 : ((0, .cells c 63 0) : Nat × Blk) ∈ [((1, .cells [.bool true, .bool false, .bool false, .bool false, .bool false] 132 1) : Nat × Blk), (0, .cells c 63 0)] := List.mem_cons_of_mem _ List.mem_cons_self
    rw [← hc] at w1 hm0 hm1
    have k0 := (w1.keep _ hm0).2.2
    have k1 := (w1.keep _ hm1).2.2
    simp only [msC] at k0 k1
    simp only [a1, a4, a6, k0, k1, ha.len, hu.len, R0, R1, R2, R3, R4, R5, R6, R7, R8, R9, VOp.fresh, bxC, bsC, AV.cells, un, most, callsOf, List.contains_nil, List.contains_cons, beq_iff_eq, List.getElem?_cons_zero, List.getElem?_cons_succ, seval, Option.map_none, Int.reducePow, ↓reduceIte, Nat.reduceEqDiff, reduceCtorEq, and_self]
    refine wname g w1 (by simp only [List.length_cons, List.length_append, numB_len, txB, bitB, boxB_len]; omega) fun _ h2 w2 => ?_
    replace w2 := (show WR _ _ 3 (msB m) from by rw [er]; simpa only [List.append_assoc, List.cons_append, fsB] using w2)
    obtain ⟨v, e0, ver, hb1, ho⟩ := w2.out
    rcases ho with ⟨_, hnil⟩ | ⟨c0, e', ver', rfl, _, _, _, hc6⟩
    · exact absurd hnil (msB_ne _)
    have k1 := (w2.keep _ hm1).2.2
    simp only at k1
    by_cases hlen : (msB m).length ≤ 16384
    · have c8 : ¬ (16384 : Int) < ((msB m).length : Int) := by omega
      simp only [a1, a4, a6, k1, hb1, c8, R0, R1, R2, R3, R4, R5, R6, R7, R8, R9, VOp.fresh, bxC, bsC, AV.cells, un, most, callsOf, List.contains_nil, List.contains_cons, beq_iff_eq, List.getElem?_cons_zero, List.getElem?_cons_succ, seval, Option.map_none, Int.reducePow, ↓reduceIte, Nat.reduceEqDiff, reduceCtorEq, and_self]
      rw [cvT_sl hc6 (List.length_map _), mb_bytes (By.ms m)]
      simp only [R0, R1, R2, R3, R4, R5, R6, R7, R8, R9, VOp.fresh, bxC, bsC, AV.cells, un, most, callsOf, List.contains_nil, List.contains_cons, beq_iff_eq, List.getElem?_cons_zero, List.getElem?_cons_succ, seval, Option.map_none, Int.reducePow, ↓reduceIte, Nat.reduceEqDiff, reduceCtorEq, and_self]
      rw [msAns, if_pos hlen]
    · have c8 : (16384 : Int) < ((msB m).length : Int) := by omega
      simp only [a1, a4, a6, k1, hb1, c8, R0, R1, R2, R3, R4, R5, R6, R7, R8, R9, VOp.fresh, bxC, bsC, AV.cells, un, most, callsOf, List.contains_nil, List.contains_cons, beq_iff_eq, List.getElem?_cons_zero, List.getElem?_cons_succ, seval, Option.map_none, Int.reducePow, ↓reduceIte, Nat.reduceEqDiff, reduceCtorEq, and_self]
      rw [msAns, if_neg hlen]
  · have hrow : rowV m.kind = .agg [.bool false, .bool false, .bool false, .bool true, .bool false] := by rw [ek]; rfl
    have er : msB m = 77 :: 83 :: (numB m.kind 1 ++ (numB m.frm 1 ++ (numB m.to 1 ++ (numB m.query 2 ++ (boxB m.box))))) := by
      have d1 : kTx m.kind = false := by rw [ek]; rfl
      have d2 : kOps m.kind = false := by rw [ek]; rfl
      have d3 : kYes m.kind = false := by rw [ek]; rfl
      have d4 : kQuery m.kind = true := by rw [ek]; rfl
      have d5 : kPart m.kind = false := by rw [ek]; rfl
      rw [msB, d1, d2, d3, d4, d5]
      simp only [if_true, Bool.false_eq_true, if_false, List.nil_append, List.append_nil, List.append_assoc]
    simp only [hrow, RW, ← hc, msC, R0, R1, R2, R3, R4, R5, R6, R7, R8, R9, VOp.fresh, bxC, bsC, AV.cells, un, most, callsOf, List.contains_nil, List.contains_cons, beq_iff_eq, List.getElem?_cons_zero, List.getElem?_cons_succ, seval, Option.map_none, Int.reducePow, ↓reduceIte, Nat.reduceEqDiff, reduceCtorEq, and_self]
    refine head (row := [.bool false, .bool false, .bool false, .bool true, .bool false]) (by rfl) ?_ ?_ ?_ ?_ ?_ ?_ ?_ ?_ ?_ ?_
    · simp only [R0, R1, R2, R3, R4, R5, R6, R7, R8, R9, VOp.fresh, bxC, bsC, AV.cells, un, most, callsOf, List.contains_nil, List.contains_cons, beq_iff_eq, List.getElem?_cons_zero, List.getElem?_cons_succ, seval, Option.map_none, Int.reducePow, ↓reduceIte, Nat.reduceEqDiff, reduceCtorEq, and_self]
    · simp only [R0, R1, R2, R3, R4, R5, R6, R7, R8, R9, VOp.fresh, bxC, bsC, AV.cells, un, most, callsOf, List.contains_nil, List.contains_cons, beq_iff_eq, List.getElem?_cons_zero, List.getElem?_cons_succ, seval, Option.map_none, Int.reducePow, ↓reduceIte, Nat.reduceEqDiff, reduceCtorEq, and_self]
    · simp only [R0, R1, R2, R3, R4, R5, R6, R7, R8, R9, VOp.fresh, bxC, bsC, AV.cells, un, most, callsOf, List.contains_nil, List.contains_cons, beq_iff_eq, List.getElem?_cons_zero, List.getElem?_cons_succ, seval, Option.map_none, Int.reducePow, ↓reduceIte, Nat.reduceEqDiff, reduceCtorEq, and_self]
    · simp only [← hc, msC, R0, R1, R2, R3, R4, R5, R6, R7, R8, R9, VOp.fresh, bxC, bsC, AV.cells, un, most, callsOf, List.contains_nil, List.contains_cons, beq_iff_eq, List.getElem?_cons_zero, List.getElem?_cons_succ, seval, Option.map_none, Int.reducePow, ↓reduceIte, Nat.reduceEqDiff, reduceCtorEq, and_self]
    · simp only [sg_set, Nat.reduceEqDiff, ↓reduceIte]
    · simp only [sg_set, Nat.reduceEqDiff, ↓reduceIte]
    · simp only [sg_set, Nat.reduceEqDiff, ↓reduceIte]
    · simp only [sg_set, Nat.reduceEqDiff, ↓reduceIte]
    · simp only [sg_set, Nat.reduceEqDiff, ↓reduceIte]
    intro s' h1 w1 a1 a4 a6
    have hm1 : ((1, .cells [.bool false, .bool false, .bool false, .bool true, .bool false] 132 1) : Nat × Blk) ∈ [((1, .cells [.bool false, .bool false, .bool false, .bool true, .bool false] 132 1) : Nat × Blk), (0, .cells c 63 0)] := List.mem_cons_self
    have hm0 : ((0, .cells c 63 0) : Nat × Blk) ∈ [((1, .cells [.bool false, .bool false, .bool false, .bool true, .bool false] 132 1) : Nat × Blk), (0, .cells c 63 0)] := List.mem_cons_of_mem _ List.mem_cons_self
    rw [← hc] at w1 hm0 hm1
    have k0 := (w1.keep _ hm0).2.2
    have k1 := (w1.keep _ hm1).2.2
    simp only [msC] at k0 k1
    simp only [a1, a4, a6, k0, k1, ha.len, hu.len, R0, R1, R2, R3, R4, R5, R6, R7, R8, R9, VOp.fresh, bxC, bsC, AV.cells, un, most, callsOf, List.contains_nil, List.contains_cons, beq_iff_eq, List.getElem?_cons_zero, List.getElem?_cons_succ, seval, Option.map_none, Int.reducePow, ↓reduceIte, Nat.reduceEqDiff, reduceCtorEq, and_self]
    refine wnum (n := 2) g (num2_pu g _) (by decide) w1 (by simp only [List.length_cons, List.length_append, numB_len, txB, bitB, boxB_len]; omega) fun _ h2 w2 => ?_
    have k0 := (w2.keep _ hm0).2.2
    have k1 := (w2.keep _ hm1).2.2
    simp only [msC] at k0 k1
    simp only [a1, a4, a6, k0, k1, ha.len, hu.len, R0, R1, R2, R3, R4, R5, R6, R7, R8, R9, VOp.fresh, bxC, bsC, AV.cells, un, most, callsOf, List.contains_nil, List.contains_cons, beq_iff_eq, List.getElem?_cons_zero, List.getElem?_cons_succ, seval, Option.map_none, Int.reducePow, ↓reduceIte, Nat.reduceEqDiff, reduceCtorEq, and_self]
    refine wbox g m.box w2 (by simp only [List.length_cons, List.length_append, numB_len, txB, bitB, boxB_len]; omega) fun _ h3 w3 => ?_
    replace w3 := (show WR _ _ 3 (msB m) from by rw [er]; simpa only [List.append_assoc, List.cons_append, fsB] using w3)
    obtain ⟨v, e0, ver, hb1, ho⟩ := w3.out
    rcases ho with ⟨_, hnil⟩ | ⟨c0, e', ver', rfl, _, _, _, hc6⟩
    · exact absurd hnil (msB_ne _)
    have k1 := (w3.keep _ hm1).2.2
    simp only at k1
    by_cases hlen : (msB m).length ≤ 16384
    · have c8 : ¬ (16384 : Int) < ((msB m).length : Int) := by omega
      simp only [a1, a4, a6, k1, hb1, c8, R0, R1, R2, R3, R4, R5, R6, R7, R8, R9, VOp.fresh, bxC, bsC, AV.cells, un, most, callsOf, List.contains_nil, List.contains_cons, beq_iff_eq, List.getElem?_cons_zero, List.getElem?_cons_succ, seval, Option.map_none, Int.reducePow, ↓reduceIte, Nat.reduceEqDiff, reduceCtorEq, and_self]
      rw [cvT_sl hc6 (List.length_map _), mb_bytes (By.ms m)]
      simp only [R0, R1, R2, R3, R4, R5, R6, R7, R8, R9, VOp.fresh, bxC, bsC, AV.cells, un, most, callsOf, List.contains_nil, List.contains_cons, beq_iff_eq, List.getElem?_cons_zero, List.getElem?_cons_succ, seval, Option.map_none, Int.reducePow, ↓reduceIte, Nat.reduceEqDiff, reduceCtorEq, and_self]
      rw [msAns, if_pos hlen]
    · have c8 : (16384 : Int) < ((msB m).length : Int) := by omega
      simp only [a1, a4, a6, k1, hb1, c8, R0, R1, R2, R3, R4, R5, R6, R7, R8, R9, VOp.fresh, bxC, bsC, AV.cells, un, most, callsOf, List.contains_nil, List.contains_cons, beq_iff_eq, List.getElem?_cons_zero, List.getElem?_cons_succ, seval, Option.map_none, Int.reducePow, ↓reduceIte, Nat.reduceEqDiff, reduceCtorEq, and_self]
      rw [msAns, if_neg hlen]
  · have hrow : rowV m.kind = .agg [.bool false, .bool false, .bool false, .bool true, .bool true] := by rw [ek]; rfl
    have er : msB m = 77 :: 83 :: (numB m.kind 1 ++ (numB m.frm 1 ++ (numB m.to 1 ++ (numB m.query 2 ++ (boxB m.box ++ (numB m.applied 4 ++ (bitB m.busy ++ (fsB m.fs)))))))) := by
      have d1 : kTx m.kind = false := by rw [ek]; rfl
      have d2 : kOps m.kind = false := by rw [ek]; rfl
      have d3 : kYes m.kind = false := by rw [ek]; rfl
      have d4 : kQuery m.kind = true := by rw [ek]; rfl
      have d5 : kPart m.kind = true := by rw [ek]; rfl
      rw [msB, d1, d2, d3, d4, d5]
      simp only [if_true, Bool.false_eq_true, if_false, List.nil_append, List.append_nil, List.append_assoc]
    simp only [hrow, RW, ← hc, msC, R0, R1, R2, R3, R4, R5, R6, R7, R8, R9, VOp.fresh, bxC, bsC, AV.cells, un, most, callsOf, List.contains_nil, List.contains_cons, beq_iff_eq, List.getElem?_cons_zero, List.getElem?_cons_succ, seval, Option.map_none, Int.reducePow, ↓reduceIte, Nat.reduceEqDiff, reduceCtorEq, and_self]
    refine head (row := [.bool false, .bool false, .bool false, .bool true, .bool true]) (by rfl) ?_ ?_ ?_ ?_ ?_ ?_ ?_ ?_ ?_ ?_
    · simp only [R0, R1, R2, R3, R4, R5, R6, R7, R8, R9, VOp.fresh, bxC, bsC, AV.cells, un, most, callsOf, List.contains_nil, List.contains_cons, beq_iff_eq, List.getElem?_cons_zero, List.getElem?_cons_succ, seval, Option.map_none, Int.reducePow, ↓reduceIte, Nat.reduceEqDiff, reduceCtorEq, and_self]
    · simp only [R0, R1, R2, R3, R4, R5, R6, R7, R8, R9, VOp.fresh, bxC, bsC, AV.cells, un, most, callsOf, List.contains_nil, List.contains_cons, beq_iff_eq, List.getElem?_cons_zero, List.getElem?_cons_succ, seval, Option.map_none, Int.reducePow, ↓reduceIte, Nat.reduceEqDiff, reduceCtorEq, and_self]
    · simp only [R0, R1, R2, R3, R4, R5, R6, R7, R8, R9, VOp.fresh, bxC, bsC, AV.cells, un, most, callsOf, List.contains_nil, List.contains_cons, beq_iff_eq, List.getElem?_cons_zero, List.getElem?_cons_succ, seval, Option.map_none, Int.reducePow, ↓reduceIte, Nat.reduceEqDiff, reduceCtorEq, and_self]
    · simp only [← hc, msC, R0, R1, R2, R3, R4, R5, R6, R7, R8, R9, VOp.fresh, bxC, bsC, AV.cells, un, most, callsOf, List.contains_nil, List.contains_cons, beq_iff_eq, List.getElem?_cons_zero, List.getElem?_cons_succ, seval, Option.map_none, Int.reducePow, ↓reduceIte, Nat.reduceEqDiff, reduceCtorEq, and_self]
    · simp only [sg_set, Nat.reduceEqDiff, ↓reduceIte]
    · simp only [sg_set, Nat.reduceEqDiff, ↓reduceIte]
    · simp only [sg_set, Nat.reduceEqDiff, ↓reduceIte]
    · simp only [sg_set, Nat.reduceEqDiff, ↓reduceIte]
    · simp only [sg_set, Nat.reduceEqDiff, ↓reduceIte]
    intro s' h1 w1 a1 a4 a6
    have hm1 : ((1, .cells [.bool false, .bool false, .bool false, .bool true, .bool true] 132 1) : Nat × Blk) ∈ [((1, .cells [.bool false, .bool false, .bool false, .bool true, .bool true] 132 1) : Nat × Blk), (0, .cells c 63 0)] := List.mem_cons_self
    have hm0 : ((0, .cells c 63 0) : Nat × Blk) ∈ [((1, .cells [.bool false, .bool false, .bool false, .bool true, .bool true] 132 1) : Nat × Blk), (0, .cells c 63 0)] := List.mem_cons_of_mem _ List.mem_cons_self
    rw [← hc] at w1 hm0 hm1
    have k0 := (w1.keep _ hm0).2.2
    have k1 := (w1.keep _ hm1).2.2
    simp only [msC] at k0 k1
    simp only [a1, a4, a6, k0, k1, ha.len, hu.len, R0, R1, R2, R3, R4, R5, R6, R7, R8, R9, VOp.fresh, bxC, bsC, AV.cells, un, most, callsOf, List.contains_nil, List.contains_cons, beq_iff_eq, List.getElem?_cons_zero, List.getElem?_cons_succ, seval, Option.map_none, Int.reducePow, ↓reduceIte, Nat.reduceEqDiff, reduceCtorEq, and_self]
    refine wnum (n := 2) g (num2_pu g _) (by decide) w1 (by simp only [List.length_cons, List.length_append, numB_len, txB, bitB, boxB_len]; omega) fun _ h2 w2 => ?_
    have k0 := (w2.keep _ hm0).2.2
    have k1 := (w2.keep _ hm1).2.2
    simp only [msC] at k0 k1
    simp only [a1, a4, a6, k0, k1, ha.len, hu.len, R0, R1, R2, R3, R4, R5, R6, R7, R8, R9, VOp.fresh, bxC, bsC, AV.cells, un, most, callsOf, List.contains_nil, List.contains_cons, beq_iff_eq, List.getElem?_cons_zero, List.getElem?_cons_succ, seval, Option.map_none, Int.reducePow, ↓reduceIte, Nat.reduceEqDiff, reduceCtorEq, and_self]
    refine wbox g m.box w2 (by simp only [List.length_cons, List.length_append, numB_len, txB, bitB, boxB_len]; omega) fun _ h3 w3 => ?_
    have k0 := (w3.keep _ hm0).2.2
    have k1 := (w3.keep _ hm1).2.2
    simp only [msC] at k0 k1
    simp only [a1, a4, a6, k0, k1, ha.len, hu.len, R0, R1, R2, R3, R4, R5, R6, R7, R8, R9, VOp.fresh, bxC, bsC, AV.cells, un, most, callsOf, List.contains_nil, List.contains_cons, beq_iff_eq, List.getElem?_cons_zero, List.getElem?_cons_succ, seval, Option.map_none, Int.reducePow, ↓reduceIte, Nat.reduceEqDiff, reduceCtorEq, and_self]
    refine wnum (n := 4) g (num4_pu g _) (by decide) w3 (by simp only [List.length_cons, List.length_append, numB_len, txB, bitB, boxB_len]; omega) fun _ h4 w4 => ?_
    have k0 := (w4.keep _ hm0).2.2
    have k1 := (w4.keep _ hm1).2.2
    simp only [msC] at k0 k1
    simp only [a1, a4, a6, k0, k1, ha.len, hu.len, R0, R1, R2, R3, R4, R5, R6, R7, R8, R9, VOp.fresh, bxC, bsC, AV.cells, un, most, callsOf, List.contains_nil, List.contains_cons, beq_iff_eq, List.getElem?_cons_zero, List.getElem?_cons_succ, seval, Option.map_none, Int.reducePow, ↓reduceIte, Nat.reduceEqDiff, reduceCtorEq, and_self]
    refine wbool g w4 (by simp only [List.length_cons, List.length_append, numB_len, txB, bitB, boxB_len]; omega) fun _ h5 w5 => ?_
    have k0 := (w5.keep _ hm0).2.2
    have k1 := (w5.keep _ hm1).2.2
    simp only [msC] at k0 k1
    simp only [a1, a4, a6, k0, k1, ha.len, hu.len, R0, R1, R2, R3, R4, R5, R6, R7, R8, R9, VOp.fresh, bxC, bsC, AV.cells, un, most, callsOf, List.contains_nil, List.contains_cons, beq_iff_eq, List.getElem?_cons_zero, List.getElem?_cons_succ, seval, Option.map_none, Int.reducePow, ↓reduceIte, Nat.reduceEqDiff, reduceCtorEq, and_self]
    refine wnum (n := 2) g (num2_pu g _) (by decide) w5 (by simp only [List.length_cons, List.length_append, numB_len, txB, bitB, boxB_len]; omega) fun _ h6 w6 => ?_
    have k0 := (w6.keep _ hm0).2.2
    have k1 := (w6.keep _ hm1).2.2
    simp only [msC] at k0 k1
    simp only [a1, a4, a6, k0, k1, ha.len, hu.len, R0, R1, R2, R3, R4, R5, R6, R7, R8, R9, VOp.fresh, bxC, bsC, AV.cells, un, most, callsOf, List.contains_nil, List.contains_cons, beq_iff_eq, List.getElem?_cons_zero, List.getElem?_cons_succ, seval, Option.map_none, Int.reducePow, ↓reduceIte, Nat.reduceEqDiff, reduceCtorEq, and_self]
    have hpt' : (0 ≤ m.applied ∧ m.applied ≤ 2147483647) ∧ m.fs.length ≤ 256 ∧ (m.busy = true → m.fs = []) ∧ featsOk m.fs := by simpa only [partM, ek, kPart, decide_true, if_true] using hpt
    refine wfs g hu (fsSmall hpt'.2.2.2) (by omega) hm0 _ ?_ m.fs.length 0 _ _ _ _ (by omega) (by simpa using w6) ?_ ?_ ?_ ?_ ?_
    · simp only [List.length_cons, List.length_append, numB_len, bitB, boxB_len]; omega
    · simp only [a1, sg_set, Nat.reduceEqDiff, ↓reduceIte]
    · simp only [a6, sg_set, Nat.reduceEqDiff, ↓reduceIte]
    · simp only [sg_set, Nat.reduceEqDiff, ↓reduceIte]
    · simp only [sg_set, Nat.reduceEqDiff, ↓reduceIte]
      rfl
    intro s'' h7 w7 a6' 
    replace w7 := (show WR _ _ 3 (msB m) from by rw [er]; simpa only [List.append_assoc, List.cons_append, fsB] using w7)
    obtain ⟨v, e0, ver, hb1, ho⟩ := w7.out
    rcases ho with ⟨_, hnil⟩ | ⟨c0, e', ver', rfl, _, _, _, hc6⟩
    · exact absurd hnil (msB_ne _)
    have k1 := (w7.keep _ hm1).2.2
    simp only at k1
    have a6 := a6' 
    by_cases hlen : (msB m).length ≤ 16384
    · have c8 : ¬ (16384 : Int) < ((msB m).length : Int) := by omega
      simp only [a1, a4, a6, k1, hb1, c8, R0, R1, R2, R3, R4, R5, R6, R7, R8, R9, VOp.fresh, bxC, bsC, AV.cells, un, most, callsOf, List.contains_nil, List.contains_cons, beq_iff_eq, List.getElem?_cons_zero, List.getElem?_cons_succ, seval, Option.map_none, Int.reducePow, ↓reduceIte, Nat.reduceEqDiff, reduceCtorEq, and_self]
      rw [cvT_sl hc6 (List.length_map _), mb_bytes (By.ms m)]
      simp only [R0, R1, R2, R3, R4, R5, R6, R7, R8, R9, VOp.fresh, bxC, bsC, AV.cells, un, most, callsOf, List.contains_nil, List.contains_cons, beq_iff_eq, List.getElem?_cons_zero, List.getElem?_cons_succ, seval, Option.map_none, Int.reducePow, ↓reduceIte, Nat.reduceEqDiff, reduceCtorEq, and_self]
      rw [msAns, if_pos hlen]
    · have c8 : (16384 : Int) < ((msB m).length : Int) := by omega
      simp only [a1, a4, a6, k1, hb1, c8, R0, R1, R2, R3, R4, R5, R6, R7, R8, R9, VOp.fresh, bxC, bsC, AV.cells, un, most, callsOf, List.contains_nil, List.contains_cons, beq_iff_eq, List.getElem?_cons_zero, List.getElem?_cons_succ, seval, Option.map_none, Int.reducePow, ↓reduceIte, Nat.reduceEqDiff, reduceCtorEq, and_self]
      rw [msAns, if_neg hlen]
end
end Go.Proofs.Ytinonmcnofjeeaa.VM
