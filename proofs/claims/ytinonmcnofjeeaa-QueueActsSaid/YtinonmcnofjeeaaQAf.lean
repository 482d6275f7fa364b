/- Part of a proof: what stands for the program, and its walk. No condition. -/
import Derived.Below
import Derived.ChangeArms
import Derived.ChangeMaps5
import Derived.KernelRfl
import Derived.Laws.Cells
import Derived.Laws.IdiomCopy
import Derived.MapKept
import Derived.OrdersIn
import Derived.RangeFuncLeaves
import Derived.RangeFuncRecord
import Derived.SizedLaws
import Derived.WalkKit
import Derived.WalkLawsBesides
import GoSem.Claim
import Derived.Test.YtinonmcnofjeeaaQAe
set_option linter.unusedSimpArgs false
set_option linter.unusedVariables false
set_option linter.defProp false
set_option maxHeartbeats 1000000
namespace Go.Proofs.Ytinonmcnofjeeaa.VM
attribute [local irreducible] Af Nx EvO Ev Un Gd Cd EvR EvQ EvC Nc Gc Lp EvM NxM AfM GdM EvMR EvMQ EvMD EvMC Nm Gm
def msB (m : Ms) : List Nat := 77 :: 83 :: (numB m.kind 1 ++ (numB m.frm 1 ++ (numB m.to 1 ++ ((if kTx m.kind = true then txB m.node m.seq else []) ++ ((if kOps m.kind = true then numB (m.base + 1) 4 ++ opsB m.ops else []) ++
  ((if kYes m.kind = true then bitB m.yes else []) ++ ((if kQuery m.kind = true then numB m.query 2 ++ boxB m.box else []) ++ (if kPart m.kind = true then numB m.applied 4 ++ (bitB m.busy ++ fsB m.fs) else []))))))))
theorem By.ms (m : Ms) : By (msB m) := by
  have one : ∀ (b : Bool) (x : List Nat), By x → By (if b = true then x else []) := fun b x h => by split; exact h; exact By.nil
  have h2 : By [77, 83] := fun n hn => by simp at hn; omega
  have := h2.app ((By.num m.kind 1).app ((By.num m.frm 1).app ((By.num m.to 1).app ((one (kTx m.kind) _ ((By.num m.node 1).app (By.num m.seq 2))).app ((one (kOps m.kind) _ ((By.num (m.base + 1) 4).app (By.ops m.ops))).app
    ((one (kYes m.kind) _ (By.num (if m.yes then 1 else 0) 1)).app ((one (kQuery m.kind) _ ((By.num m.query 2).app (By.box m.box))).app (one (kPart m.kind) _ ((By.num m.applied 4).app ((By.num (if m.busy then 1 else 0) 1).app (By.fs m.fs)))))))))))
  exact this
theorem msB_ne (m : Ms) : msB m ≠ [] := by rw [msB]; simp
/-- what is written of a message -/
def msAns (m : Ms) : AV := if (msB m).length ≤ 16384 then .tup [.str (msB m), .int .i64 0] else .tup [.str [], .int .i64 1600]
theorem fsSmall {l : List Feat} (h : featsOk l) : ∀ f ∈ l, featSmall f := by
  intro f hf
  obtain ⟨i, hi, rfl⟩ := List.mem_iff_getElem.1 hf
  rw [← getD_feat hi]
  exact featOk_small (h i hi).1
section
variable {P : Program} {m : Ms} {a u : AV}
theorem msgPut_good (g : Pg P tab) (ha : IsL 112 ROp a m.ops) (hu : IsL 40 RFeat u m.fs) (ok : msOk m) : Pu P 25 [.agg (msC m a u)] (fun v => v = msAns m) := by
  refine g.pu (vf := v25) rfl rfl ?_
  have hm := may_pu g ha hu (t := []) rfl
  rw [List.append_nil] at hm
  have ht := tolds_ms ha hu
  generalize hc : msC m a u = c at hm ht ⊢
  simp only [v25, RX, VOp.fresh, bxC, bsC, un, most, callsOf, seval, Int.reducePow, ↓reduceIte, Nat.reduceEqDiff, reduceCtorEq]
  have hf : Fzs true (({ next := 0, t := T.e } : Heap).mk' 0 (.cells c 63 0)) [.ptr 0 0] [.rp c] := .cons (.ptr (by rw [Heap.get_mk, if_pos rfl]) (Fzs.refl ht)) .nil
  refine hm.cl hf ?_
  rintro x ⟨b, rfl, hb⟩
  cases b
  · exact absurd (hb.2 ok) (by simp)
  clear hm hf hb
  obtain ⟨⟨hk0, hk6⟩, hfr, hto, htx, hy, hops, hq, hpt⟩ := ok

  have head : ∀ {H : Heap} {s : T AV} {k : List Fr} {Q : Ex → T AV → Heap → Prop} {row : List AV}, H.next = 4 → H.get 3 = some (.cells [.sl 2 0 2 2 1] 103 0) → H.get 2 = some (.cells [.int .u8 77, .int .u8 83] 5 0) → H.get 1 = some (.cells row 132 1) → H.get 0 = some (.cells c 63 0) →
      sg s 26 = .agg [.int .i64 m.kind, .int .i64 m.frm, .int .i64 m.to] → sg s 27 = .int .i64 0 → sg s 6 = .ptr 3 0 → sg s 1 = .ptr 0 0 → sg s 4 = .ptr 1 0 →
      (∀ s' h', WR [(1, .cells row 132 1), (0, .cells c 63 0)] h' 3 (77 :: 83 :: (numB m.kind 1 ++ (numB m.frm 1 ++ numB m.to 1))) → sg s' 1 = .ptr 0 0 → sg s' 4 = .ptr 1 0 → sg s' 6 = .ptr 3 0 → Un P k Q (.exit 0) s' h') → Lp P b25_0 s H (Un P k Q) := by
    intro H s k Q row hn g3 g2 g1 g0 a26 a27 a6 a1 a4 hK
    have w0 : WR [(1, .cells row 132 1), (0, .cells c 63 0)] H 3 [77, 83] := by
      refine ⟨by omega, ⟨_, _, _, g3, .inr ⟨2, 5, 0, rfl, by omega, by decide, ?_, g2⟩⟩, ?_⟩
      · intro p hp; simp at hp; rcases hp with rfl | rfl <;> simp
      · intro p hp
        simp only [List.mem_cons, List.not_mem_nil, or_false] at hp
        rcases hp with rfl | rfl
        · exact ⟨by simp only; omega, show (1 : Nat) ≠ 3 by decide, g1⟩
        · exact ⟨by simp only; omega, show (0 : Nat) ≠ 3 by decide, g0⟩
    refine g.lpe b25_0.eq_1 ?_
    simp only [a26, a27, a6, a1, a4, RX, VOp.fresh, bxC, bsC, un, most, callsOf, seval, Int.reducePow, ↓reduceIte, Nat.reduceEqDiff, reduceCtorEq]
    refine wnum (n := 1) g (num1_pu g _) (by decide) w0 (by simp) fun _ h1 w1 => ?_
    simp only [a26, a27, a6, a1, a4, RX, VOp.fresh, bxC, bsC, un, most, callsOf, seval, Int.reducePow, ↓reduceIte, Nat.reduceEqDiff, reduceCtorEq]
    refine g.lpe b25_0.eq_1 ?_
    simp only [a26, a27, a6, a1, a4, RX, VOp.fresh, bxC, bsC, un, most, callsOf, seval, Int.reducePow, ↓reduceIte, Nat.reduceEqDiff, reduceCtorEq]
    refine wnum (n := 1) g (num1_pu g _) (by decide) w1 (by simp [numB_len]) fun _ h2 w2 => ?_
    simp only [a26, a27, a6, a1, a4, RX, VOp.fresh, bxC, bsC, un, most, callsOf, seval, Int.reducePow, ↓reduceIte, Nat.reduceEqDiff, reduceCtorEq]
    refine g.lpe b25_0.eq_1 ?_
    simp only [a26, a27, a6, a1, a4, RX, VOp.fresh, bxC, bsC, un, most, callsOf, seval, Int.reducePow, ↓reduceIte, Nat.reduceEqDiff, reduceCtorEq]
    refine wnum (n := 1) g (num1_pu g _) (by decide) w2 (by simp [numB_len]) fun _ h3 w3 => ?_
    simp only [a26, a27, a6, a1, a4, RX, VOp.fresh, bxC, bsC, un, most, callsOf, seval, Int.reducePow, ↓reduceIte, Nat.reduceEqDiff, reduceCtorEq]
    refine g.lpe b25_0.eq_1 ?_
    simp only [a26, a27, a6, a1, a4, RX, VOp.fresh, bxC, bsC, un, most, callsOf, seval, Int.reducePow, ↓reduceIte, Nat.reduceEqDiff, reduceCtorEq]
    refine hK _ _ (by simpa only [List.append_assoc, List.cons_append, List.nil_append] using w3) ?_ ?_ ?_
    · simp only [a1, sg_set, Nat.reduceEqDiff, ↓reduceIte]
    · simp only [a4, sg_set, Nat.reduceEqDiff, ↓reduceIte]
    · simp only [a6, sg_set, Nat.reduceEqDiff, ↓reduceIte]
  rcases (by omega : m.kind = 0 ∨ m.kind = 1 ∨ m.kind = 2 ∨ m.kind = 3 ∨ m.kind = 4 ∨ m.kind = 5 ∨ m.kind = 6) with ek | ek | ek | ek | ek | ek | ek
  · have hrow : rowV m.kind = .agg [.bool true, .bool true, .bool false, .bool false, .bool false] := by rw [ek]; rfl
    have er : msB m = 77 :: 83 :: (numB m.kind 1 ++ (numB m.frm 1 ++ (numB m.to 1 ++ (txB m.node m.seq ++ (numB (m.base + 1) 4 ++ (opsB m.ops)))))) := by
      have d1 : kTx m.kind = true := by rw [ek]; rfl
      have d2 : kOps m.kind = true := by rw [ek]; rfl
      have d3 : kYes m.kind = false := by rw [ek]; rfl
      have d4 : kQuery m.kind = false := by rw [ek]; rfl
      have d5 : kPart m.kind = false := by rw [ek]; rfl
      rw [msB, d1, d2, d3, d4, d5]
      simp only [if_true, Bool.false_eq_true, if_false, List.nil_append, List.append_nil, List.append_assoc]
    simp only [hrow, RW, ← hc, msC, RX, VOp.fresh, bxC, bsC, un, most, callsOf, seval, Int.reducePow, ↓reduceIte, Nat.reduceEqDiff, reduceCtorEq]
    refine head (row := [.bool true, .bool true, .bool false, .bool false, .bool false]) (by rfl) ?_ ?_ ?_ ?_ ?_ ?_ ?_ ?_ ?_ ?_
    · simp only [RX, VOp.fresh, bxC, bsC, un, most, callsOf, seval, Int.reducePow, ↓reduceIte, Nat.reduceEqDiff, reduceCtorEq]
    · simp only [RX, VOp.fresh, bxC, bsC, un, most, callsOf, seval, Int.reducePow, ↓reduceIte, Nat.reduceEqDiff, reduceCtorEq]
    · simp only [RX, VOp.fresh, bxC, bsC, un, most, callsOf, seval, Int.reducePow, ↓reduceIte, Nat.reduceEqDiff, reduceCtorEq]
    · simp only [← hc, msC, RX, VOp.fresh, bxC, bsC, un, most, callsOf, seval, Int.reducePow, ↓reduceIte, Nat.reduceEqDiff, reduceCtorEq]
    · simp only [sg_set, Nat.reduceEqDiff, ↓reduceIte]
    · simp only [sg_set, Nat.reduceEqDiff, ↓reduceIte]
    · simp only [sg_set, Nat.reduceEqDiff, ↓reduceIte]
    · simp only [sg_set, Nat.reduceEqDiff, ↓reduceIte]
    · simp only [sg_set, Nat.reduceEqDiff, ↓reduceIte]
    intro s' h1 w1 a1 a4 a6
    have hm1 : ((1, .cells [.bool true, .bool true, .bool false, .bool false, .bool false] 132 1) : Nat × Blk) ∈ [((1, .cells [.bool true, .bool true, .bool false, .bool false, .bool false] 132 1) : Nat × Blk), (0, .cells c 63 0)] := List.mem_cons_self
    have hm0 : ((0, .cells c 63 0) : Nat × Blk) ∈ [((1, .cells [.bool true, .bool true, .bool false, .bool false, .bool false] 132 1) : Nat × Blk), (0, .cells c 63 0)] := List.mem_cons_of_mem _ List.mem_cons_self
    rw [← hc] at w1 hm0 hm1
    have k0 := (w1.keep _ hm0).2.2
    have k1 := (w1.keep _ hm1).2.2
    simp only [msC] at k0 k1
    simp only [a1, a4, a6, k0, k1, ha.len, hu.len, RX, VOp.fresh, bxC, bsC, un, most, callsOf, seval, Int.reducePow, ↓reduceIte, Nat.reduceEqDiff, reduceCtorEq]
    refine wname g w1 (by simp only [List.length_cons, List.length_append, numB_len, txB, bitB, boxB_len]; omega) fun _ h2 w2 => ?_
    have k0 := (w2.keep _ hm0).2.2
    have k1 := (w2.keep _ hm1).2.2
    simp only [msC] at k0 k1
    simp only [a1, a4, a6, k0, k1, ha.len, hu.len, RX, VOp.fresh, bxC, bsC, un, most, callsOf, seval, Int.reducePow, ↓reduceIte, Nat.reduceEqDiff, reduceCtorEq]
    have hops' : (-1 ≤ m.base ∧ m.base ≤ 65535) ∧ opsOk 8 m.ops := by simpa only [opsM, ek, kOps, decide_true, if_true] using hops
    refine wops g ha (by have := hops'.2.2.1; omega) ?_ (by omega) (by omega) w2 (by simp only [List.length_cons, List.length_append, numB_len, txB, bitB, boxB_len]; omega) fun _ h3 w3 => ?_
    · intro o ho
      obtain ⟨j, hj, rfl⟩ := List.mem_iff_getElem.1 ho
      rw [← getD_op hj]
      exact opOk_small (hops'.2.2.2 j hj).1
    replace w3 := (show WR _ _ 3 (msB m) from by rw [er]; simpa only [List.append_assoc, List.cons_append, fsB] using w3)
    obtain ⟨v, e0, ver, hb1, ho⟩ := w3.out
    rcases ho with ⟨_, hnil⟩ | ⟨c0, e', ver', rfl, _, _, _, hc6⟩
    · exact absurd hnil (msB_ne _)
    have k1 := (w3.keep _ hm1).2.2
    simp only at k1
    by_cases hlen : (msB m).length ≤ 16384
    · have c8 : ¬ (16384 : Int) < ((msB m).length : Int) := by omega
      simp only [a1, a4, a6, k1, hb1, c8, RX, VOp.fresh, bxC, bsC, un, most, callsOf, seval, Int.reducePow, ↓reduceIte, Nat.reduceEqDiff, reduceCtorEq]
      rw [cvT_sl hc6 (List.length_map _), mb_bytes (By.ms m)]
      simp only [RX, VOp.fresh, bxC, bsC, un, most, callsOf, seval, Int.reducePow, ↓reduceIte, Nat.reduceEqDiff, reduceCtorEq]
      rw [msAns, if_pos hlen]
    · have c8 : (16384 : Int) < ((msB m).length : Int) := by omega
      simp only [a1, a4, a6, k1, hb1, c8, RX, VOp.fresh, bxC, bsC, un, most, callsOf, seval, Int.reducePow, ↓reduceIte, Nat.reduceEqDiff, reduceCtorEq]
      rw [msAns, if_neg hlen]
  · have hrow : rowV m.kind = .agg [.bool true, .bool false, .bool true, .bool false, .bool false] := by rw [ek]; rfl
    have er : msB m = 77 :: 83 :: (numB m.kind 1 ++ (numB m.frm 1 ++ (numB m.to 1 ++ (txB m.node m.seq ++ (bitB m.yes))))) := by
      have d1 : kTx m.kind = true := by rw [ek]; rfl
      have d2 : kOps m.kind = false := by rw [ek]; rfl
      have d3 : kYes m.kind = true := by rw [ek]; rfl
      have d4 : kQuery m.kind = false := by rw [ek]; rfl
      have d5 : kPart m.kind = false := by rw [ek]; rfl
      rw [msB, d1, d2, d3, d4, d5]
      simp only [if_true, Bool.false_eq_true, if_false, List.nil_append, List.append_nil, List.append_assoc]
    simp only [hrow, RW, ← hc, msC, RX, VOp.fresh, bxC, bsC, un, most, callsOf, seval, Int.reducePow, ↓reduceIte, Nat.reduceEqDiff, reduceCtorEq]
    refine head (row := [.bool true, .bool false, .bool true, .bool false, .bool false]) (by rfl) ?_ ?_ ?_ ?_ ?_ ?_ ?_ ?_ ?_ ?_
    · simp only [RX, VOp.fresh, bxC, bsC, un, most, callsOf, seval, Int.reducePow, ↓reduceIte, Nat.reduceEqDiff, reduceCtorEq]
    · simp only [RX, VOp.fresh, bxC, bsC, un, most, callsOf, seval, Int.reducePow, ↓reduceIte, Nat.reduceEqDiff, reduceCtorEq]
    · simp only [RX, VOp.fresh, bxC, bsC, un, most, callsOf, seval, Int.reducePow, ↓reduceIte, Nat.reduceEqDiff, reduceCtorEq]
    · simp only [← hc, msC, RX, VOp.fresh, bxC, bsC, un, most, callsOf, seval, Int.reducePow, ↓reduceIte, Nat.reduceEqDiff, reduceCtorEq]
    · simp only [sg_set, Nat.reduceEqDiff, ↓reduceIte]
    · simp only [sg_set, Nat.reduceEqDiff, ↓reduceIte]
    · simp only [sg_set, Nat.reduceEqDiff, ↓reduceIte]
    · simp only [sg_set, Nat.reduceEqDiff, ↓reduceIte]
    · simp only [sg_set, Nat.reduceEqDiff, ↓reduceIte]
    intro s' h1 w1 a1 a4 a6
    have hm1 : ((1, .cells [.bool true, .bool false, .bool true, .bool false, .bool false] 132 1) : Nat × Blk) ∈ [((1, .cells [.bool true, .bool false, .bool true, .bool false, .bool false] 132 1) : Nat × Blk), (0, .cells c 63 0)] := List.mem_cons_self
    have hm0 : ((0, .cells c 63 0) : Nat × Blk) ∈ [((1, .cells [.bool true, .bool false, .bool true, .bool false, .bool false] 132 1) : Nat × Blk), (0, .cells c 63 0)] := List.mem_cons_of_mem _ List.mem_cons_self
    rw [← hc] at w1 hm0 hm1
    have k0 := (w1.keep _ hm0).2.2
    have k1 := (w1.keep _ hm1).2.2
    simp only [msC] at k0 k1
    simp only [a1, a4, a6, k0, k1, ha.len, hu.len, RX, VOp.fresh, bxC, bsC, un, most, callsOf, seval, Int.reducePow, ↓reduceIte, Nat.reduceEqDiff, reduceCtorEq]
    refine wname g w1 (by simp only [List.length_cons, List.length_append, numB_len, txB, bitB, boxB_len]; omega) fun _ h2 w2 => ?_
    have k0 := (w2.keep _ hm0).2.2
    have k1 := (w2.keep _ hm1).2.2
    simp only [msC] at k0 k1
    simp only [a1, a4, a6, k0, k1, ha.len, hu.len, RX, VOp.fresh, bxC, bsC, un, most, callsOf, seval, Int.reducePow, ↓reduceIte, Nat.reduceEqDiff, reduceCtorEq]
    refine wbool g w2 (by simp only [List.length_cons, List.length_append, numB_len, txB, bitB, boxB_len]; omega) fun _ h3 w3 => ?_
    replace w3 := (show WR _ _ 3 (msB m) from by rw [er]; simpa only [List.append_assoc, List.cons_append, fsB] using w3)
    obtain ⟨v, e0, ver, hb1, ho⟩ := w3.out
    rcases ho with ⟨_, hnil⟩ | ⟨c0, e', ver', rfl, _, _, _, hc6⟩
    · exact absurd hnil (msB_ne _)
    have k1 := (w3.keep _ hm1).2.2
    simp only at k1
    by_cases hlen : (msB m).length ≤ 16384
    · have c8 : ¬ (16384 : Int) < ((msB m).length : Int) := by omega
      simp only [a1, a4, a6, k1, hb1, c8, RX, VOp.fresh, bxC, bsC, un, most, callsOf, seval, Int.reducePow, ↓reduceIte, Nat.reduceEqDiff, reduceCtorEq]
      rw [cvT_sl hc6 (List.length_map _), mb_bytes (By.ms m)]
      simp only [RX, VOp.fresh, bxC, bsC, un, most, callsOf, seval, Int.reducePow, ↓reduceIte, Nat.reduceEqDiff, reduceCtorEq]
      rw [msAns, if_pos hlen]
    · have c8 : (16384 : Int) < ((msB m).length : Int) := by omega
      simp only [a1, a4, a6, k1, hb1, c8, RX, VOp.fresh, bxC, bsC, un, most, callsOf, seval, Int.reducePow, ↓reduceIte, Nat.reduceEqDiff, reduceCtorEq]
      rw [msAns, if_neg hlen]
  · have hrow : rowV m.kind = .agg [.bool true, .bool false, .bool true, .bool false, .bool false] := by rw [ek]; rfl
    have er : msB m = 77 :: 83 :: (numB m.kind 1 ++ (numB m.frm 1 ++ (numB m.to 1 ++ (txB m.node m.seq ++ (bitB m.yes))))) := by
      have d1 : kTx m.kind = true := by rw [ek]; rfl
      have d2 : kOps m.kind = false := by rw [ek]; rfl
      have d3 : kYes m.kind = true := by rw [ek]; rfl
      have d4 : kQuery m.kind = false := by rw [ek]; rfl
      have d5 : kPart m.kind = false := by rw [ek]; rfl
      rw [msB, d1, d2, d3, d4, d5]
      simp only [if_true, Bool.false_eq_true, if_false, List.nil_append, List.append_nil, List.append_assoc]
    simp only [hrow, RW, ← hc, msC, RX, VOp.fresh, bxC, bsC, un, most, callsOf, seval, Int.reducePow, ↓reduceIte, Nat.reduceEqDiff, reduceCtorEq]
    refine head (row := [.bool true, .bool false, .bool true, .bool false, .bool false]) (by rfl) ?_ ?_ ?_ ?_ ?_ ?_ ?_ ?_ ?_ ?_
    · simp only [RX, VOp.fresh, bxC, bsC, un, most, callsOf, seval, Int.reducePow, ↓reduceIte, Nat.reduceEqDiff, reduceCtorEq]
    · simp only [RX, VOp.fresh, bxC, bsC, un, most, callsOf, seval, Int.reducePow, ↓reduceIte, Nat.reduceEqDiff, reduceCtorEq]
    · simp only [RX, VOp.fresh, bxC, bsC, un, most, callsOf, seval, Int.reducePow, ↓reduceIte, Nat.reduceEqDiff, reduceCtorEq]
    · simp only [← hc, msC, RX, VOp.fresh, bxC, bsC, un, most, callsOf, seval, Int.reducePow, ↓reduceIte, Nat.reduceEqDiff, reduceCtorEq]
    · simp only [sg_set, Nat.reduceEqDiff, ↓reduceIte]
    · simp only [sg_set, Nat.reduceEqDiff, ↓reduceIte]
    · simp only [sg_set, Nat.reduceEqDiff, ↓reduceIte]
    · simp only [sg_set, Nat.reduceEqDiff, ↓reduceIte]
    · simp only [sg_set, Nat.reduceEqDiff, ↓reduceIte]
    intro s' h1 w1 a1 a4 a6
    have hm1 : ((1, .cells [.bool true, .bool false, .bool true, .bool false, .bool false] 132 1) : Nat × Blk) ∈ [((1, .cells [.bool true, .bool false, .bool true, .bool false, .bool false] 132 1) : Nat × Blk), (0, .cells c 63 0)] := List.mem_cons_self
    have hm0 : ((0, .cells c 63 0) : Nat × Blk) ∈ [((1, .cells [.bool true, .bool false, .bool true, .bool false, .bool false] 132 1) : Nat × Blk), (0, .cells c 63 0)] := List.mem_cons_of_mem _ List.mem_cons_self
    rw [← hc] at w1 hm0 hm1
    have k0 := (w1.keep _ hm0).2.2
    have k1 := (w1.keep _ hm1).2.2
    simp only [msC] at k0 k1
    simp only [a1, a4, a6, k0, k1, ha.len, hu.len, RX, VOp.fresh, bxC, bsC, un, most, callsOf, seval, Int.reducePow, ↓reduceIte, Nat.reduceEqDiff, reduceCtorEq]
    refine wname g w1 (by simp only [List.length_cons, List.length_append, numB_len, txB, bitB, boxB_len]; omega) fun _ h2 w2 => ?_
    have k0 := (w2.keep _ hm0).2.2
    have k1 := (w2.keep _ hm1).2.2
    simp only [msC] at k0 k1
    simp only [a1, a4, a6, k0, k1, ha.len, hu.len, RX, VOp.fresh, bxC, bsC, un, most, callsOf, seval, Int.reducePow, ↓reduceIte, Nat.reduceEqDiff, reduceCtorEq]
    refine wbool g w2 (by simp only [List.length_cons, List.length_append, numB_len, txB, bitB, boxB_len]; omega) fun _ h3 w3 => ?_
    replace w3 := (show WR _ _ 3 (msB m) from by rw [er]; simpa only [List.append_assoc, List.cons_append, fsB] using w3)
    obtain ⟨v, e0, ver, hb1, ho⟩ := w3.out
    rcases ho with ⟨_, hnil⟩ | ⟨c0, e', ver', rfl, _, _, _, hc6⟩
    · exact absurd hnil (msB_ne _)
    have k1 := (w3.keep _ hm1).2.2
    simp only at k1
    by_cases hlen : (msB m).length ≤ 16384
    · have c8 : ¬ (16384 : Int) < ((msB m).length : Int) := by omega
      simp only [a1, a4, a6, k1, hb1, c8, RX, VOp.fresh, bxC, bsC, un, most, callsOf, seval, Int.reducePow, ↓reduceIte, Nat.reduceEqDiff, reduceCtorEq]
      rw [cvT_sl hc6 (List.length_map _), mb_bytes (By.ms m)]
      simp only [RX, VOp.fresh, bxC, bsC, un, most, callsOf, seval, Int.reducePow, ↓reduceIte, Nat.reduceEqDiff, reduceCtorEq]
      rw [msAns, if_pos hlen]
    · have c8 : (16384 : Int) < ((msB m).length : Int) := by omega
      simp only [a1, a4, a6, k1, hb1, c8, RX, VOp.fresh, bxC, bsC, un, most, callsOf, seval, Int.reducePow, ↓reduceIte, Nat.reduceEqDiff, reduceCtorEq]
      rw [msAns, if_neg hlen]
  · have hrow : rowV m.kind = .agg [.bool true, .bool false, .bool false, .bool false, .bool false] := by rw [ek]; rfl
    have er : msB m = 77 :: 83 :: (numB m.kind 1 ++ (numB m.frm 1 ++ (numB m.to 1 ++ (txB m.node m.seq)))) := by
      have d1 : kTx m.kind = true := by rw [ek]; rfl
      have d2 : kOps m.kind = false := by rw [ek]; rfl
      have d3 : kYes m.kind = false := by rw [ek]; rfl
      have d4 : kQuery m.kind = false := by rw [ek]; rfl
      have d5 : kPart m.kind = false := by rw [ek]; rfl
      rw [msB, d1, d2, d3, d4, d5]
      simp only [if_true, Bool.false_eq_true, if_false, List.nil_append, List.append_nil, List.append_assoc]
    simp only [hrow, RW, ← hc, msC, RX, VOp.fresh, bxC, bsC, un, most, callsOf, seval, Int.reducePow, ↓reduceIte, Nat.reduceEqDiff, reduceCtorEq]
    refine head (row := [.bool true, .bool false, .bool false, .bool false, .bool false]) (by rfl) ?_ ?_ ?_ ?_ ?_ ?_ ?_ ?_ ?_ ?_
    · simp only [RX, VOp.fresh, bxC, bsC, un, most, callsOf, seval, Int.reducePow, ↓reduceIte, Nat.reduceEqDiff, reduceCtorEq]
    · simp only [RX, VOp.fresh, bxC, bsC, un, most, callsOf, seval, Int.reducePow, ↓reduceIte, Nat.reduceEqDiff, reduceCtorEq]
    · simp only [RX, VOp.fresh, bxC, bsC, un, most, callsOf, seval, Int.reducePow, ↓reduceIte, Nat.reduceEqDiff, reduceCtorEq]
    · simp only [← hc, msC, RX, VOp.fresh, bxC, bsC, un, most, callsOf, seval, Int.reducePow, ↓reduceIte, Nat.reduceEqDiff, reduceCtorEq]
    · simp only [sg_set, Nat.reduceEqDiff, ↓reduceIte]
    · simp only [sg_set, Nat.reduceEqDiff, ↓reduceIte]
    · simp only [sg_set, Nat.reduceEqDiff, ↓reduceIte]
    · simp only [sg_set, Nat.reduceEqDiff, ↓reduceIte]
    · simp only [sg_set, Nat.reduceEqDiff, ↓reduceIte]
    intro s' h1 w1 a1 a4 a6
    have hm1 : ((1, .cells [.bool true, .bool false, .bool false, .bool false, .bool false] 132 1) : Nat × Blk) ∈ [((1, .cells [.bool true, .bool false, .bool false, .bool false, .bool false] 132 1) : Nat × Blk), (0, .cells c 63 0)] := List.mem_cons_self
    have hm0 : ((0, .cells c 63 0) : Nat × Blk) ∈ [((1, .cells [.bool true, .bool false, .bool false, .bool false, .bool false] 132 1) : Nat × Blk), (0, .cells c 63 0)] := List.mem_cons_of_mem _ List.mem_cons_self
    rw [← hc] at w1 hm0 hm1
    have k0 := (w1.keep _ hm0).2.2
    have k1 := (w1.keep _ hm1).2.2
    simp only [msC] at k0 k1
    simp only [a1, a4, a6, k0, k1, ha.len, hu.len, RX, VOp.fresh, bxC, bsC, un, most, callsOf, seval, Int.reducePow, ↓reduceIte, Nat.reduceEqDiff, reduceCtorEq]
    refine wname g w1 (by simp only [List.length_cons, List.length_append, numB_len, txB, bitB, boxB_len]; omega) fun _ h2 w2 => ?_
    replace w2 := (show WR _ _ 3 (msB m) from by rw [er]; simpa only [List.append_assoc, List.cons_append, fsB] using w2)
    obtain ⟨v, e0, ver, hb1, ho⟩ := w2.out
    rcases ho with ⟨_, hnil⟩ | ⟨c0, e', ver', rfl, _, _, _, hc6⟩
    · exact absurd hnil (msB_ne _)
    have k1 := (w2.keep _ hm1).2.2
    simp only at k1
    by_cases hlen : (msB m).length ≤ 16384
    · have c8 : ¬ (16384 : Int) < ((msB m).length : Int) := by omega
      simp only [a1, a4, a6, k1, hb1, c8, RX, VOp.fresh, bxC, bsC, un, most, callsOf, seval, Int.reducePow, ↓reduceIte, Nat.reduceEqDiff, reduceCtorEq]
      rw [cvT_sl hc6 (List.length_map _), mb_bytes (By.ms m)]
      simp only [RX, VOp.fresh, bxC, bsC, un, most, callsOf, seval, Int.reducePow, ↓reduceIte, Nat.reduceEqDiff, reduceCtorEq]
      rw [msAns, if_pos hlen]
    · have c8 : (16384 : Int) < ((msB m).length : Int) := by omega
      simp only [a1, a4, a6, k1, hb1, c8, RX, VOp.fresh, bxC, bsC, un, most, callsOf, seval, Int.reducePow, ↓reduceIte, Nat.reduceEqDiff, reduceCtorEq]
      rw [msAns, if_neg hlen]
  · have hrow : rowV m.kind = .agg [.bool true, .bool false, .bool false, .bool false, .bool false] := by rw [ek]; rfl
    have er : msB m = 77 :: 83 :: (numB m.kind 1 ++ (numB m.frm 1 ++ (numB m.to 1 ++ (txB m.node m.seq)))) := by
      have d1 : kTx m.kind = true := by rw [ek]; rfl
      have d2 : kOps m.kind = false := by rw [ek]; rfl
      have d3 : kYes m.kind = false := by rw [ek]; rfl
      have d4 : kQuery m.kind = false := by rw [ek]; rfl
      have d5 : kPart m.kind = false := by rw [ek]; rfl
      rw [msB, d1, d2, d3, d4, d5]
      simp only [if_true, Bool.false_eq_true, if_false, List.nil_append, List.append_nil, List.append_assoc]
    simp only [hrow, RW, ← hc, msC, RX, VOp.fresh, bxC, bsC, un, most, callsOf, seval, Int.reducePow, ↓reduceIte, Nat.reduceEqDiff, reduceCtorEq]
    refine head (row := [.bool true, .bool false, .bool false, .bool false, .bool false]) (by rfl) ?_ ?_ ?_ ?_ ?_ ?_ ?_ ?_ ?_ ?_
    · simp only [RX, VOp.fresh, bxC, bsC, un, most, callsOf, seval, Int.reducePow, ↓reduceIte, Nat.reduceEqDiff, reduceCtorEq]
    · simp only [RX, VOp.fresh, bxC, bsC, un, most, callsOf, seval, Int.reducePow, ↓reduceIte, Nat.reduceEqDiff, reduceCtorEq]
    · simp only [RX, VOp.fresh, bxC, bsC, un, most, callsOf, seval, Int.reducePow, ↓reduceIte, Nat.reduceEqDiff, reduceCtorEq]
    · simp only [← hc, msC, RX, VOp.fresh, bxC, bsC, un, most, callsOf, seval, Int.reducePow, ↓reduceIte, Nat.reduceEqDiff, reduceCtorEq]
    · simp only [sg_set, Nat.reduceEqDiff, ↓reduceIte]
    · simp only [sg_set, Nat.reduceEqDiff, ↓reduceIte]
    · simp only [sg_set, Nat.reduceEqDiff, ↓reduceIte]
    · simp only [sg_set, Nat.reduceEqDiff, ↓reduceIte]
    · simp only [sg_set, Nat.reduceEqDiff, ↓reduceIte]
    intro s' h1 w1 a1 a4 a6
    have hm1 : ((1, .cells [.bool true, .bool false, .bool false, .bool false, .bool false] 132 1) : Nat × Blk) ∈ [((1, .cells [.bool true, .bool false, .bool false, .bool false, .bool false] 132 1) : Nat × Blk), (0, .cells c 63 0)] := List.mem_cons_self
    have hm0 : ((0, .cells c 63 0) : Nat × Blk) ∈ [((1, .cells [.bool true, .bool false, .bool false, .bool false, .bool false] 132 1) : Nat × Blk), (0, .cells c 63 0)] := List.mem_cons_of_mem _ List.mem_cons_self
    rw [← hc] at w1 hm0 hm1
    have k0 := (w1.keep _ hm0).2.2
    have k1 := (w1.keep _ hm1).2.2
    simp only [msC] at k0 k1
    simp only [a1, a4, a6, k0, k1, ha.len, hu.len, RX, VOp.fresh, bxC, bsC, un, most, callsOf, seval, Int.reducePow, ↓reduceIte, Nat.reduceEqDiff, reduceCtorEq]
    refine wname g w1 (by simp only [List.length_cons, List.length_append, numB_len, txB, bitB, boxB_len]; omega) fun _ h2 w2 => ?_
    replace w2 := (show WR _ _ 3 (msB m) from by rw [er]; simpa only [List.append_assoc, List.cons_append, fsB] using w2)
    obtain ⟨v, e0, ver, hb1, ho⟩ := w2.out
    rcases ho with ⟨_, hnil⟩ | ⟨c0, e', ver', rfl, _, _, _, hc6⟩
    · exact absurd hnil (msB_ne _)
    have k1 := (w2.keep _ hm1).2.2
    simp only at k1
    by_cases hlen : (msB m).length ≤ 16384
    · have c8 : ¬ (16384 : Int) < ((msB m).length : Int) := by omega
      simp only [a1, a4, a6, k1, hb1, c8, RX, VOp.fresh, bxC, bsC, un, most, callsOf, seval, Int.reducePow, ↓reduceIte, Nat.reduceEqDiff, reduceCtorEq]
      rw [cvT_sl hc6 (List.length_map _), mb_bytes (By.ms m)]
      simp only [RX, VOp.fresh, bxC, bsC, un, most, callsOf, seval, Int.reducePow, ↓reduceIte, Nat.reduceEqDiff, reduceCtorEq]
      rw [msAns, if_pos hlen]
    · have c8 : (16384 : Int) < ((msB m).length : Int) := by omega
      simp only [a1, a4, a6, k1, hb1, c8, RX, VOp.fresh, bxC, bsC, un, most, callsOf, seval, Int.reducePow, ↓reduceIte, Nat.reduceEqDiff, reduceCtorEq]
      rw [msAns, if_neg hlen]
  · have hrow : rowV m.kind = .agg [.bool false, .bool false, .bool false, .bool true, .bool false] := by rw [ek]; rfl
    have er : msB m = 77 :: 83 :: (numB m.kind 1 ++ (numB m.frm 1 ++ (numB m.to 1 ++ (numB m.query 2 ++ (boxB m.box))))) := by
      have d1 : kTx m.kind = false := by rw [ek]; rfl
      have d2 : kOps m.kind = false := by rw [ek]; rfl
      have d3 : kYes m.kind = false := by rw [ek]; rfl
      have d4 : kQuery m.kind = true := by rw [ek]; rfl
      have d5 : kPart m.kind = false := by rw [ek]; rfl
      rw [msB, d1, d2, d3, d4, d5]
      simp only [if_true, Bool.false_eq_true, if_false, List.nil_append, List.append_nil, List.append_assoc]
    simp only [hrow, RW, ← hc, msC, RX, VOp.fresh, bxC, bsC, un, most, callsOf, seval, Int.reducePow, ↓reduceIte, Nat.reduceEqDiff, reduceCtorEq]
    refine head (row := [.bool false, .bool false, .bool false, .bool true, .bool false]) (by rfl) ?_ ?_ ?_ ?_ ?_ ?_ ?_ ?_ ?_ ?_
    · simp only [RX, VOp.fresh, bxC, bsC, un, most, callsOf, seval, Int.reducePow, ↓reduceIte, Nat.reduceEqDiff, reduceCtorEq]
    · simp only [RX, VOp.fresh, bxC, bsC, un, most, callsOf, seval, Int.reducePow, ↓reduceIte, Nat.reduceEqDiff, reduceCtorEq]
    · simp only [RX, VOp.fresh, bxC, bsC, un, most, callsOf, seval, Int.reducePow, ↓reduceIte, Nat.reduceEqDiff, reduceCtorEq]
    · simp only [← hc, msC, RX, VOp.fresh, bxC, bsC, un, most, callsOf, seval, Int.reducePow, ↓reduceIte, Nat.reduceEqDiff, reduceCtorEq]
    · simp only [sg_set, Nat.reduceEqDiff, ↓reduceIte]
    · simp only [sg_set, Nat.reduceEqDiff, ↓reduceIte]
    · simp only [sg_set, Nat.reduceEqDiff, ↓reduceIte]
    · simp only [sg_set, Nat.reduceEqDiff, ↓reduceIte]
    · simp only [sg_set, Nat.reduceEqDiff, ↓reduceIte]
    intro s' h1 w1 a1 a4 a6
    have hm1 : ((1, .cells [.bool false, .bool false, .bool false, .bool true, .bool false] 132 1) : Nat × Blk) ∈ [((1, .cells [.bool false, .bool false, .bool false, .bool true, .bool false] 132 1) : Nat × Blk), (0, .cells c 63 0)] := List.mem_cons_self
    have hm0 : ((0, .cells c 63 0) : Nat × Blk) ∈ [((1, .cells [.bool false, .bool false, .bool false, .bool true, .bool false] 132 1) : Nat × Blk), (0, .cells c 63 0)] := List.mem_cons_of_mem _ List.mem_cons_self
    rw [← hc] at w1 hm0 hm1
    have k0 := (w1.keep _ hm0).2.2
    have k1 := (w1.keep _ hm1).2.2
    simp only [msC] at k0 k1
    simp only [a1, a4, a6, k0, k1, ha.len, hu.len, RX, VOp.fresh, bxC, bsC, un, most, callsOf, seval, Int.reducePow, ↓reduceIte, Nat.reduceEqDiff, reduceCtorEq]
    refine wnum (n := 2) g (num2_pu g _) (by decide) w1 (by simp only [List.length_cons, List.length_append, numB_len, txB, bitB, boxB_len]; omega) fun _ h2 w2 => ?_
    have k0 := (w2.keep _ hm0).2.2
    have k1 := (w2.keep _ hm1).2.2
    simp only [msC] at k0 k1
    simp only [a1, a4, a6, k0, k1, ha.len, hu.len, RX, VOp.fresh, bxC, bsC, un, most, callsOf, seval, Int.reducePow, ↓reduceIte, Nat.reduceEqDiff, reduceCtorEq]
    refine wbox g m.box w2 (by simp only [List.length_cons, List.length_append, numB_len, txB, bitB, boxB_len]; omega) fun _ h3 w3 => ?_
    replace w3 := (show WR _ _ 3 (msB m) from by rw [er]; simpa only [List.append_assoc, List.cons_append, fsB] using w3)
    obtain ⟨v, e0, ver, hb1, ho⟩ := w3.out
    rcases ho with ⟨_, hnil⟩ | ⟨c0, e', ver', rfl, _, _, _, hc6⟩
    · exact absurd hnil (msB_ne _)
    have k1 := (w3.keep _ hm1).2.2
    simp only at k1
    by_cases hlen : (msB m).length ≤ 16384
    · have c8 : ¬ (16384 : Int) < ((msB m).length : Int) := by omega
      simp only [a1, a4, a6, k1, hb1, c8, RX, VOp.fresh, bxC, bsC, un, most, callsOf, seval, Int.reducePow, ↓reduceIte, Nat.reduceEqDiff, reduceCtorEq]
      rw [cvT_sl hc6 (List.length_map _), mb_bytes (By.ms m)]
      simp only [RX, VOp.fresh, bxC, bsC, un, most, callsOf, seval, Int.reducePow, ↓reduceIte, Nat.reduceEqDiff, reduceCtorEq]
      rw [msAns, if_pos hlen]
    · have c8 : (16384 : Int) < ((msB m).length : Int) := by omega
      simp only [a1, a4, a6, k1, hb1, c8, RX, VOp.fresh, bxC, bsC, un, most, callsOf, seval, Int.reducePow, ↓reduceIte, Nat.reduceEqDiff, reduceCtorEq]
      rw [msAns, if_neg hlen]
  · have hrow : rowV m.kind = .agg [.bool false, .bool false, .bool false, .bool true, .bool true] := by rw [ek]; rfl
    have er : msB m = 77 :: 83 :: (numB m.kind 1 ++ (numB m.frm 1 ++ (numB m.to 1 ++ (numB m.query 2 ++ (boxB m.box ++ (numB m.applied 4 ++ (bitB m.busy ++ (fsB m.fs)))))))) := by
      have d1 : kTx m.kind = false := by rw [ek]; rfl
      have d2 : kOps m.kind = false := by rw [ek]; rfl
      have d3 : kYes m.kind = false := by rw [ek]; rfl
      have d4 : kQuery m.kind = true := by rw [ek]; rfl
      have d5 : kPart m.kind = true := by rw [ek]; rfl
      rw [msB, d1, d2, d3, d4, d5]
      simp only [if_true, Bool.false_eq_true, if_false, List.nil_append, List.append_nil, List.append_assoc]
    simp only [hrow, RW, ← hc, msC, RX, VOp.fresh, bxC, bsC, un, most, callsOf, seval, Int.reducePow, ↓reduceIte, Nat.reduceEqDiff, reduceCtorEq]
    refine head (row := [.bool false, .bool false, .bool false, .bool true, .bool true]) (by rfl) ?_ ?_ ?_ ?_ ?_ ?_ ?_ ?_ ?_ ?_
    · simp only [RX, VOp.fresh, bxC, bsC, un, most, callsOf, seval, Int.reducePow, ↓reduceIte, Nat.reduceEqDiff, reduceCtorEq]
    · simp only [RX, VOp.fresh, bxC, bsC, un, most, callsOf, seval, Int.reducePow, ↓reduceIte, Nat.reduceEqDiff, reduceCtorEq]
    · simp only [RX, VOp.fresh, bxC, bsC, un, most, callsOf, seval, Int.reducePow, ↓reduceIte, Nat.reduceEqDiff, reduceCtorEq]
    · simp only [← hc, msC, RX, VOp.fresh, bxC, bsC, un, most, callsOf, seval, Int.reducePow, ↓reduceIte, Nat.reduceEqDiff, reduceCtorEq]
    · simp only [sg_set, Nat.reduceEqDiff, ↓reduceIte]
    · simp only [sg_set, Nat.reduceEqDiff, ↓reduceIte]
    · simp only [sg_set, Nat.reduceEqDiff, ↓reduceIte]
    · simp only [sg_set, Nat.reduceEqDiff, ↓reduceIte]
    · simp only [sg_set, Nat.reduceEqDiff, ↓reduceIte]
    intro s' h1 w1 a1 a4 a6
    have hm1 : ((1, .cells [.bool false, .bool false, .bool false, .bool true, .bool true] 132 1) : Nat × Blk) ∈ [((1, .cells [.bool false, .bool false, .bool false, .bool true, .bool true] 132 1) : Nat × Blk), (0, .cells c 63 0)] := List.mem_cons_self
    have hm0 : ((0, .cells c 63 0) : Nat × Blk) ∈ [((1, .cells [.bool false, .bool false, .bool false, .bool true, .bool true] 132 1) : Nat × Blk), (0, .cells c 63 0)] := List.mem_cons_of_mem _ List.mem_cons_self
    rw [← hc] at w1 hm0 hm1
    have k0 := (w1.keep _ hm0).2.2
    have k1 := (w1.keep _ hm1).2.2
    simp only [msC] at k0 k1
    simp only [a1, a4, a6, k0, k1, ha.len, hu.len, RX, VOp.fresh, bxC, bsC, un, most, callsOf, seval, Int.reducePow, ↓reduceIte, Nat.reduceEqDiff, reduceCtorEq]
    refine wnum (n := 2) g (num2_pu g _) (by decide) w1 (by simp only [List.length_cons, List.length_append, numB_len, txB, bitB, boxB_len]; omega) fun _ h2 w2 => ?_
    have k0 := (w2.keep _ hm0).2.2
    have k1 := (w2.keep _ hm1).2.2
    simp only [msC] at k0 k1
    simp only [a1, a4, a6, k0, k1, ha.len, hu.len, RX, VOp.fresh, bxC, bsC, un, most, callsOf, seval, Int.reducePow, ↓reduceIte, Nat.reduceEqDiff, reduceCtorEq]
    refine wbox g m.box w2 (by simp only [List.length_cons, List.length_append, numB_len, txB, bitB, boxB_len]; omega) fun _ h3 w3 => ?_
    have k0 := (w3.keep _ hm0).2.2
    have k1 := (w3.keep _ hm1).2.2
    simp only [msC] at k0 k1
    simp only [a1, a4, a6, k0, k1, ha.len, hu.len, RX, VOp.fresh, bxC, bsC, un, most, callsOf, seval, Int.reducePow, ↓reduceIte, Nat.reduceEqDiff, reduceCtorEq]
    refine wnum (n := 4) g (num4_pu g _) (by decide) w3 (by simp only [List.length_cons, List.length_append, numB_len, txB, bitB, boxB_len]; omega) fun _ h4 w4 => ?_
    have k0 := (w4.keep _ hm0).2.2
    have k1 := (w4.keep _ hm1).2.2
    simp only [msC] at k0 k1
    simp only [a1, a4, a6, k0, k1, ha.len, hu.len, RX, VOp.fresh, bxC, bsC, un, most, callsOf, seval, Int.reducePow, ↓reduceIte, Nat.reduceEqDiff, reduceCtorEq]
    refine wbool g w4 (by simp only [List.length_cons, List.length_append, numB_len, txB, bitB, boxB_len]; omega) fun _ h5 w5 => ?_
    have k0 := (w5.keep _ hm0).2.2
    have k1 := (w5.keep _ hm1).2.2
    simp only [msC] at k0 k1
    simp only [a1, a4, a6, k0, k1, ha.len, hu.len, RX, VOp.fresh, bxC, bsC, un, most, callsOf, seval, Int.reducePow, ↓reduceIte, Nat.reduceEqDiff, reduceCtorEq]
    refine wnum (n := 2) g (num2_pu g _) (by decide) w5 (by simp only [List.length_cons, List.length_append, numB_len, txB, bitB, boxB_len]; omega) fun _ h6 w6 => ?_
    have k0 := (w6.keep _ hm0).2.2
    have k1 := (w6.keep _ hm1).2.2
    simp only [msC] at k0 k1
    simp only [a1, a4, a6, k0, k1, ha.len, hu.len, RX, VOp.fresh, bxC, bsC, un, most, callsOf, seval, Int.reducePow, ↓reduceIte, Nat.reduceEqDiff, reduceCtorEq]
    have hpt' : (0 ≤ m.applied ∧ m.applied ≤ 2147483647) ∧ m.fs.length ≤ 256 ∧ (m.busy = true → m.fs = []) ∧ featsOk m.fs := by simpa only [partM, ek, kPart, decide_true, if_true] using hpt
    refine wfs g hu (fsSmall hpt'.2.2.2) (by omega) hm0 _ ?_ m.fs.length 0 _ _ _ _ (by omega) (by simpa using w6) ?_ ?_ ?_ ?_ ?_
    · simp only [List.length_cons, List.length_append, numB_len, bitB, boxB_len]; omega
    · simp only [a1, sg_set, Nat.reduceEqDiff, ↓reduceIte]
    · simp only [a6, sg_set, Nat.reduceEqDiff, ↓reduceIte]
    · simp only [sg_set, Nat.reduceEqDiff, ↓reduceIte]
    · simp only [sg_set, Nat.reduceEqDiff, ↓reduceIte]
      rfl
    intro s'' h7 w7 a6' 
    replace w7 := (show WR _ _ 3 (msB m) from by rw [er]; simpa only [List.append_assoc, List.cons_append, fsB] using w7)
    obtain ⟨v, e0, ver, hb1, ho⟩ := w7.out
    rcases ho with ⟨_, hnil⟩ | ⟨c0, e', ver', rfl, _, _, _, hc6⟩
    · exact absurd hnil (msB_ne _)
    have k1 := (w7.keep _ hm1).2.2
    simp only at k1
    have a6 := a6' 
    by_cases hlen : (msB m).length ≤ 16384
    · have c8 : ¬ (16384 : Int) < ((msB m).length : Int) := by omega
      simp only [a1, a4, a6, k1, hb1, c8, RX, VOp.fresh, bxC, bsC, un, most, callsOf, seval, Int.reducePow, ↓reduceIte, Nat.reduceEqDiff, reduceCtorEq]
      rw [cvT_sl hc6 (List.length_map _), mb_bytes (By.ms m)]
      simp only [RX, VOp.fresh, bxC, bsC, un, most, callsOf, seval, Int.reducePow, ↓reduceIte, Nat.reduceEqDiff, reduceCtorEq]
      rw [msAns, if_pos hlen]
    · have c8 : (16384 : Int) < ((msB m).length : Int) := by omega
      simp only [a1, a4, a6, k1, hb1, c8, RX, VOp.fresh, bxC, bsC, un, most, callsOf, seval, Int.reducePow, ↓reduceIte, Nat.reduceEqDiff, reduceCtorEq]
      rw [msAns, if_neg hlen]
end
end Go.Proofs.Ytinonmcnofjeeaa.VM
namespace Go.Proofs.Ytinonmcnofjeeaa.VM
attribute [local irreducible] Af Nx EvO Ev Un Gd Cd EvR EvQ EvC Nc Gc Lp EvM NxM AfM GdM EvMR EvMQ EvMD EvMC Nm Gm
section
variable {P : Program}
theorem sFeats_loop (g : Pg P tab) {l : List Feat} {a b : AV} (ha : IsL 40 RFeat a l) (hb : IsL 40 RFeat b l) (n : Nat) :
    ∀ (i : Nat) (s : T AV) (hh : Heap) (k : List Fr) (Q : Ex → T AV → Heap → Prop), i + n = l.length → sg s 0 = a → sg s 1 = b → sg s 5 = .int .i64 i → (∀ s' h', Un P k Q (.exit 0) s' h') → Lp P b81_0 s hh (Un P k Q) := by
  have hbd := ha.bound (by decide)
  induction n with
  | zero =>
    intro i s hh k Q hi h0 h1 h5 hK
    refine g.lpe b81_0.eq_1 ?_
    have c1 : ¬ ((i : Int) < (l.length : Int)) := by omega
    simp only [h0, h5, ha.len, c1, RX, VOp.fresh, bxC, bsC, un, most, callsOf, seval, Int.reducePow, ↓reduceIte, Nat.reduceEqDiff, reduceCtorEq]
    exact hK _ _
  | succ n ih =>
    intro i s hh k Q hi h0 h1 h5 hK
    refine g.lpe b81_0.eq_1 ?_
    have c1 : (i : Int) < (l.length : Int) := by omega
    obtain ⟨x1, r1, i4, i2, i3, _, g1⟩ := getFeat ha i (by omega)
    obtain ⟨y1, r2, k4, k2, k3, _, g2⟩ := getFeat hb i (by omega)
    have w1 : IntKind.i64.wrap ((i : Int) + 1) = ((i + 1 : Nat) : Int) := by rw [w64 (by omega) (by omega)]; push_cast; rfl
    simp only [h0, h1, h5, ha.len, c1, g1, g2, Bool.or_self, RX, VOp.fresh, bxC, bsC, un, most, callsOf, seval, Int.reducePow, ↓reduceIte, Nat.reduceEqDiff, reduceCtorEq]
    refine (sFeat_pu g (f := l.getD i feat0) ⟨_, rfl, i2, i3, i4⟩ ⟨_, rfl, k2, k3, k4⟩).go (by simp [AV.tolds, AV.told, i4.told tRing, k4.told tRing]) ?_
    rintro v rfl
    simp only [h0, h1, h5, w1, RX, VOp.fresh, bxC, bsC, un, most, callsOf, seval, Int.reducePow, ↓reduceIte, Nat.reduceEqDiff, reduceCtorEq]
    refine ih (i + 1) _ _ k Q (by omega) ?_ ?_ ?_ hK
    · simp only [h0, sg_set, Nat.reduceEqDiff, ↓reduceIte]
    · simp only [h1, sg_set, Nat.reduceEqDiff, ↓reduceIte]
    · simp only [sg_set, Nat.reduceEqDiff, ↓reduceIte]
theorem sFeats_pu (g : Pg P tab) {l : List Feat} {a b : AV} (ha : IsL 40 RFeat a l) (hb : IsL 40 RFeat b l) : Pu P 81 [a, b] (fun v => v = .bool true) := by
  refine g.pu (vf := v81) rfl rfl ?_
  simp only [v81, ha.len, hb.len, RX, VOp.fresh, bxC, bsC, un, most, callsOf, seval, Int.reducePow, ↓reduceIte, Nat.reduceEqDiff, reduceCtorEq]
  refine sFeats_loop g ha hb l.length 0 _ _ _ _ (by omega) ?_ ?_ ?_ fun s' h' => ?_
  · simp only [sg_set, Nat.reduceEqDiff, ↓reduceIte]
  · simp only [sg_set, Nat.reduceEqDiff, ↓reduceIte]
  · simp only [sg_set, Nat.reduceEqDiff, ↓reduceIte]
    rfl
  simp only [RX, VOp.fresh, bxC, bsC, un, most, callsOf, seval, Int.reducePow, ↓reduceIte, Nat.reduceEqDiff, reduceCtorEq]
theorem sMsg_pu (g : Pg P tab) {m : Ms} {a1 a2 b1 b2 : AV} (i1 : IsL 112 ROp a1 m.ops) (i2 : IsL 40 RFeat a2 m.fs) (k1 : IsL 112 ROp b1 m.ops) (k2 : IsL 40 RFeat b2 m.fs) : Pu P 29 [.agg (msC m a1 a2), .agg (msC m b1 b2)] (fun v => v = .bool true) := by
  refine g.pu (vf := v29) rfl rfl ?_
  have eb : ∀ b : Bool, eqv .bool (.bool b) (.bool b) = some true := fun b => by show some (b == b) = _; rw [beq_self_eq_true]
  simp only [v29, msC, flat2, flat4, eb, Option.map_some, RX, VOp.fresh, bxC, bsC, un, most, callsOf, seval, Int.reducePow, ↓reduceIte, Nat.reduceEqDiff, reduceCtorEq]
  refine (sOps_pu g i1 k1).go (by simp [AV.tolds, AV.told, i1.told tOp, k1.told tOp]) ?_
  rintro v rfl
  simp only [RX, VOp.fresh, bxC, bsC, un, most, callsOf, seval, Int.reducePow, ↓reduceIte, Nat.reduceEqDiff, reduceCtorEq]
  refine (sFeats_pu g i2 k2).go (by simp [AV.tolds, AV.told, i2.told tFeat, k2.told tFeat]) ?_
  rintro v rfl
  simp only [RX, VOp.fresh, bxC, bsC, un, most, callsOf, seval, Int.reducePow, ↓reduceIte, Nat.reduceEqDiff, reduceCtorEq]
end
end Go.Proofs.Ytinonmcnofjeeaa.VM
namespace Go.Proofs.Ytinonmcnofjeeaa.VM
attribute [local irreducible] Af Nx EvO Ev Un Gd Cd EvR EvQ EvC Nc Gc Lp EvM NxM AfM GdM EvMR EvMQ EvMD EvMC Nm Gm
def cFeats (l : List Feat) : AV := cRow ((l.map cFeat).flatten) l.length
def featsSm (l : List Feat) : Prop := l.length ≤ 1000000 ∧ ∀ f ∈ l, featSm f
end Go.Proofs.Ytinonmcnofjeeaa.VM
namespace Go.Proofs.Ytinonmcnofjeeaa.VM
attribute [local irreducible] Af Nx EvO Ev Un Gd Cd EvR EvQ EvC Nc Gc Lp EvM NxM AfM GdM EvMR EvMQ EvMD EvMC Nm Gm
def zM (m : Ms) : Ms :=
  if m.kind = 5 then ⟨m.kind, m.frm, m.to, 0, 0, 0, false, m.query, 0, false, m.box, [], []⟩
  else if m.kind = 6 then ⟨m.kind, m.frm, m.to, 0, 0, 0, false, m.query, m.applied, m.busy, m.box, [], m.fs⟩
  else if m.kind = 0 then ⟨m.kind, m.frm, m.to, m.node, m.seq, m.base, false, 0, 0, false, ⟨0, 0, 0, 0⟩, m.ops, []⟩
  else if m.kind = 1 ∨ m.kind = 2 then ⟨m.kind, m.frm, m.to, m.node, m.seq, 0, m.yes, 0, 0, false, ⟨0, 0, 0, 0⟩, [], []⟩
  else ⟨m.kind, m.frm, m.to, m.node, m.seq, 0, false, 0, 0, false, ⟨0, 0, 0, 0⟩, [], []⟩
def zA (m : Ms) (a : AV) : AV := if m.kind = 0 then a else .nils
def zU (m : Ms) (u : AV) : AV := if m.kind = 6 then u else .nils
def plainM (m : Ms) : Prop := (m.node = (zM m).node ∧ m.seq = (zM m).seq) ∧ m.base = (zM m).base ∧ m.yes = (zM m).yes ∧ m.query = (zM m).query ∧ m.applied = (zM m).applied ∧ m.busy = (zM m).busy ∧
  (m.box.x0 = (zM m).box.x0 ∧ m.box.y0 = (zM m).box.y0 ∧ m.box.x1 = (zM m).box.x1 ∧ m.box.y1 = (zM m).box.y1) ∧ m.ops.length = (zM m).ops.length ∧ m.fs.length = (zM m).fs.length
section
variable {P : Program} {m : Ms} {a u : AV}
theorem isL_cells {b : Nat} {α : Type} {R : α → List AV → Prop} {v : AV} {l : List α} (h : IsL b R v l) : v.cells = some [v] := by
  rcases h.2 with ⟨rfl, _⟩ | ⟨c, rfl, _⟩ <;> rfl
theorem zA_is (ha : IsL 112 ROp a m.ops) : IsL 112 ROp (zA m a) (zM m).ops := by
  unfold zA zM
  by_cases k0 : m.kind = 0
  · simp only [k0, if_true, show ¬ (0 : Int) = 5 by decide, show ¬ (0 : Int) = 6 by decide, if_false]; exact ha
  · simp only [k0, if_false]
    split
    · exact isL_nil _ _
    · split
      · exact isL_nil _ _
      · split
        · exact isL_nil _ _
        · exact isL_nil _ _
theorem zU_is (hu : IsL 40 RFeat u m.fs) : IsL 40 RFeat (zU m u) (zM m).fs := by
  unfold zU zM
  by_cases k6 : m.kind = 6
  · simp only [k6, if_true, show ¬ (6 : Int) = 5 by decide, if_false]; exact hu
  · simp only [k6, if_false]
    split
    · exact isL_nil _ _
    · split
      · exact isL_nil _ _
      · split
        · exact isL_nil _ _
        · exact isL_nil _ _
theorem zeroed_cl (g : Pg P tab) (ha : IsL 112 ROp a m.ops) (hu : IsL 40 RFeat u m.fs) {h : Heap} {Q : AV → Heap → Prop} (q : ∀ h', Ext h h' → Q (.agg (msC (zM m) (zA m a) (zU m u))) h') : Cl P 113 [.agg (msC m a u)] h Q := by
  refine g.cl (vf := v113) rfl rfl ?_
  have oa := isL_one ha
  have ou := isL_one hu
  unfold zM zA zU at q
  by_cases k5 : m.kind = 5
  · simp only [k5, if_true, show ¬ (5 : Int) = 0 by decide, show ¬ (5 : Int) = 6 by decide, if_false] at q
    simp only [v113, msC, k5, RW, HN, oa, ou, isL_cells ha, isL_cells hu, RX, VOp.fresh, bxC, bsC, un, most, callsOf, seval, Int.reducePow, ↓reduceIte, Nat.reduceEqDiff, reduceCtorEq]
    exact q _ (by repeat (first | exact Ext.refl _ | refine Ext.putn ?_ (by omega) _ | refine Ext.mkn ?_ (by omega) _))
  by_cases k6 : m.kind = 6
  · simp only [k6, if_true, show ¬ (6 : Int) = 0 by decide, show ¬ (6 : Int) = 5 by decide, if_false] at q
    simp only [v113, msC, k6, RW, HN, oa, ou, isL_cells ha, isL_cells hu, RX, VOp.fresh, bxC, bsC, un, most, callsOf, seval, Int.reducePow, ↓reduceIte, Nat.reduceEqDiff, reduceCtorEq]
    exact q _ (by repeat (first | exact Ext.refl _ | refine Ext.putn ?_ (by omega) _ | refine Ext.mkn ?_ (by omega) _))
  by_cases k0 : m.kind = 0
  · simp only [k0, if_true, show ¬ (0 : Int) = 6 by decide, show ¬ (0 : Int) = 5 by decide, if_false] at q
    simp only [v113, msC, k0, RW, HN, oa, ou, isL_cells ha, isL_cells hu, RX, VOp.fresh, bxC, bsC, un, most, callsOf, seval, Int.reducePow, ↓reduceIte, Nat.reduceEqDiff, reduceCtorEq]
    exact q _ (by repeat (first | exact Ext.refl _ | refine Ext.putn ?_ (by omega) _ | refine Ext.mkn ?_ (by omega) _))
  by_cases k1 : m.kind = 1
  · simp only [k1, if_true, true_or, show ¬ (1 : Int) = 0 by decide, show ¬ (1 : Int) = 6 by decide, show ¬ (1 : Int) = 5 by decide, if_false] at q
    simp only [v113, msC, k1, RW, HN, oa, ou, isL_cells ha, isL_cells hu, RX, VOp.fresh, bxC, bsC, un, most, callsOf, seval, Int.reducePow, ↓reduceIte, Nat.reduceEqDiff, reduceCtorEq]
    exact q _ (by repeat (first | exact Ext.refl _ | refine Ext.putn ?_ (by omega) _ | refine Ext.mkn ?_ (by omega) _))
  by_cases k2 : m.kind = 2
  · simp only [k2, if_true, or_true, show ¬ (2 : Int) = 0 by decide, show ¬ (2 : Int) = 6 by decide, show ¬ (2 : Int) = 5 by decide, if_false] at q
    simp only [v113, msC, k2, RW, HN, oa, ou, isL_cells ha, isL_cells hu, RX, VOp.fresh, bxC, bsC, un, most, callsOf, seval, Int.reducePow, ↓reduceIte, Nat.reduceEqDiff, reduceCtorEq]
    exact q _ (by repeat (first | exact Ext.refl _ | refine Ext.putn ?_ (by omega) _ | refine Ext.mkn ?_ (by omega) _))
  simp only [k0, k1, k2, k5, k6, or_self, if_false] at q
  simp only [v113, msC, k0, k1, k2, k5, k6, RW, HN, oa, ou, isL_cells ha, isL_cells hu, RX, VOp.fresh, bxC, bsC, un, most, callsOf, seval, Int.reducePow, ↓reduceIte, Nat.reduceEqDiff, reduceCtorEq]
  exact q _ (by repeat (first | exact Ext.refl _ | refine Ext.putn ?_ (by omega) _ | refine Ext.mkn ?_ (by omega) _))
theorem plain_pu (g : Pg P tab) (ha : IsL 112 ROp a m.ops) (hu : IsL 40 RFeat u m.fs) : Pu P 102 [.agg (msC m a u)] (IsB (plainM m)) := by
  refine g.pu (vf := v102) rfl rfl ?_
  have iz := zA_is ha
  have uz := zU_is hu
  have oz := isL_one iz
  have ow := isL_one uz
  simp only [v102, msC, RX, VOp.fresh, bxC, bsC, un, most, callsOf, seval, Int.reducePow, ↓reduceIte, Nat.reduceEqDiff, reduceCtorEq]
  refine zeroed_cl g ha hu fun h1 x1 => ?_
  have g1 := (x1.2 0 (by rw [mk_next]; decide)).trans (show _ = some (.cells (msC m a u) 63 0) by rw [Heap.get_mk, if_pos rfl]; rfl)
  have n1 := x1.1
  rw [mk_next] at n1
  have hne : ¬ 0 = h1.next := by have : max 0 (0 + 1) = 1 := rfl; simp only [this] at n1; omega
  unfold plainM
  generalize zM m = z at *
  generalize zA m a = za at *
  generalize zU m u = zu at *
  unfold msC at g1
  have l1 : ((m.ops.length : Int) = (z.ops.length : Int)) = (m.ops.length = z.ops.length) := by rw [eq_iff_iff]; omega
  have l2 : ((m.fs.length : Int) = (z.fs.length : Int)) = (m.fs.length = z.fs.length) := by rw [eq_iff_iff]; omega
  have bq : ∀ a b : Bool, eqv .bool (.bool a) (.bool b) = some (decide (a = b)) := by decide
  simp +contextual (maxSteps := 2000000) only [msC, g1, hne, HN, RW, l1, l2, hu.len, ha.len, iz.len, uz.len, isL_cells iz, isL_cells uz, oz, ow, flat2, flat4, bq, RX, VOp.fresh, bxC, bsC, un, most, callsOf, seval, Int.reducePow, ↓reduceIte, Nat.reduceEqDiff, reduceCtorEq]
theorem rBox_pu (g : Pg P tab) (b : Bx) : Pu P 103 [.agg (boxV b)] (IsB (boxOk b)) := by
  refine g.pu (vf := v103) rfl rfl ?_
  obtain ⟨x0, y0, x1, y1⟩ := b
  simp only [v103, boxV, RX, VOp.fresh, bxC, bsC, un, most, callsOf, seval, Int.reducePow, ↓reduceIte, Nat.reduceEqDiff, reduceCtorEq]
  refine (rPoint_pu g ⟨x0, y0⟩).go rfl ?_
  rintro v ⟨b1, rfl, hb1⟩
  cases b1
  · simp only [RX, VOp.fresh, bxC, bsC, un, most, callsOf, seval, Int.reducePow, ↓reduceIte, Nat.reduceEqDiff, reduceCtorEq]
    exact fun h => by have := hb1.2 ⟨h.1, h.2.1⟩; cases this
  simp only [RX, VOp.fresh, bxC, bsC, un, most, callsOf, seval, Int.reducePow, ↓reduceIte, Nat.reduceEqDiff, reduceCtorEq]
  refine (rPoint_pu g ⟨x1, y1⟩).go rfl ?_
  rintro v ⟨b2, rfl, hb2⟩
  cases b2
  · simp only [RX, VOp.fresh, bxC, bsC, un, most, callsOf, seval, Int.reducePow, ↓reduceIte, Nat.reduceEqDiff, reduceCtorEq]
    exact fun h => by have := hb2.2 ⟨h.2.2.1, h.2.2.2.1⟩; cases this
  have p1 := hb1.1 rfl
  have p2 := hb2.1 rfl
  have : boxOk ⟨x0, y0, x1, y1⟩ ↔ x0 ≤ x1 ∧ y0 ≤ y1 := ⟨fun h => h.2.2.2.2, fun h => ⟨p1.1, p1.2, p2.1, p2.2, h.1, h.2⟩⟩
  simp +contextual (maxSteps := 2000000) only [this, RX, VOp.fresh, bxC, bsC, un, most, callsOf, seval, Int.reducePow, ↓reduceIte, Nat.reduceEqDiff, reduceCtorEq]
theorem rFeats_loop (g : Pg P tab) {l : List Feat} {v : AV} (hv : IsL 40 RFeat v l) (n : Nat) :
    ∀ (i : Nat) (s : T AV) (hh : Heap) (k : List Fr) (Q : Ex → T AV → Heap → Prop), i + n = l.length → sg s 0 = v → sg s 3 = .int .i64 i →
      ((∀ j, i ≤ j → j < l.length → featsAt l j) → ∀ s', Un P k Q (.exit 0) s' hh) → ((¬ ∀ j, i ≤ j → j < l.length → featsAt l j) → ∀ s', sg s' 2 = .bool false → Un P k Q .ret s' hh) → Lp P b104_0 s hh (Un P k Q) := by
  have hb := hv.bound (by decide)
  induction n with
  | zero =>
    intro i s hh k Q hi h0 h3 hK hR
    refine g.lpe b104_0.eq_1 ?_
    have c1 : ¬ ((i : Int) < (l.length : Int)) := by omega
    simp only [h0, h3, hv.len, c1, RX, VOp.fresh, bxC, bsC, un, most, callsOf, seval, Int.reducePow, ↓reduceIte, Nat.reduceEqDiff, reduceCtorEq]
    exact hK (fun j h1 h2 => by omega) _
  | succ n ih =>
    intro i s hh k Q hi h0 h3 hK hR
    refine g.lpe b104_0.eq_1 ?_
    have c1 : (i : Int) < (l.length : Int) := by omega
    obtain ⟨rv, r1, hrv, _, _, _, g1⟩ := getFeat hv i (by omega)
    have w1 : IntKind.i64.wrap ((i : Int) + 1) = ((i + 1 : Nat) : Int) := by rw [w64 (by omega) (by omega)]; push_cast; rfl
    have w2 : IntKind.i64.wrap ((i : Int) - 1) = (i : Int) - 1 := w64 (by omega) (by omega)
    simp only [h0, h3, hv.len, c1, g1, RX, VOp.fresh, bxC, bsC, un, most, callsOf, seval, Int.reducePow, ↓reduceIte, Nat.reduceEqDiff, reduceCtorEq]
    refine (rShape_pu g hrv).go (by simp [AV.tolds, AV.told, hrv.told tRing]) ?_
    rintro x ⟨b, rfl, hbb⟩
    have no : ¬ featsAt l i → ¬ ∀ j, i ≤ j → j < l.length → featsAt l j := fun h hall => h (hall i (Nat.le_refl _) (by omega))
    have step : featsAt l i → ∀ s', sg s' 0 = v → sg s' 3 = .int .i64 (i + 1 : Nat) → Lp P b104_0 s' hh (Un P k Q) := fun hok s' a0 a3 => by
      have all : (∀ j, i ≤ j → j < l.length → featsAt l j) ↔ ∀ j, i + 1 ≤ j → j < l.length → featsAt l j := ⟨fun h j h1 h2 => h j (by omega) h2, fun h j h1 h2 => by
        rcases Nat.lt_or_ge i j with h3 | h3
        · exact h j h3 h2
        · rw [show j = i by omega]; exact hok⟩
      refine ih (i + 1) _ _ k Q (by omega) a0 a3 (fun h => hK (all.2 h)) (fun h => hR (fun h' => h (all.1 h')))
    cases b
    · simp only [RX, VOp.fresh, bxC, bsC, un, most, callsOf, seval, Int.reducePow, ↓reduceIte, Nat.reduceEqDiff, reduceCtorEq]
      exact hR (no fun h => by have := hbb.2 h.1; cases this) _ (by simp only [sg_set, Nat.reduceEqDiff, ↓reduceIte])
    · simp only [h0, h3, RX, VOp.fresh, bxC, bsC, un, most, callsOf, seval, Int.reducePow, ↓reduceIte, Nat.reduceEqDiff, reduceCtorEq]
      by_cases hi0 : i = 0
      · have c2 : ¬ ((0 : Int) < (i : Int)) := by omega
        simp only [c2, h3, w1, RX, VOp.fresh, bxC, bsC, un, most, callsOf, seval, Int.reducePow, ↓reduceIte, Nat.reduceEqDiff, reduceCtorEq]
        refine step ⟨hbb.1 rfl, fun h => by omega⟩ _ ?_ ?_
        · simp only [h0, sg_set, Nat.reduceEqDiff, ↓reduceIte]
        · simp only [sg_set, Nat.reduceEqDiff, ↓reduceIte]
      · have c2 : (0 : Int) < (i : Int) := by omega
        obtain ⟨rv', r1', hrv', _, _, _, g1'⟩ := getFeat hv (i - 1) (by omega)
        have ec : ((i - 1 : Nat) : Int) = (i : Int) - 1 := by omega
        rw [ec] at g1'
        simp only [c2, w2, h0, h3, g1', g1, RX, VOp.fresh, bxC, bsC, un, most, callsOf, seval, Int.reducePow, ↓reduceIte, Nat.reduceEqDiff, reduceCtorEq]
        by_cases hid : (l.getD (i - 1) feat0).id < (l.getD i feat0).id
        · have c3 : ¬ (l.getD i feat0).id ≤ (l.getD (i - 1) feat0).id := by omega
          simp only [c3, h3, w1, RX, VOp.fresh, bxC, bsC, un, most, callsOf, seval, Int.reducePow, ↓reduceIte, Nat.reduceEqDiff, reduceCtorEq]
          refine step ⟨hbb.1 rfl, fun h => hid⟩ _ ?_ ?_
          · simp only [h0, sg_set, Nat.reduceEqDiff, ↓reduceIte]
          · simp only [sg_set, Nat.reduceEqDiff, ↓reduceIte]
        · have c3 : (l.getD i feat0).id ≤ (l.getD (i - 1) feat0).id := by omega
          simp only [c3, RX, VOp.fresh, bxC, bsC, un, most, callsOf, seval, Int.reducePow, ↓reduceIte, Nat.reduceEqDiff, reduceCtorEq]
          exact hR (no fun h => hid (h.2 (by omega))) _ (by simp only [sg_set, Nat.reduceEqDiff, ↓reduceIte])
theorem rFeats_pu (g : Pg P tab) {l : List Feat} {v : AV} (hv : IsL 40 RFeat v l) : Pu P 104 [v] (IsB (featsOk l)) := by
  refine g.pu (vf := v104) rfl rfl ?_
  simp only [v104, RX, VOp.fresh, bxC, bsC, un, most, callsOf, seval, Int.reducePow, ↓reduceIte, Nat.reduceEqDiff, reduceCtorEq]
  refine rFeats_loop g hv l.length 0 _ _ _ _ (by omega) ?_ ?_ ?_ ?_
  · simp only [sg_set, Nat.reduceEqDiff, ↓reduceIte]
  · simp only [sg_set, Nat.reduceEqDiff, ↓reduceIte]
    rfl
  · intro h s'
    simp only [RX, VOp.fresh, bxC, bsC, un, most, callsOf, seval, Int.reducePow, ↓reduceIte, Nat.reduceEqDiff, reduceCtorEq]
    exact fun i hi => h i (by omega) hi
  · intro h s' h2
    simp only [h2, RX, VOp.fresh, bxC, bsC, un, most, callsOf, seval, Int.reducePow, ↓reduceIte, Nat.reduceEqDiff, reduceCtorEq]
    exact fun hok => h fun j _ hj => hok j hj
/-- by kinds -/
def restM (m : Ms) : Prop :=
  if m.kind = 0 then txOk m.node m.seq ∧ (-1 ≤ m.base ∧ m.base ≤ 65535) ∧ opsOk 8 m.ops
  else if m.kind = 5 then (1 ≤ m.query ∧ m.query ≤ 65535) ∧ boxOk m.box
  else if m.kind = 6 then (1 ≤ m.query ∧ m.query ≤ 65535) ∧ boxOk m.box ∧ (0 ≤ m.applied ∧ m.applied ≤ 2147483647) ∧ m.fs.length ≤ 256 ∧ featsOk m.fs ∧ (m.busy = true → m.fs = [])
  else txOk m.node m.seq
theorem msOk_plain : msOk m ↔ (0 ≤ m.kind ∧ m.kind ≤ 6) ∧ nodeOk m.frm ∧ nodeOk m.to ∧ plainM m ∧ restM m := by
  unfold msOk plainM restM zM txM opsM queryM partM
  refine and_congr_right fun hk => and_congr_right fun _ => and_congr_right fun _ => ?_
  obtain ⟨kind, frm, to, node, seq, base, yes, query, applied, busy, box, ops, fs⟩ := m
  simp only at hk ⊢
  have hk : kind = 0 ∨ kind = 1 ∨ kind = 2 ∨ kind = 3 ∨ kind = 4 ∨ kind = 5 ∨ kind = 6 := by omega
  rcases hk with rfl | rfl | rfl | rfl | rfl | rfl | rfl <;> simp [kTx, kOps, kYes, kQuery, kPart, zeroBox] <;> grind
end
end Go.Proofs.Ytinonmcnofjeeaa.VM
namespace Go.Proofs.Ytinonmcnofjeeaa.VM
attribute [local irreducible] Af Nx EvO Ev Un Gd Cd EvR EvQ EvC Nc Gc Lp EvM NxM AfM GdM EvMR EvMQ EvMD EvMC Nm Gm
/-- what the parts' bytes come to -/
def cQ (a b c d : List Nat) (f : Nat) (args : List AV) (h : Heap) : AV × Heap := if f = 52 then cBe args h else if f = 54 then (.str a, h) else if f = 75 then (.str b, h) else if f = 56 then (.str c, h) else (.str d, h)
section
variable {P : Program} {m : Ms} {a u : AV}
theorem rMay_pu (g : Pg P tab) (ha : IsL 112 ROp a m.ops) (hu : IsL 40 RFeat u m.fs) : Pu P 74 [.agg (msC m a u)] (IsB (msOk m)) := by
  have ht : AV.tolds [.agg (msC m a u)] = true := by simp [AV.tolds, AV.told, tolds_ms ha hu]
  have hp := plain_pu g ha hu
  refine g.pu (vf := v74) rfl rfl ?_
  by_cases hr : (0 ≤ m.kind ∧ m.kind ≤ 6) ∧ nodeOk m.frm ∧ nodeOk m.to
  rotate_left
  · have no : ¬ msOk m := fun h => hr ⟨h.1, h.2.1, h.2.2.1⟩
    simp +contextual (maxSteps := 2000000) only [v74, msC, no, RX, VOp.fresh, bxC, bsC, un, most, callsOf, seval, Int.reducePow, ↓reduceIte, Nat.reduceEqDiff, reduceCtorEq]
    intros
    refine absurd ⟨⟨?_, ?_⟩, ⟨?_, ?_⟩, ⟨?_, ?_⟩⟩ hr <;> omega
  have ek : msOk m ↔ plainM m ∧ restM m := by rw [msOk_plain]; exact ⟨fun h => h.2.2.2, fun h => ⟨hr.1, hr.2.1, hr.2.2, h⟩⟩
  obtain ⟨⟨k0, k6⟩, ⟨f0, f8⟩, ⟨t0, t8⟩⟩ := hr
  have c1 : ¬ m.kind < 0 := by omega
  have c2 : ¬ 6 < m.kind := by omega
  have c3 : ¬ m.frm < 0 := by omega
  have c4 : ¬ 8 ≤ m.frm := by omega
  have c5 : ¬ m.to < 0 := by omega
  have c6 : ¬ 8 ≤ m.to := by omega
  unfold msC at hp ht ⊢
  simp only [v74, c1, c2, c3, c4, c5, c6, RX, VOp.fresh, bxC, bsC, un, most, callsOf, seval, Int.reducePow, ↓reduceIte, Nat.reduceEqDiff, reduceCtorEq]
  refine hp.go ht ?_
  rintro x ⟨b, rfl, hb⟩
  cases b
  · simp only [RX, VOp.fresh, bxC, bsC, un, most, callsOf, seval, Int.reducePow, ↓reduceIte, Nat.reduceEqDiff, reduceCtorEq]
    exact fun h => by have := hb.2 (ek.1 h).1; cases this
  have hb := hb.1 rfl
  have ek : msOk m ↔ restM m := ek.trans ⟨fun h => h.2, fun h => ⟨hb, h⟩⟩
  rw [ek]
  clear ek hb c1 c2 c3 c4 c5 c6
  have ho : AV.tolds [a] = true := by simp [AV.tolds, ha.told tOp]
  have hf : AV.tolds [u] = true := by simp [AV.tolds, hu.told tFeat]
  by_cases e0 : m.kind = 0
  · have er : restM m ↔ txOk m.node m.seq ∧ (-1 ≤ m.base ∧ m.base ≤ 65535) ∧ opsOk 8 m.ops := by unfold restM; rw [if_pos e0]
    simp only [e0, RX, VOp.fresh, bxC, bsC, un, most, callsOf, seval, Int.reducePow, ↓reduceIte, Nat.reduceEqDiff, reduceCtorEq]
    refine (rTx_pu g _ _).go rfl ?_
    rintro x ⟨b, rfl, hb⟩
    cases b
    · simp only [RX, VOp.fresh, bxC, bsC, un, most, callsOf, seval, Int.reducePow, ↓reduceIte, Nat.reduceEqDiff, reduceCtorEq]
      exact fun h => by have := hb.2 (er.1 h).1; cases this
    simp only [RX, VOp.fresh, bxC, bsC, un, most, callsOf, seval, Int.reducePow, ↓reduceIte, Nat.reduceEqDiff, reduceCtorEq]
    refine (rBase_pu g _).go rfl ?_
    rintro x rfl
    by_cases c : -1 ≤ m.base ∧ m.base ≤ 65535
    · simp only [c, RX, VOp.fresh, bxC, bsC, un, most, callsOf, seval, Int.reducePow, ↓reduceIte, Nat.reduceEqDiff, reduceCtorEq]
      refine (rOps_pu g ha).go ho ?_
      rintro x ⟨b, rfl, hb2⟩
      simp only [RX, VOp.fresh, bxC, bsC, un, most, callsOf, seval, Int.reducePow, ↓reduceIte, Nat.reduceEqDiff, reduceCtorEq]
      rw [hb2, er]
      exact ⟨fun h => ⟨hb.1 rfl, c, h⟩, fun h => h.2.2⟩
    · simp only [c, RX, VOp.fresh, bxC, bsC, un, most, callsOf, seval, Int.reducePow, ↓reduceIte, Nat.reduceEqDiff, reduceCtorEq]
      exact fun h => c (er.1 h).2.1
  by_cases e5 : m.kind = 5
  · have er : restM m ↔ (1 ≤ m.query ∧ m.query ≤ 65535) ∧ boxOk m.box := by unfold restM; rw [if_neg e0, if_pos e5]
    by_cases q1 : 1 ≤ m.query
    · by_cases q2 : m.query ≤ 65535
      · simp only [e5, q1, q2, RX, VOp.fresh, bxC, bsC, un, most, callsOf, seval, Int.reducePow, ↓reduceIte, Nat.reduceEqDiff, reduceCtorEq]
        refine (rBox_pu g m.box).go rfl ?_
        rintro x ⟨b, rfl, hb⟩
        simp only [RX, VOp.fresh, bxC, bsC, un, most, callsOf, seval, Int.reducePow, ↓reduceIte, Nat.reduceEqDiff, reduceCtorEq]
        rw [hb, er]
        exact ⟨fun h => ⟨⟨q1, q2⟩, h⟩, fun h => h.2⟩
      · simp only [e5, q1, q2, RX, VOp.fresh, bxC, bsC, un, most, callsOf, seval, Int.reducePow, ↓reduceIte, Nat.reduceEqDiff, reduceCtorEq]
        exact fun h => q2 (er.1 h).1.2
    · simp only [e5, q1, RX, VOp.fresh, bxC, bsC, un, most, callsOf, seval, Int.reducePow, ↓reduceIte, Nat.reduceEqDiff, reduceCtorEq]
      exact fun h => q1 (er.1 h).1.1
  by_cases e6 : m.kind = 6
  · have er : restM m ↔ (1 ≤ m.query ∧ m.query ≤ 65535) ∧ boxOk m.box ∧ (0 ≤ m.applied ∧ m.applied ≤ 2147483647) ∧ m.fs.length ≤ 256 ∧ featsOk m.fs ∧ (m.busy = true → m.fs = []) := by unfold restM; rw [if_neg e0, if_neg e5, if_pos e6]
    by_cases q1 : 1 ≤ m.query
    · by_cases q2 : m.query ≤ 65535
      · simp only [e6, q1, q2, RX, VOp.fresh, bxC, bsC, un, most, callsOf, seval, Int.reducePow, ↓reduceIte, Nat.reduceEqDiff, reduceCtorEq]
        refine (rBox_pu g m.box).go rfl ?_
        rintro x ⟨b, rfl, hb⟩
        cases b
        · simp only [RX, VOp.fresh, bxC, bsC, un, most, callsOf, seval, Int.reducePow, ↓reduceIte, Nat.reduceEqDiff, reduceCtorEq]
          exact fun h => by have := hb.2 (er.1 h).2.1; cases this
        have hb := hb.1 rfl
        by_cases p1 : 0 ≤ m.applied
        · by_cases p2 : m.applied ≤ 2147483647
          · by_cases p3 : m.fs.length ≤ 256
            · have p3' : (m.fs.length : Int) ≤ 256 := by omega
              simp only [p1, p2, p3', hu.len, RX, VOp.fresh, bxC, bsC, un, most, callsOf, seval, Int.reducePow, ↓reduceIte, Nat.reduceEqDiff, reduceCtorEq]
              refine (rFeats_pu g hu).go hf ?_
              rintro x ⟨b, rfl, hb2⟩
              cases b
              · simp only [RX, VOp.fresh, bxC, bsC, un, most, callsOf, seval, Int.reducePow, ↓reduceIte, Nat.reduceEqDiff, reduceCtorEq]
                exact fun h => by have := hb2.2 (er.1 h).2.2.2.2.1; cases this
              have hb2 := hb2.1 rfl
              cases hy : m.busy with
              | false =>
                simp only [RX, VOp.fresh, bxC, bsC, un, most, callsOf, seval, Int.reducePow, ↓reduceIte, Nat.reduceEqDiff, reduceCtorEq]
                exact er.2 ⟨⟨q1, q2⟩, hb, ⟨p1, p2⟩, p3, hb2, fun h => by rw [hy] at h; cases h⟩
              | true =>
                have l0 : ((m.fs.length : Int) = 0) = (m.fs = []) := by rw [eq_iff_iff, ← List.length_eq_zero_iff]; omega
                simp only [hu.len, l0, RX, VOp.fresh, bxC, bsC, un, most, callsOf, seval, Int.reducePow, ↓reduceIte, Nat.reduceEqDiff, reduceCtorEq]
                exact ⟨fun h => er.2 ⟨⟨q1, q2⟩, hb, ⟨p1, p2⟩, p3, hb2, fun _ => h⟩, fun h => (er.1 h).2.2.2.2.2 hy⟩
            · have p3' : ¬ (m.fs.length : Int) ≤ 256 := by omega
              simp only [p1, p2, p3', hu.len, RX, VOp.fresh, bxC, bsC, un, most, callsOf, seval, Int.reducePow, ↓reduceIte, Nat.reduceEqDiff, reduceCtorEq]
              exact fun h => p3 (er.1 h).2.2.2.1
          · simp only [p1, p2, RX, VOp.fresh, bxC, bsC, un, most, callsOf, seval, Int.reducePow, ↓reduceIte, Nat.reduceEqDiff, reduceCtorEq]
            exact fun h => p2 (er.1 h).2.2.1.2
        · simp only [p1, RX, VOp.fresh, bxC, bsC, un, most, callsOf, seval, Int.reducePow, ↓reduceIte, Nat.reduceEqDiff, reduceCtorEq]
          exact fun h => p1 (er.1 h).2.2.1.1
      · simp only [e6, q1, q2, RX, VOp.fresh, bxC, bsC, un, most, callsOf, seval, Int.reducePow, ↓reduceIte, Nat.reduceEqDiff, reduceCtorEq]
        exact fun h => q2 (er.1 h).1.2
    · simp only [e6, q1, RX, VOp.fresh, bxC, bsC, un, most, callsOf, seval, Int.reducePow, ↓reduceIte, Nat.reduceEqDiff, reduceCtorEq]
      exact fun h => q1 (er.1 h).1.1
  have er : restM m ↔ txOk m.node m.seq := by unfold restM; rw [if_neg e0, if_neg e5, if_neg e6]
  simp only [e0, e5, e6, RX, VOp.fresh, bxC, bsC, un, most, callsOf, seval, Int.reducePow, ↓reduceIte, Nat.reduceEqDiff, reduceCtorEq]
  refine (rTx_pu g _ _).go rfl ?_
  rintro x ⟨b, rfl, hb⟩
  simp only [RX, VOp.fresh, bxC, bsC, un, most, callsOf, seval, Int.reducePow, ↓reduceIte, Nat.reduceEqDiff, reduceCtorEq]
  rw [hb, er]
theorem rPutBox_pu (g : Pg P tab) (b : Bx) : Pu P 75 [.agg (boxV b)] (fun v => v = .str (boxB b)) := by
  refine g.pu (vf := v75) rfl rfl ?_
  simp +contextual (maxSteps := 2000000) only [v75, boxV, RX, VOp.fresh, bxC, bsC, un, most, callsOf, seval, Int.reducePow, ↓reduceIte, Nat.reduceEqDiff, reduceCtorEq]
  refine EvD.same (fun _ => cBe) (by rfl) ?_
  simp +contextual (maxSteps := 2000000) only [cBe_eq, be4 g, List.length_append, numB_len, (show Int.toNat 4 = 4 from rfl), RX, VOp.fresh, bxC, bsC, un, most, callsOf, seval, Int.reducePow, ↓reduceIte, Nat.reduceEqDiff, reduceCtorEq]
  simp [boxB]
theorem rPutFs_loop (g : Pg P tab) (hu : IsL 40 RFeat u m.fs) (hs : ∀ f ∈ m.fs, featSmall f) {hh : Heap} {e : TypeId} {ver : Nat} (hg : hh.get 0 = some (.cells (msC m a u) e ver)) (acc : List Nat) (n : Nat) :
    ∀ (i : Nat) (s : T AV) (k : List Fr) (Q : Ex → T AV → Heap → Prop), i + n = m.fs.length → sg s 1 = .ptr 0 0 → sg s 4 = .str (acc ++ ((m.fs.take i).map featB).flatten) → sg s 5 = .int .i64 i →
      (∀ s' j, (j = m.fs.length ∨ 16384 < (acc ++ ((m.fs.take j).map featB).flatten).length) → sg s' 4 = .str (acc ++ ((m.fs.take j).map featB).flatten) → Un P k Q (.exit 1) s' hh) → Lp P b26_0 s hh (Un P k Q) := by
  have hb := hu.bound (by decide)
  unfold msC at hg
  induction n with
  | zero =>
    intro i s k Q hi h1 h4 h5 hK
    refine g.lpe b26_0.eq_1 ?_
    have c1 : ¬ ((i : Int) < (m.fs.length : Int)) := by omega
    simp only [h1, h4, h5, hg, hu.len, c1, RX, VOp.fresh, bxC, bsC, un, most, callsOf, seval, Int.reducePow, ↓reduceIte, Nat.reduceEqDiff, reduceCtorEq]
    refine hK _ i (.inl (by omega)) ?_
    simp only [h4, sg_set, Nat.reduceEqDiff, ↓reduceIte]
  | succ n ih =>
    intro i s k Q hi h1 h4 h5 hK
    refine g.lpe b26_0.eq_1 ?_
    have c1 : (i : Int) < (m.fs.length : Int) := by omega
    by_cases hA : (acc ++ ((m.fs.take i).map featB).flatten).length ≤ 16384
    · obtain ⟨rv, r1, hrv, _, _, _, g1⟩ := getFeat hu i (by omega)
      have w1 : IntKind.i64.wrap ((i : Int) + 1) = ((i + 1 : Nat) : Int) := by rw [w64 (by omega) (by omega)]; push_cast; rfl
      have hsm : featSmall (m.fs.getD i feat0) := by rw [getD_feat (by omega)]; exact hs _ (List.getElem_mem _)
      have hfl := featB_len hsm
      have hA1 : acc ++ ((m.fs.take i).map featB).flatten ++ featB (m.fs.getD i feat0) = acc ++ ((m.fs.take (i + 1)).map featB).flatten := by
        rw [getD_feat (by omega), List.append_assoc, flat_take featB m.fs i (by omega)]
      generalize acc ++ ((m.fs.take i).map featB).flatten = A at *
      have c2 : ((A.length : Nat) : Int) ≤ 16384 := by omega
      have c3 : A.length + (featB (m.fs.getD i feat0)).length < 140737488355328 := by omega
      simp only [h1, h4, h5, hg, hu.len, c1, c2, g1, RX, VOp.fresh, bxC, bsC, un, most, callsOf, seval, Int.reducePow, ↓reduceIte, Nat.reduceEqDiff, reduceCtorEq]
      refine (putFeat_pu g hrv hsm).go (by simp [AV.tolds, AV.told, hrv.told tRing]) ?_
      rintro v rfl
      simp only [h4, h5, c3, w1, RX, VOp.fresh, bxC, bsC, un, most, callsOf, seval, Int.reducePow, ↓reduceIte, Nat.reduceEqDiff, reduceCtorEq]
      refine ih (i + 1) _ k Q (by omega) ?_ ?_ ?_ hK
      · simp only [h1, sg_set, Nat.reduceEqDiff, ↓reduceIte]
      · simp only [sg_set, Nat.reduceEqDiff, ↓reduceIte]
        rw [← hA1]
      · simp only [sg_set, Nat.reduceEqDiff, ↓reduceIte]
    · have c2 : ¬ (((acc ++ ((m.fs.take i).map featB).flatten).length : Nat) : Int) ≤ 16384 := by omega
      simp only [h1, h4, h5, hg, hu.len, c1, c2, RX, VOp.fresh, bxC, bsC, un, most, callsOf, seval, Int.reducePow, ↓reduceIte, Nat.reduceEqDiff, reduceCtorEq]
      refine hK _ i (.inr (by omega)) ?_
      simp only [h4, sg_set, Nat.reduceEqDiff, ↓reduceIte]
theorem rMsgPut_bad (g : Pg P tab) (ha : IsL 112 ROp a m.ops) (hu : IsL 40 RFeat u m.fs) (hn : ¬ msOk m) : Pu P 26 [.agg (msC m a u)] (fun v => v = .tup [.str [], .int .i64 1600]) := by
  have ht : AV.tolds [.agg (msC m a u)] = true := by simp [AV.tolds, AV.told, tolds_ms ha hu]
  have hp := rMay_pu g ha hu
  refine g.pu (vf := v26) rfl rfl ?_
  unfold msC at hp ht ⊢
  simp only [v26, RX, VOp.fresh, bxC, bsC, un, most, callsOf, seval, Int.reducePow, ↓reduceIte, Nat.reduceEqDiff, reduceCtorEq]
  refine hp.go ht ?_
  rintro x ⟨b, rfl, hb⟩
  cases b
  · simp only [RX, VOp.fresh, bxC, bsC, un, most, callsOf, seval, Int.reducePow, ↓reduceIte, Nat.reduceEqDiff, reduceCtorEq]
  · exact absurd (hb.1 rfl) hn
theorem rMsgPut_good (g : Pg P tab) (ha : IsL 112 ROp a m.ops) (hu : IsL 40 RFeat u m.fs) (ok : msOk m) : Pu P 26 [.agg (msC m a u)] (fun v => v = msAns m) := by
  have ht : AV.tolds [.agg (msC m a u)] = true := by simp [AV.tolds, AV.told, tolds_ms ha hu]
  have hp := rMay_pu g ha hu
  have mc : msC m a u = [.int .i64 m.kind, .int .i64 m.frm, .int .i64 m.to, .int .i64 m.node, .int .i64 m.seq, .int .i64 m.base, .bool m.yes, .int .i64 m.query, .int .i64 m.applied, .bool m.busy, .int .i64 m.box.x0, .int .i64 m.box.y0, .int .i64 m.box.x1, .int .i64 m.box.y1, a, u] := rfl
  refine g.pu (vf := v26) rfl rfl ?_
  rw [mc] at hp ht ⊢
  simp only [v26, RX, VOp.fresh, bxC, bsC, un, most, callsOf, seval, Int.reducePow, ↓reduceIte, Nat.reduceEqDiff, reduceCtorEq]
  refine hp.go ht ?_
  rintro x ⟨b, rfl, hb⟩
  cases b
  · exact absurd (hb.2 ok) (by simp)
  clear hb
  simp only [RX, VOp.fresh, bxC, bsC, un, most, callsOf, seval, Int.reducePow, ↓reduceIte, Nat.reduceEqDiff, reduceCtorEq]
  refine EvD.same (fun _ => cBe) (by rfl) ?_
  have hA : ((77 :: 83 :: (numB m.kind 1 ++ numB m.frm 1 ++ numB m.to 1))).length = 5 := by simp [numB_len]
  have er : msB m = (77 :: 83 :: (numB m.kind 1 ++ numB m.frm 1 ++ numB m.to 1)) ++ ((if kTx m.kind = true then txB m.node m.seq else []) ++ ((if kOps m.kind = true then numB (m.base + 1) 4 ++ opsB m.ops else []) ++
      ((if kYes m.kind = true then bitB m.yes else []) ++ ((if kQuery m.kind = true then numB m.query 2 ++ boxB m.box else []) ++ (if kPart m.kind = true then numB m.applied 4 ++ (bitB m.busy ++ fsB m.fs) else []))))) := by
    rw [msB]; simp only [List.cons_append, List.nil_append, List.append_assoc]
  have a1 : 2 + 1 < 140737488355328 := by decide
  have o52 : ∀ (x : Int) h, OK P 52 [.int .i64 x, .int .i64 1] h (.str (numB x 1)) h := fun x h => be1 g h
  have o522 : ∀ (x : Int) h, OK P 52 [.int .i64 x, .int .i64 2] h (.str (numB x 2)) h := fun x h => be2 g h
  have o524 : ∀ (x : Int) h, OK P 52 [.int .i64 x, .int .i64 4] h (.str (numB x 4)) h := fun x h => be4 g h
  have o54 : ∀ h, OK P 54 [.agg [.int .i64 m.node, .int .i64 m.seq]] h (.str (txB m.node m.seq)) h := fun h => (putTx_pu g _ _).exact rfl
  have o75 : ∀ h, OK P 75 [.agg [.int .i64 m.box.x0, .int .i64 m.box.y0, .int .i64 m.box.x1, .int .i64 m.box.y1]] h (.str (boxB m.box)) h := fun h => (rPutBox_pu g m.box).exact rfl
  have o56 : ∀ b h, OK P 56 [.bool b] h (.str (bitB b)) h := fun b h => (bit_pu g _).exact rfl
  have i1 : Int.toNat 1 = 1 := rfl
  have i2 : Int.toNat 2 = 2 := rfl
  have i4 : Int.toNat 4 = 4 := rfl
  have mk := ok.1
  by_cases e5 : m.kind = 5
  · have e : msB m = (77 :: 83 :: (numB m.kind 1 ++ numB m.frm 1 ++ numB m.to 1)) ++ numB m.query 2 ++ boxB m.box := by
      rw [er, e5]; simp [kTx, kOps, kYes, kQuery, kPart]
    clear er
    simp only [cBe_eq, o52, List.length_append, List.length_cons, List.length_nil, numB_len, i1, e5, RX, VOp.fresh, bxC, bsC, un, most, callsOf, seval, Int.reducePow, ↓reduceIte, Nat.reduceEqDiff, reduceCtorEq]
    rw [e5] at e hA
    generalize (77 :: 83 :: (numB 5 1 ++ numB m.frm 1 ++ numB m.to 1)) = A at *
    have c1 : A.length + (numB m.query 2).length < 140737488355328 := by rw [numB_len]; omega
    have c2 : (A ++ numB m.query 2).length + (boxB m.box).length < 140737488355328 := by rw [List.length_append, numB_len, boxB_len]; omega
    refine EvD.same (cQ [] (boxB m.box) [] []) (by rfl) ?_
    by_cases hlen : (msB m).length ≤ 16384
    · have c8 : ¬ (16384 : Int) < ((msB m).length : Int) := by omega
      simp only [cQ, cBe_eq, o522, o75, i2, c1, c2, ← e, c8, RX, VOp.fresh, bxC, bsC, un, most, callsOf, seval, Int.reducePow, ↓reduceIte, Nat.reduceEqDiff, reduceCtorEq]
      rw [msAns, if_pos hlen]
    · have c8 : (16384 : Int) < ((msB m).length : Int) := by omega
      simp only [cQ, cBe_eq, o522, o75, i2, c1, c2, ← e, c8, RX, VOp.fresh, bxC, bsC, un, most, callsOf, seval, Int.reducePow, ↓reduceIte, Nat.reduceEqDiff, reduceCtorEq]
      rw [msAns, if_neg hlen]
  by_cases e6 : m.kind = 6
  · have e : msB m = (77 :: 83 :: (numB m.kind 1 ++ numB m.frm 1 ++ numB m.to 1)) ++ numB m.query 2 ++ boxB m.box ++ numB m.applied 4 ++ bitB m.busy ++ numB m.fs.length 2 ++ (m.fs.map featB).flatten := by
      rw [er, e6]; simp [kTx, kOps, kYes, kQuery, kPart, fsB]
    have hp := ok.2.2.2.2.2.2.2
    unfold partM at hp
    simp only [e6, show kPart 6 = true from rfl, if_true] at hp
    clear er
    simp only [cBe_eq, o52, List.length_append, List.length_cons, List.length_nil, numB_len, i1, e6, RX, VOp.fresh, bxC, bsC, un, most, callsOf, seval, Int.reducePow, ↓reduceIte, Nat.reduceEqDiff, reduceCtorEq]
    rw [e6] at e hA
    generalize (77 :: 83 :: (numB 6 1 ++ numB m.frm 1 ++ numB m.to 1)) = A at *
    have c1 : A.length + (numB m.query 2).length < 140737488355328 := by rw [numB_len]; omega
    have c2 : (A ++ numB m.query 2).length + (boxB m.box).length < 140737488355328 := by rw [List.length_append, numB_len, boxB_len]; omega
    have c3 : (A ++ numB m.query 2 ++ boxB m.box).length + (numB m.applied 4).length < 140737488355328 := by rw [List.length_append, List.length_append, numB_len, numB_len, boxB_len]; omega
    have c4 : (A ++ numB m.query 2 ++ boxB m.box ++ numB m.applied 4).length + (bitB m.busy).length < 140737488355328 := by rw [List.length_append, List.length_append, List.length_append, numB_len, numB_len, boxB_len, bitB_len]; omega
    have c5 : (A ++ numB m.query 2 ++ boxB m.box ++ numB m.applied 4 ++ bitB m.busy).length + (numB m.fs.length 2).length < 140737488355328 := by rw [List.length_append, List.length_append, List.length_append, List.length_append, numB_len, numB_len, numB_len, boxB_len, bitB_len]; omega
    refine EvD.same (cQ [] (boxB m.box) (bitB m.busy) []) (by rfl) ?_
    simp only [cQ, cBe_eq, o522, o524, o75, o56, i2, i4, c1, c2, c3, c4, c5, hu.len, RX, VOp.fresh, bxC, bsC, un, most, callsOf, seval, Int.reducePow, ↓reduceIte, Nat.reduceEqDiff, reduceCtorEq]
    refine rPutFs_loop g (a := a) hu (fsSmall hp.2.2.2) (e := 63) (ver := 0) ?_ (A ++ numB m.query 2 ++ boxB m.box ++ numB m.applied 4 ++ bitB m.busy ++ numB m.fs.length 2) m.fs.length 0 _ _ _ (by omega) ?_ ?_ ?_ ?_
    · rw [Heap.get_mk, if_pos rfl, mc, e6]
    · simp only [sg_set, Nat.reduceEqDiff, ↓reduceIte]
    · simp only [sg_set, Nat.reduceEqDiff, ↓reduceIte]
      simp
    · simp only [sg_set, Nat.reduceEqDiff, ↓reduceIte]
      rfl
    intro s' j hj h4
    by_cases hlen : (msB m).length ≤ 16384
    · have c8 : ¬ (16384 : Int) < ((msB m).length : Int) := by omega
      have hjl : j = m.fs.length := by
        rcases hj with hj | hj
        · exact hj
        · exfalso
          have h1 : ((m.fs.take j).map featB).flatten.length ≤ ((m.fs.map featB).flatten).length := by
            conv => rhs; rw [← List.take_append_drop j m.fs, List.map_append, List.flatten_append, List.length_append]
            omega
          rw [e] at hlen
          rw [List.length_append] at hlen hj
          omega
      rw [hjl, List.take_length, ← e] at h4
      simp only [h4, c8, RX, VOp.fresh, bxC, bsC, un, most, callsOf, seval, Int.reducePow, ↓reduceIte, Nat.reduceEqDiff, reduceCtorEq]
      rw [msAns, if_pos hlen]
    · have c8 : (16384 : Int) < (((A ++ numB m.query 2 ++ boxB m.box ++ numB m.applied 4 ++ bitB m.busy ++ numB m.fs.length 2 ++ ((m.fs.take j).map featB).flatten).length : Nat) : Int) := by
        rcases hj with hj | hj
        · rw [hj, List.take_length, ← e]; omega
        · omega
      simp only [h4, c8, RX, VOp.fresh, bxC, bsC, un, most, callsOf, seval, Int.reducePow, ↓reduceIte, Nat.reduceEqDiff, reduceCtorEq]
      rw [msAns, if_neg hlen]
  by_cases e0 : m.kind = 0
  · have e : msB m = (77 :: 83 :: (numB m.kind 1 ++ numB m.frm 1 ++ numB m.to 1)) ++ txB m.node m.seq ++ numB (m.base + 1) 4 ++ opsB m.ops := by
      rw [er, e0]; simp [kTx, kOps, kYes, kQuery, kPart]
    have hp := ok.2.2.2.2.2.1
    unfold opsM at hp
    simp only [e0, show kOps 0 = true from rfl, if_true] at hp
    clear er
    have hsm := opsOk_small hp.2
    have hl := opsB_len hp.2.2.1 hsm
    have o55 : ∀ h, OK P 55 [a] h (.str (opsB m.ops)) h := fun h => (putOps_pu g ha (by have := hp.2.2.1; omega) hsm).exact (by simp [AV.tolds, ha.told tOp])
    have w1 : IntKind.i64.wrap (m.base + 1) = m.base + 1 := w64 (by omega) (by omega)
    simp only [cBe_eq, o52, List.length_append, List.length_cons, List.length_nil, numB_len, i1, e0, RX, VOp.fresh, bxC, bsC, un, most, callsOf, seval, Int.reducePow, ↓reduceIte, Nat.reduceEqDiff, reduceCtorEq]
    rw [e0] at e hA
    generalize (77 :: 83 :: (numB 0 1 ++ numB m.frm 1 ++ numB m.to 1)) = A at *
    have c1 : A.length + (txB m.node m.seq).length < 140737488355328 := by rw [txB_len]; omega
    have c2 : (A ++ txB m.node m.seq).length + (numB (m.base + 1) 4).length < 140737488355328 := by rw [List.length_append, numB_len, txB_len]; omega
    have c3 : (A ++ txB m.node m.seq ++ numB (m.base + 1) 4).length + (opsB m.ops).length < 140737488355328 := by rw [List.length_append, List.length_append, numB_len, txB_len]; omega
    refine EvD.same (cQ (txB m.node m.seq) [] [] (opsB m.ops)) (by rfl) ?_
    by_cases hlen : (msB m).length ≤ 16384
    · have c8 : ¬ (16384 : Int) < ((msB m).length : Int) := by omega
      simp only [cQ, cBe_eq, o524, o54, o55, i4, w1, c1, c2, c3, ← e, c8, RX, VOp.fresh, bxC, bsC, un, most, callsOf, seval, Int.reducePow, ↓reduceIte, Nat.reduceEqDiff, reduceCtorEq]
      rw [msAns, if_pos hlen]
    · have c8 : (16384 : Int) < ((msB m).length : Int) := by omega
      simp only [cQ, cBe_eq, o524, o54, o55, i4, w1, c1, c2, c3, ← e, c8, RX, VOp.fresh, bxC, bsC, un, most, callsOf, seval, Int.reducePow, ↓reduceIte, Nat.reduceEqDiff, reduceCtorEq]
      rw [msAns, if_neg hlen]
  by_cases e12 : m.kind = 1 ∨ m.kind = 2
  · have e : msB m = (77 :: 83 :: (numB m.kind 1 ++ numB m.frm 1 ++ numB m.to 1)) ++ txB m.node m.seq ++ bitB m.yes := by
      rw [er]; rcases e12 with e | e <;> rw [e] <;> simp [kTx, kOps, kYes, kQuery, kPart]
    clear er
    rcases e12 with e1 | e1
    all_goals
      simp only [cBe_eq, o52, List.length_append, List.length_cons, List.length_nil, numB_len, i1, e1, RX, VOp.fresh, bxC, bsC, un, most, callsOf, seval, Int.reducePow, ↓reduceIte, Nat.reduceEqDiff, reduceCtorEq]
      rw [e1] at e hA
    · generalize (77 :: 83 :: (numB 1 1 ++ numB m.frm 1 ++ numB m.to 1)) = A at *
      have c1 : A.length + (txB m.node m.seq).length < 140737488355328 := by rw [txB_len]; omega
      have c2 : (A ++ txB m.node m.seq).length + (bitB m.yes).length < 140737488355328 := by rw [List.length_append, bitB_len, txB_len]; omega
      refine EvD.same (cQ (txB m.node m.seq) [] (bitB m.yes) []) (by rfl) ?_
      by_cases hlen : (msB m).length ≤ 16384
      · have c8 : ¬ (16384 : Int) < ((msB m).length : Int) := by omega
        simp only [cQ, o54, o56, c1, c2, ← e, c8, RX, VOp.fresh, bxC, bsC, un, most, callsOf, seval, Int.reducePow, ↓reduceIte, Nat.reduceEqDiff, reduceCtorEq]
        rw [msAns, if_pos hlen]
      · have c8 : (16384 : Int) < ((msB m).length : Int) := by omega
        simp only [cQ, o54, o56, c1, c2, ← e, c8, RX, VOp.fresh, bxC, bsC, un, most, callsOf, seval, Int.reducePow, ↓reduceIte, Nat.reduceEqDiff, reduceCtorEq]
        rw [msAns, if_neg hlen]
    · generalize (77 :: 83 :: (numB 2 1 ++ numB m.frm 1 ++ numB m.to 1)) = A at *
      have c1 : A.length + (txB m.node m.seq).length < 140737488355328 := by rw [txB_len]; omega
      have c2 : (A ++ txB m.node m.seq).length + (bitB m.yes).length < 140737488355328 := by rw [List.length_append, bitB_len, txB_len]; omega
      refine EvD.same (cQ (txB m.node m.seq) [] (bitB m.yes) []) (by rfl) ?_
      by_cases hlen : (msB m).length ≤ 16384
      · have c8 : ¬ (16384 : Int) < ((msB m).length : Int) := by omega
        simp only [cQ, o54, o56, c1, c2, ← e, c8, RX, VOp.fresh, bxC, bsC, un, most, callsOf, seval, Int.reducePow, ↓reduceIte, Nat.reduceEqDiff, reduceCtorEq]
        rw [msAns, if_pos hlen]
      · have c8 : (16384 : Int) < ((msB m).length : Int) := by omega
        simp only [cQ, o54, o56, c1, c2, ← e, c8, RX, VOp.fresh, bxC, bsC, un, most, callsOf, seval, Int.reducePow, ↓reduceIte, Nat.reduceEqDiff, reduceCtorEq]
        rw [msAns, if_neg hlen]
  have e1 : ¬ m.kind = 1 := fun h => e12 (.inl h)
  have e2 : ¬ m.kind = 2 := fun h => e12 (.inr h)
  have e : msB m = (77 :: 83 :: (numB m.kind 1 ++ numB m.frm 1 ++ numB m.to 1)) ++ txB m.node m.seq := by
    have : m.kind = 3 ∨ m.kind = 4 := by omega
    rw [er]; rcases this with e | e <;> rw [e] <;> simp [kTx, kOps, kYes, kQuery, kPart]
  clear er
  simp only [cBe_eq, o52, List.length_append, List.length_cons, List.length_nil, numB_len, i1, e0, e1, e2, e5, e6, RX, VOp.fresh, bxC, bsC, un, most, callsOf, seval, Int.reducePow, ↓reduceIte, Nat.reduceEqDiff, reduceCtorEq]
  refine (putTx_pu g _ _).go rfl ?_
  rintro v rfl
  generalize (77 :: 83 :: (numB m.kind 1 ++ numB m.frm 1 ++ numB m.to 1)) = A at *
  have c1 : A.length + (txB m.node m.seq).length < 140737488355328 := by rw [txB_len]; omega
  by_cases hlen : (msB m).length ≤ 16384
  · have c8 : ¬ (16384 : Int) < ((msB m).length : Int) := by omega
    simp only [c1, ← e, c8, RX, VOp.fresh, bxC, bsC, un, most, callsOf, seval, Int.reducePow, ↓reduceIte, Nat.reduceEqDiff, reduceCtorEq]
    rw [msAns, if_pos hlen]
  · have c8 : (16384 : Int) < ((msB m).length : Int) := by omega
    simp only [c1, ← e, c8, RX, VOp.fresh, bxC, bsC, un, most, callsOf, seval, Int.reducePow, ↓reduceIte, Nat.reduceEqDiff, reduceCtorEq]
    rw [msAns, if_neg hlen]
end
end Go.Proofs.Ytinonmcnofjeeaa.VM
namespace Go.Proofs.Ytinonmcnofjeeaa.VM
attribute [local irreducible] Af Nx EvO Ev Un Gd Cd EvR EvQ EvC Nc Gc Lp EvM NxM AfM GdM EvMR EvMQ EvMD EvMC Nm Gm
section
variable {h : Heap} {B : Nat → Prop}
theorem LFeats.of {v : AV} {l : List Feat} (a : Lv h B v (cFeats l)) (hs : featsSm l) : LFeats h B v := by
  by_cases h0 : l.length = 0
  · have : l = [] := List.eq_nil_of_length_eq_zero h0
    subst this
    exact .inl (.inl a.nils_inv)
  · obtain ⟨b, off, cap, rfl, hB, hb, hg⟩ := a.row_inv (z := 3) (by omega) (flat_len8 (F := cFeat) fun _ => rfl)
    refine .inr ⟨b, off, l.length, cap, rfl, Nat.le_trans hs.1 (by decide), hB, hb, fun i hi => ?_⟩
    have s2 := hs.2 _ (List.getElem_mem hi)
    have get : ∀ j (y : AV), j < 3 → (cFeat l[i])[j]? = some y → ∃ a, At h b (off + i * 3 + j) a ∧ Lv h B a y := fun j y hj hy => by
      rw [Nat.add_assoc]
      exact hg (i * 3 + j) y (by rw [flat_get (F := cFeat) (z := 3) (fun _ => rfl) hi hj]; exact hy)
    obtain ⟨x0, a0, l0⟩ := get 0 _ (by decide) rfl
    rw [l0.int_inv] at a0
    obtain ⟨x2, a2, l2⟩ := get 2 _ (by decide) rfl
    exact ⟨⟨_, a0⟩, x2, a2, LRings.of l2 s2.2.2.1 s2.2.2.2⟩
end
def mz : Ms := ⟨0, 0, 0, 0, 0, 0, false, 0, 0, false, ⟨0, 0, 0, 0⟩, [], []⟩
end Go.Proofs.Ytinonmcnofjeeaa.VM
namespace Go.Proofs.Ytinonmcnofjeeaa.VM
attribute [local irreducible] Af Nx EvO Ev Un Gd Cd EvR EvQ EvC Nc Gc Lp EvM NxM AfM GdM EvMR EvMQ EvMD EvMC Nm Gm
abbrev z16 : List AV := [.int .i64 0, .int .i64 0, .int .i64 0, .int .i64 0, .int .i64 0, .int .i64 0, .bool false, .int .i64 0, .int .i64 0, .bool false, .int .i64 0, .int .i64 0, .int .i64 0, .int .i64 0, .nils, .nils]
/-- messages of a kind, told: their cells, which may be sent, what a copy is -/
structure MsK (P : Program) (α : Type) where
  C : α → List AV
  R : α → α → Prop
  E : α → Bool
  len : ∀ x, (C x).length = 16
  one : ∀ x, (C x).all AV.one = true
  told : ∀ x, AV.tolds (C x) = true
  cp : ∀ x, E x = true → Pu P 82 [.agg (C x)] (fun v => ∃ y, v = .agg (C y) ∧ R x y)
  pt : ∀ x, Pu P 25 [.agg (C x)] (fun v => ∃ S e, v = .tup [.str S, .int .i64 e] ∧ (e = 0 ↔ E x = true))
section
variable {P : Program} {α : Type} (K : MsK P α) {h h' : Heap} {v : AV} {xs : List α} {D : List Nat}
def MsK.row (xs : List α) : List AV := (xs.map K.C).flatten
theorem MsK.row_len : ∀ (xs : List α), (K.row xs).length = xs.length * 16
  | [] => rfl
  | x :: xs => by
    have := MsK.row_len xs
    unfold MsK.row at this ⊢
    rw [List.map_cons, List.flatten_cons, List.length_append, this, K.len, List.length_cons]; omega
theorem MsK.row_app (xs ys : List α) : K.row (xs ++ ys) = K.row xs ++ K.row ys := by unfold MsK.row; rw [List.map_append, List.flatten_append]
theorem MsK.row_one (x : α) : K.row [x] = K.C x := by unfold MsK.row; simp
theorem MsK.row_all : ∀ (xs : List α), (K.row xs).all AV.one = true
  | [] => rfl
  | x :: xs => by
    have := MsK.row_all xs
    unfold MsK.row at this ⊢
    rw [List.map_cons, List.flatten_cons, List.all_append, this, K.one]; rfl
/-- a queue's row: in its block there may be more behind -/
def QRow (h : Heap) (v : AV) (xs : List α) : Prop := (v = .nils ∧ xs = []) ∨ ∃ b cap e ver z, v = .sl b 0 xs.length cap 16 ∧ b < h.next ∧ h.get b = some (.cells (K.row xs ++ z) e ver) ∧ xs.length * 16 + z.length = cap * 16 ∧ z.all AV.one = true
/-- a queue -/
def QS (h : Heap) (qb : Nat) (mo : Int) (xs : List α) (D : List Nat) : Prop := qb < h.next ∧ qb ∉ D ∧ ((xs.length : Int) ≤ mo ∧ mo ≤ 64) ∧ ∃ e ver v, h.get qb = some (.cells [.int .i64 mo, v] e ver) ∧ QRow K h v xs ∧ D = blkOf v
/-- what a queue's call leaves -/
def QF (h h' : Heap) (qb : Nat) (D D' : List Nat) : Prop := h.next ≤ h'.next ∧ (∀ b ∈ D', b ∈ D ∨ h.next ≤ b) ∧ ∀ b, b < h.next → b ≠ qb → b ∉ D → h'.get b = h.get b
variable {K}
theorem QRow.frame (r : QRow K h v xs) (hn : h.next ≤ h'.next) (k : ∀ b ∈ blkOf v, h'.get b = h.get b) : QRow K h' v xs := by
  rcases r with r | ⟨b, cap, e, ver, z, rfl, hb, hg, hl, hz⟩
  · exact .inl r
  · exact .inr ⟨b, cap, e, ver, z, rfl, by omega, (k b (by simp [blkOf])).trans hg, hl, hz⟩
theorem QRow.lt (r : QRow K h v xs) : ∀ b ∈ blkOf v, b < h.next := by
  rcases r with ⟨rfl, rfl⟩ | ⟨b, cap, e, ver, z, rfl, hb, hg, hl, hz⟩
  · intro b hb; simp [blkOf] at hb
  · intro c hc; simp only [blkOf, List.mem_singleton] at hc; rw [hc]; exact hb
theorem QRow.one (r : QRow K h v xs) : v.one = true := by rcases r with ⟨rfl, rfl⟩ | ⟨b, cap, e, ver, z, rfl, _⟩ <;> rfl
theorem QRow.cells (r : QRow K h v xs) : v.cells = some [v] := by rcases r with ⟨rfl, rfl⟩ | ⟨b, cap, e, ver, z, rfl, _⟩ <;> rfl
theorem QRow.len (r : QRow K h v xs) (hh : Heap) : lnV hh v = .val (.int .i64 xs.length) hh := by rcases r with ⟨rfl, rfl⟩ | ⟨b, cap, e, ver, z, rfl, _⟩ <;> rfl
/-- one more message -/
theorem QRow.push (r : QRow K h v xs) (hx : xs.length ≤ 64) {nb e v0 : Nat} {x : α} (hg : h.get nb = some (.cells (K.C x) e v0)) :
    ∃ v' h', appendV h 16 160 63 v (.sl nb 0 1 1 16) = some (v', h') ∧ QRow K h' v' (xs ++ [x]) ∧ h.next ≤ h'.next ∧ (∀ b ∈ blkOf v', b ∈ blkOf v ∨ h.next ≤ b) ∧ ∀ b, b < h.next → b ∉ blkOf v → h'.get b = h.get b := by
  have hc : cellsOf h 16 1 (.sl nb 0 1 1 16) = some (K.C x) := cells_of hg (by rw [K.len]) 1
  have hl := K.len x
  have ho := K.one x
  rcases r with ⟨rfl, rfl⟩ | ⟨b, cap, eb, vb, z, rfl, hb, hgb, hz, hzo⟩
  · refine ⟨.sl h.next 0 1 1 16, h.mk' h.next (.cells (K.C x) 63 0), ?_, .inr ⟨h.next, 1, 63, 0, [], rfl, by rw [mk_next]; omega, by rw [Heap.get_mk, if_pos rfl, List.append_nil, List.nil_append, K.row_one], rfl, rfl⟩, by rw [mk_next]; omega, fun b hb => .inr (by simp only [blkOf, List.mem_singleton] at hb; omega), fun b hb _ => by rw [Heap.get_mk, if_neg (by omega)]⟩
    have e1 : (1 : Nat) * 160 ≤ most2 := by unfold most2; omega
    simp [appendV, lenV, hc, hl, ho, e1]
  · have e0 : cellsOf h 16 xs.length (.sl b 0 xs.length cap 16) = some (K.row xs) := by
      simp only [cellsOf, Nat.le_refl, if_true, hgb]
      rw [cut_eq, List.drop_zero, List.take_left' (K.row_len xs), if_pos (K.row_len xs)]
    by_cases hcap : xs.length + 1 ≤ cap
    · have hz16 : 16 ≤ z.length := by omega
      have hw : writeAt h b (0 + xs.length * 16) (K.C x) = some (h.put b (.cells (K.row xs ++ K.C x ++ z.drop 16) eb (vb + 1))) := by
        rw [writeAt_go, hgb, wrB_some, if_pos ⟨by rw [List.length_append, K.row_len]; omega, ho⟩]
        rw [Nat.zero_add, List.take_left' (K.row_len xs), hl, ← K.row_len xs, List.drop_append, List.drop_of_length_le (by omega), List.nil_append, show (K.row xs).length + 16 - (K.row xs).length = 16 by omega]
      refine ⟨.sl b 0 (xs.length + 1) cap 16, h.put b (.cells (K.row xs ++ K.C x ++ z.drop 16) eb (vb + 1)), ?_, .inr ⟨b, cap, eb, vb + 1, z.drop 16, by rw [List.length_append, List.length_singleton], by rw [put_next]; exact hb, by rw [Heap.get_put, if_pos rfl, K.row_app, K.row_one], by rw [List.length_append, List.length_singleton, List.length_drop]; omega, List.all_eq_true.2 fun y hy => List.all_eq_true.1 hzo y (List.mem_of_mem_drop hy)⟩, by rw [put_next]; exact Nat.le_refl _, fun c hc => .inl hc, fun c _ hc => by simp only [blkOf, List.mem_singleton] at hc; rw [Heap.get_put, if_neg hc]⟩
      simp only [appendV, lenV, hc, hl, ho, hcap, hw, Nat.one_mul, and_self, if_true, Nat.beq_refl, cond_true]
    · refine ⟨.sl h.next 0 (xs.length + 1) (xs.length + 1) 16, (h.put b .dead).mk' h.next (.cells (K.row xs ++ K.C x) 63 0), ?_, .inr ⟨h.next, xs.length + 1, 63, 0, [], by rw [List.length_append, List.length_singleton], by rw [mk_next]; omega, by rw [Heap.get_mk, if_pos rfl, List.append_nil, K.row_app, K.row_one], by rw [List.length_append, List.length_singleton]; simp, rfl⟩, by rw [mk_next, put_next]; omega, fun c hc => .inr (by simp only [blkOf, List.mem_singleton] at hc; omega), fun c hc hn => by
        simp only [blkOf, List.mem_singleton] at hn
        rw [Heap.get_mk, if_neg (by omega), Heap.get_put, if_neg hn]⟩
      have e1 : (xs.length + 1) * 160 ≤ most2 := by unfold most2; omega
      simp [appendV, lenV, hc, hl, ho, hcap, e1, e0]
theorem MsK.new_cl (K : MsK P α) (g : Pg P tab) {mo : Int} {Q : AV → Heap → Prop} (q1 : 1 ≤ mo ∧ mo ≤ 64 → ∀ qb h', QS K h' qb mo [] [] → h.next ≤ qb → Ext h h' → Q (.tup [.ptr qb 0, .int .i64 0]) h') (q2 : ¬ (1 ≤ mo ∧ mo ≤ 64) → Q (.tup [.nilp, .int .i64 1700]) h) : Cl P 32 [.int .i64 mo] h Q := by
  refine g.cl (vf := v32) rfl rfl ?_
  by_cases c1 : mo < 1
  · simp only [v32, c1, RX, VOp.fresh, bxC, bsC, un, most, callsOf, seval, Int.reducePow, ↓reduceIte, Nat.reduceEqDiff, reduceCtorEq]
    exact q2 (by omega)
  by_cases c2 : 64 < mo
  · simp only [v32, c1, c2, RX, VOp.fresh, bxC, bsC, un, most, callsOf, seval, Int.reducePow, ↓reduceIte, Nat.reduceEqDiff, reduceCtorEq]
    exact q2 (by omega)
  simp only [v32, c1, c2, RX, VOp.fresh, bxC, bsC, un, most, callsOf, seval, Int.reducePow, ↓reduceIte, Nat.reduceEqDiff, reduceCtorEq]
  exact q1 (by omega) _ _ ⟨by rw [mk_next]; omega, by simp, ⟨by simp; omega, by omega⟩, 149, 0, .nils, by rw [Heap.get_mk, if_pos rfl], .inl ⟨rfl, rfl⟩, rfl⟩ (Nat.le_refl _) (Ext.mk _)
/-- a part of a row goes to the front -/
theorem del_cells {A B C z y : List AV} (hb : B.length = y.length) : (((A ++ B ++ C ++ z).take A.length ++ C ++ (A ++ B ++ C ++ z).drop (A.length + C.length)).take (A.length + C.length) ++ y ++ ((A ++ B ++ C ++ z).take A.length ++ C ++ (A ++ B ++ C ++ z).drop (A.length + C.length)).drop (A.length + C.length + y.length)) = A ++ C ++ (y ++ z) := by
  have e1 : (A ++ B ++ C ++ z).take A.length = A := by rw [List.append_assoc, List.append_assoc, List.take_left' rfl]
  rw [e1]
  have e2 : (A ++ C ++ (A ++ B ++ C ++ z).drop (A.length + C.length)).take (A.length + C.length) = A ++ C := List.take_left' (by rw [List.length_append])
  rw [e2]
  have e3 : (A ++ C ++ (A ++ B ++ C ++ z).drop (A.length + C.length)).drop (A.length + C.length + y.length) = z := by
    rw [← List.drop_drop, List.drop_left' (by rw [List.length_append]), List.drop_drop, show A.length + C.length + y.length = (A ++ B ++ C).length by simp only [List.length_append]; omega, List.drop_left' rfl]
  rw [e3, List.append_assoc]
theorem MsK.del_cl (K : MsK P α) (g : Pg P tab) {b cap e ver : Nat} {z : List AV} {i : Nat} (hi : i < xs.length) (hx : xs.length ≤ 64) (hb : b < h.next) (hg : h.get b = some (.cells (K.row xs ++ z) e ver)) (hl : xs.length * 16 + z.length = cap * 16) {Q : AV → Heap → Prop}
    (q : ∀ h' ver', h'.next = h.next → (∀ c, c ≠ b → h'.get c = h.get c) → h'.get b = some (.cells (K.row (xs.eraseIdx i) ++ (z16 ++ z)) e ver') → Q (.sl b 0 (xs.length - 1) cap 16) h') : Cl P 83 [.sl b 0 xs.length cap 16, .int .i64 i, .int .i64 ((i + 1 : Nat) : Int)] h Q := by
  refine g.cl (vf := v83) rfl rfl ?_
  have s1 := slV3 (b := b) (off := 0) (len := xs.length) (cap := cap) (sz := 16) (k1 := .i64) (k2 := .i64) (k3 := .i64) (show i ≤ i + 1 by omega) (show i + 1 ≤ xs.length by omega) (show xs.length ≤ cap by omega)
  have s2 := slVhi (b := b) (off := 0) (len := xs.length) (cap := cap) (sz := 16) (k2 := .i64) (hi := i) (by omega)
  have s3 := slVlo (b := b) (off := 0) (len := xs.length) (cap := cap) (sz := 16) (k1 := .i64) (lo := i + 1) (by omega)
  have s4 := slV2 (b := b) (off := 0) (len := xs.length - 1) (cap := cap) (sz := 16) (k1 := .i64) (k2 := .i64) (lo := xs.length - 1) (hi := xs.length) (by omega) (by omega)
  have n1 : ¬ ((i : Int) = ((i + 1 : Nat) : Int)) := by omega
  obtain ⟨A, x, C, rfl, hA⟩ : ∃ A x C, xs = A ++ x :: C ∧ A.length = i := ⟨xs.take i, xs[i], xs.drop (i + 1), by rw [List.getElem_cons_drop, List.take_append_drop], by rw [List.length_take]; omega⟩
  have er : (A ++ x :: C).eraseIdx i = A ++ C := by rw [← hA, List.eraseIdx_append_of_length_le (Nat.le_refl _)]; simp
  have eR : K.row (A ++ x :: C) = K.row A ++ K.C x ++ K.row C := by rw [K.row_app, show x :: C = [x] ++ C from rfl, K.row_app, K.row_one, List.append_assoc]
  have lA := K.row_len A
  have lC := K.row_len C
  have lx := K.len x
  have ll : (A ++ x :: C).length = A.length + C.length + 1 := by simp; omega
  rw [eR] at hg
  have hc : cellsOf h 16 ((A ++ x :: C).length - (i + 1)) (.sl b (0 + (i + 1) * 16) ((A ++ x :: C).length - (i + 1)) (cap - (i + 1)) 16) = some (K.row C) := by
    simp only [cellsOf, Nat.le_refl, if_true, hg]
    have : (K.row A ++ K.C x ++ K.row C ++ z).drop (0 + (i + 1) * 16) = K.row C ++ z := by
      rw [List.append_assoc (K.row A ++ K.C x), List.drop_left' (by rw [List.length_append, lA, lx]; omega)]
    have e2 : ((A ++ x :: C).length - (i + 1)) * 16 = (K.row C).length := by rw [lC, ll]; omega
    rw [cut_eq, this, e2, List.take_left' rfl, if_pos rfl]
  have oC := K.row_all C
  have hw : writeAt h b (0 + i * 16) (K.row C) = some (h.put b (.cells ((K.row A ++ K.C x ++ K.row C ++ z).take (K.row A).length ++ K.row C ++ (K.row A ++ K.C x ++ K.row C ++ z).drop ((K.row A).length + (K.row C).length)) e (ver + 1))) := by
    rw [writeAt_go, hg, wrB_some, if_pos ⟨by simp only [List.length_append]; omega, oC⟩, show 0 + i * 16 = (K.row A).length by omega]
  have ha : appendV h 16 160 63 (.sl b 0 i cap 16) (.sl b (0 + (i + 1) * 16) ((A ++ x :: C).length - (i + 1)) (cap - (i + 1)) 16) = some (.sl b 0 ((A ++ x :: C).length - 1) cap 16, h.put b (.cells ((K.row A ++ K.C x ++ K.row C ++ z).take (K.row A).length ++ K.row C ++ (K.row A ++ K.C x ++ K.row C ++ z).drop ((K.row A).length + (K.row C).length)) e (ver + 1))) := by
    have e1 : (K.row C).length = ((A ++ x :: C).length - (i + 1)) * 16 := by rw [lC, ll]; omega
    have e2 : i + ((A ++ x :: C).length - (i + 1)) ≤ cap := by omega
    have e3 : i + ((A ++ x :: C).length - (i + 1)) = (A ++ x :: C).length - 1 := by omega
    have e4 : (A ++ x :: C).length - 1 ≤ cap := by omega
    simp only [appendV, lenV, hc, e1, oC, and_self, if_true, Nat.beq_refl, cond_true, hw, e3, e4]
  have hw2 : writeAt (h.put b (.cells ((K.row A ++ K.C x ++ K.row C ++ z).take (K.row A).length ++ K.row C ++ (K.row A ++ K.C x ++ K.row C ++ z).drop ((K.row A).length + (K.row C).length)) e (ver + 1))) b (0 + ((A ++ x :: C).length - 1) * 16) z16 = some ((h.put b (.cells ((K.row A ++ K.C x ++ K.row C ++ z).take (K.row A).length ++ K.row C ++ (K.row A ++ K.C x ++ K.row C ++ z).drop ((K.row A).length + (K.row C).length)) e (ver + 1))).put b (.cells (K.row A ++ K.row C ++ (z16 ++ z)) e (ver + 1 + 1))) := by
    rw [writeAt_go, Heap.get_put, if_pos rfl, wrB_some, if_pos ⟨by simp only [List.length_append, List.length_take, List.length_drop]; simp; omega, by rfl⟩, show 0 + ((A ++ x :: C).length - 1) * 16 = (K.row A).length + (K.row C).length by omega, del_cells (by rw [lx]; rfl)]
  have hcl : (A ++ x :: C).length - ((A ++ x :: C).length - 1) = 1 := by omega
  rw [Nat.zero_add] at ha hw2 s1 s3 s4
  rw [hcl] at s4
  have hcs := clS_go (z := z16) (b := b) (off := ((A ++ x :: C).length - 1) * 16) (len := 1) (cap := cap - ((A ++ x :: C).length - 1)) (sz := 16) (by decide) ((by rw [List.replicate_one, List.flatten_singleton]; exact hw2 : writeAt _ b (((A ++ x :: C).length - 1) * 16) (List.replicate 1 z16).flatten = _))
  simp only [v83, s1, s2, s3, s4, n1, ha, vop_clearS, hcs, RX, VOp.fresh, bxC, bsC, un, most, callsOf, seval, Int.reducePow, ↓reduceIte, Nat.reduceEqDiff, reduceCtorEq]
  refine q _ (ver + 1 + 1) rfl (fun c hc => by rw [Heap.get_put, if_neg hc, Heap.get_put, if_neg hc]) ?_
  rw [Heap.get_put, if_pos rfl, er, K.row_app]
  rfl
end
end Go.Proofs.Ytinonmcnofjeeaa.VM
namespace Go.Proofs.Ytinonmcnofjeeaa.VM
attribute [local irreducible] Af Nx EvO Ev Un Gd Cd EvR EvQ EvC Nc Gc Lp EvM NxM AfM GdM EvMR EvMQ EvMD EvMC Nm Gm
section
variable {P : Program} {α : Type} {K : MsK P α} {h h' : Heap} {v : AV} {xs : List α} {D D' : List Nat} {qb : Nat} {mo : Int}
theorem QF.refl : QF h h qb D D := ⟨Nat.le_refl _, fun b hb => .inl hb, fun _ _ _ _ => rfl⟩
theorem QF.trans {h1 h2 : Heap} {D1 D2 : List Nat} (a : QF h h1 qb D D1) (b : QF h1 h2 qb D1 D2) (hD : ∀ b ∈ D, b < h.next) : QF h h2 qb D D2 := by
  refine ⟨Nat.le_trans a.1 b.1, fun c hc => ?_, fun c hc hq hn => ?_⟩
  · rcases b.2.1 c hc with e | e
    · exact a.2.1 c e
    · exact .inr (Nat.le_trans a.1 e)
  · rw [b.2.2 c (Nat.lt_of_lt_of_le hc a.1) hq fun hc1 => ?_, a.2.2 c hc hq hn]
    rcases a.2.1 c hc1 with e | e
    · exact hn e
    · omega
theorem Ext.qf (x : Ext h h') : QF h h' qb D D := ⟨x.1, fun b hb => .inl hb, fun b hb _ _ => x.2 b hb⟩
theorem QS.ext (q : QS K h qb mo xs D) (x : Ext h h') : QS K h' qb mo xs D := by
  obtain ⟨a, b, c, e, ver, v, g, r, rfl⟩ := q
  exact ⟨Nat.lt_of_lt_of_le a x.1, b, c, e, ver, v, (x.2 _ a).trans g, r.frame x.1 fun d hd => x.2 d (r.lt d hd), rfl⟩
theorem QS.frame' (q : QS K h qb mo xs D) (hn : h.next ≤ h'.next) (kq : h'.get qb = h.get qb) (k : ∀ b ∈ D, h'.get b = h.get b) : QS K h' qb mo xs D := by
  obtain ⟨a, b, c, e, ver, v, g, r, rfl⟩ := q
  exact ⟨by omega, b, c, e, ver, v, kq.trans g, r.frame hn k, rfl⟩
theorem QS.lt (q : QS K h qb mo xs D) : ∀ b ∈ D, b < h.next := by
  obtain ⟨a, b, c, e, ver, v, g, r, rfl⟩ := q
  exact r.lt
theorem MsK.send_cl (K : MsK P α) (g : Pg P tab) {x : α} (q : QS K h qb mo xs D) {c : List AV} (lc : ∀ h', Ext h h' → Fzs true h' c (K.C x)) (hc : c.length = 16) (oc : c.all AV.one = true) {Q : AV → Heap → Prop}
    (k0 : K.E x = false → ∀ h', QS K h' qb mo xs D → Ext h h' → ∃ e, e = 1700 ∧ Q (.int .i64 e) h')
    (k1 : K.E x = true → ¬ (xs.length : Int) < mo → ∀ h', QS K h' qb mo xs D → Ext h h' → ∃ e, e = 1701 ∧ Q (.int .i64 e) h')
    (k2 : K.E x = true → (xs.length : Int) < mo → ∀ h' y D', K.R x y → QS K h' qb mo (xs ++ [y]) D' → QF h h' qb D D' → ∃ e, e = 0 ∧ Q (.int .i64 e) h') : Cl P 35 [.ptr qb 0, .agg c] h Q := by
  refine g.cl (vf := v35) rfl rfl ?_
  have x1 := Ext.mk (h := h) (.cells c 63 0)
  have q1 := q.ext x1
  have g1 : (h.mk' h.next (.cells c 63 0)).get h.next = some (.cells c 63 0) := by rw [Heap.get_mk, if_pos rfl]
  have lc1 := lc _ x1
  have n1 : (h.mk' h.next (.cells c 63 0)).next = h.next + 1 := by rw [mk_next]; omega
  have ct : c.take 16 = c := List.take_of_length_le (by omega)
  simp only [v35, HE, RX, VOp.fresh, bxC, bsC, un, most, callsOf, seval, Int.reducePow, ↓reduceIte, Nat.reduceEqDiff, reduceCtorEq]
  clear lc
  generalize hH : h.mk' h.next (.cells c 63 0) = h1 at *
  simp only [g1, hc, ct, RX, VOp.fresh, bxC, bsC, un, most, callsOf, seval, Int.reducePow, ↓reduceIte, Nat.reduceEqDiff, reduceCtorEq]
  refine (K.pt x).cl (.cons (.agg lc1) .nil) ?_
  rintro v ⟨S, e, rfl, he⟩
  by_cases hE : K.E x = true
  · obtain rfl := he.2 hE
    obtain ⟨a, b, ⟨c1, c2⟩, e1, ver1, v1, gq, r, rfl⟩ := q1
    simp only [gq, r.len, RX, VOp.fresh, bxC, bsC, un, most, callsOf, seval, Int.reducePow, ↓reduceIte, Nat.reduceEqDiff, reduceCtorEq]
    by_cases hl : (xs.length : Int) < mo
    · have hl' : ¬ mo ≤ (xs.length : Int) := by omega
      obtain ⟨v2, v2', hz, o, hf, y, rfl, hy⟩ := K.cp x hE
      have ok : OK P 82 [.agg c] h1 (.agg (K.C y)) h1 := o.pure (.cons (.agg lc1) .nil) hf
      have ly := K.len y
      have ty : (K.C y).take 16 = K.C y := List.take_of_length_le (by omega)
      have x2 := Ext.mk (h := h1) (.cells (K.C y) 63 0)
      have g2 : (h1.mk' h1.next (.cells (K.C y) 63 0)).get h1.next = some (.cells (K.C y) 63 0) := by rw [Heap.get_mk, if_pos rfl]
      have r2 := r.frame x2.1 fun b hb => x2.2 b (r.lt b hb)
      have gq2 := (x2.2 qb a).trans gq
      have n2 : (h1.mk' h1.next (.cells (K.C y) 63 0)).next = h1.next + 1 := by rw [mk_next]; omega
      obtain ⟨v3, h3, ea, r3, n3, d3, k3⟩ := r2.push (by omega) g2
      have gq3 := (k3 qb (by omega) b).trans gq2
      have o3 := r3.one
      have c3 := r3.cells
      simp only [hl', RX, VOp.fresh, bxC, bsC, un, most, callsOf, seval, Int.reducePow, ↓reduceIte, Nat.reduceEqDiff, reduceCtorEq]
      refine EvD.lk (fun _ _ _ => (.agg (K.C y), h1)) ?_
      simp only [gq, g1, hc, ct, ok, ly, ty, ea, gq3, o3, c3, List.append_nil, RW, RX, VOp.fresh, bxC, bsC, un, most, callsOf, seval, Int.reducePow, ↓reduceIte, Nat.reduceEqDiff, reduceCtorEq]
      refine ⟨⟨⟨?_, ?_, trivial⟩, trivial⟩, ?_⟩
      · show Lk _ _ _ _
        simp only [Lk, wanted, gq, RX, VOp.fresh, bxC, bsC, un, most, callsOf, seval, Int.reducePow, ↓reduceIte, Nat.reduceEqDiff, reduceCtorEq]
      · show Lk _ _ _ _
        simp only [Lk, wanted, gq2, RX, VOp.fresh, bxC, bsC, un, most, callsOf, seval, Int.reducePow, ↓reduceIte, Nat.reduceEqDiff, reduceCtorEq]
      obtain ⟨_, rfl, hq⟩ := k2 hE hl (h3.put qb (.cells [.int .i64 mo, v3] e1 (ver1 + 1))) y (blkOf v3) hy
        ⟨by rw [put_next]; omega, fun hb => (d3 qb hb).elim b (fun e => by omega), ⟨by rw [List.length_append, List.length_singleton]; omega, c2⟩, e1, ver1 + 1, v3, by rw [Heap.get_put, if_pos rfl],
          r3.frame (by rw [put_next]; exact Nat.le_refl _) (fun d hd => by rw [Heap.get_put, if_neg]; intro e; exact (d3 d hd).elim (fun f => b (e ▸ f)) (fun f => by omega)), rfl⟩
        ⟨by rw [put_next]; omega, fun d hd => (d3 d hd).imp id (fun e => by omega), fun d hd hn1 hn2 => by
          rw [Heap.get_put, if_neg hn1, k3 d (by omega) hn2, x2.2 d (by omega), x1.2 d hd]⟩
      exact hq
    · have hl' : mo ≤ (xs.length : Int) := by omega
      simp only [hl', RX, VOp.fresh, bxC, bsC, un, most, callsOf, seval, Int.reducePow, ↓reduceIte, Nat.reduceEqDiff, reduceCtorEq]
      obtain ⟨_, rfl, hq⟩ := k1 hE hl h1 ⟨a, b, ⟨c1, c2⟩, e1, ver1, v1, gq, r, rfl⟩ x1
      exact hq
  · have hne : ¬ e = 0 := fun c => hE (he.1 c)
    simp only [hne, RX, VOp.fresh, bxC, bsC, un, most, callsOf, seval, Int.reducePow, ↓reduceIte, Nat.reduceEqDiff, reduceCtorEq]
    obtain ⟨_, rfl, hq⟩ := k0 (by simpa using hE) h1 q1 x1
    exact hq
theorem QRow.look (r : QRow K h v xs) {i : Nat} (hi : i < xs.length) : ∃ b cap e ver L, v = .sl b 0 xs.length cap 16 ∧ b < h.next ∧ h.get b = some (.cells L e ver) ∧ part true L (i * 16) 16 = some (.agg (K.C xs[i])) ∧ (∀ (hh : Heap) (kk : IntKind), iaV hh 16 none v (.int kk (i : Int)) = .val (.ptr b (i * 16)) hh) := by
  rcases r with ⟨rfl, rfl⟩ | ⟨b, cap, e, ver, z, rfl, hb, hg, hl, hz⟩
  · simp at hi
  · refine ⟨b, cap, e, ver, _, rfl, hb, hg, ?_, fun hh kk => ?_⟩
    · have e1 : xs = xs.take i ++ xs[i] :: xs.drop (i + 1) := by rw [List.getElem_cons_drop, List.take_append_drop]
      have e2 : K.row xs = K.row (xs.take i) ++ (K.C xs[i] ++ K.row (xs.drop (i + 1))) := by
        conv => lhs; rw [e1]
        rw [K.row_app, show xs[i] :: xs.drop (i + 1) = [xs[i]] ++ xs.drop (i + 1) from rfl, K.row_app, K.row_one]
      have l1 : (K.row (xs.take i)).length = i * 16 := by rw [K.row_len, List.length_take]; omega
      have l2 := K.len xs[i]
      have e3 : ((K.row xs ++ z).drop (i * 16)).take 16 = K.C xs[i] := by
        rw [e2, List.append_assoc, List.drop_left' l1, List.append_assoc, List.take_left' l2]
      rw [part_eq, e3, if_pos l2]
      rfl
    · have : 0 ≤ (i : Int) ∧ (i : Int) < (xs.length : Int) ∧ 16 = 16 := ⟨by omega, by omega, rfl⟩
      simp only [iaV, this, and_self, if_true, Int.toNat_natCast, Nat.zero_add]
theorem MsK.take_cl (K : MsK P α) (g : Pg P tab) (q : QS K h qb mo xs D) {i : Int} {Q : AV → Heap → Prop}
    (k0 : ¬ (0 ≤ i ∧ i < (xs.length : Int)) → ∀ h', QS K h' qb mo xs D → QF h h' qb D D → Q (.tup [.agg z16, .int .i64 1700]) h')
    (k1 : ∀ (j : Nat) (hj : j < xs.length), i = (j : Int) → ∀ h', QS K h' qb mo (xs.eraseIdx j) D → QF h h' qb D D → Q (.tup [.agg (K.C xs[j]), .int .i64 0]) h') : Cl P 37 [.ptr qb 0, .int .i64 i] h Q := by
  refine g.cl (vf := v37) rfl rfl ?_
  obtain ⟨a, b, ⟨c1, c2⟩, e1, ver1, v1, gq, r, rfl⟩ := q
  have hne : ¬ qb = h.next := by omega
  have hne' : ¬ h.next = qb := by omega
  have q0 : QS K h qb mo xs (blkOf v1) := ⟨a, b, ⟨c1, c2⟩, e1, ver1, v1, gq, r, rfl⟩
  by_cases i0 : i < 0
  · simp only [v37, HE, i0, RW, RX, VOp.fresh, bxC, bsC, un, most, callsOf, seval, Int.reducePow, ↓reduceIte, Nat.reduceEqDiff, reduceCtorEq]
    have x := Ext.new (h := h) (o := .cells z16 63 0) (o' := .cells z16 63 1)
    exact k0 (by omega) _ (q0.ext x) x.qf
  by_cases i1 : (xs.length : Int) ≤ i
  · simp only [v37, HE, i0, i1, hne, gq, r.len, RW, RX, VOp.fresh, bxC, bsC, un, most, callsOf, seval, Int.reducePow, ↓reduceIte, Nat.reduceEqDiff, reduceCtorEq]
    have x := Ext.new (h := h) (o := .cells z16 63 0) (o' := .cells z16 63 1)
    exact k0 (by omega) _ (q0.ext x) x.qf
  obtain ⟨j, rfl⟩ : ∃ j : Nat, i = (j : Int) := ⟨i.toNat, by omega⟩
  have hj : j < xs.length := by omega
  obtain ⟨bb, cap, e2, ver2, L, rfl, hb2, g2, hp, hia⟩ := r.look hj
  have hbq : ¬ qb = bb := fun e => b (by simp [blkOf, e])
  have w1 : IntKind.i64.wrap ((j : Int) + 1) = ((j + 1 : Nat) : Int) := by rw [w64 (by omega) (by omega)]; push_cast; rfl
  have hbn : ¬ bb = h.next := by omega
  have hbn1 : ¬ bb = h.next + 1 := by omega
  have hqn1 : ¬ qb = h.next + 1 := by omega
  have hqn2 : ¬ h.next + 1 = qb := by omega
  have lC := K.len xs[j]
  have oC := K.one xs[j]
  have tC : (K.C xs[j]).take 16 = K.C xs[j] := List.take_of_length_le (by omega)
  simp only [v37, HE, i0, i1, hne, hbn, hbn1, hqn1, gq, g2, hp, hia, r.len, lC, oC, w1, HN, RW, RX, VOp.fresh, bxC, bsC, un, most, callsOf, seval, Int.reducePow, ↓reduceIte, Nat.reduceEqDiff, reduceCtorEq]
  have x := Ext.mk (h := h) (.cells z16 63 0)
  have nx : (h.mk' h.next (.cells z16 63 0)).next = h.next + 1 := by rw [mk_next]; omega
  have x2 := Ext.new (h := h.mk' h.next (.cells z16 63 0)) (o := .cells z16 63 0) (o' := .cells (K.C xs[j]) 63 1)
  rw [nx] at x2
  have xx := x.trans x2
  have nn : (((h.mk' h.next (.cells z16 63 0)).mk' (h.next + 1) (.cells z16 63 0)).put (h.next + 1) (.cells (K.C xs[j]) 63 1)).next = h.next + 2 := by
    have := new_next (h := h.mk' h.next (.cells z16 63 0)) (o := .cells z16 63 0) (o' := .cells (K.C xs[j]) 63 1)
    rw [nx] at this
    omega
  have gz : (((h.mk' h.next (.cells z16 63 0)).mk' (h.next + 1) (.cells z16 63 0)).put (h.next + 1) (.cells (K.C xs[j]) 63 1)).get h.next = some (.cells z16 63 0) := by
    rw [Heap.get_put, if_neg (by omega), Heap.get_mk, if_neg (by omega), Heap.get_mk, if_pos rfl]
  have gm : (((h.mk' h.next (.cells z16 63 0)).mk' (h.next + 1) (.cells z16 63 0)).put (h.next + 1) (.cells (K.C xs[j]) 63 1)).get (h.next + 1) = some (.cells (K.C xs[j]) 63 1) := by
    rw [Heap.get_put, if_pos rfl]
  have q2 := q0.ext xx
  rw [List.append_nil]
  generalize ((h.mk' h.next (.cells z16 63 0)).mk' (h.next + 1) (.cells z16 63 0)).put (h.next + 1) (.cells (K.C xs[j]) 63 1) = h2 at *
  obtain ⟨_, _, _, e3, ver3, v3, gq3, r3, _⟩ := q2
  obtain rfl : v3 = .sl bb 0 xs.length cap 16 := by
    have := (xx.2 qb a).trans gq
    rw [gq3] at this
    simp only [Option.some.injEq, Blk.cells.injEq, List.cons.injEq, and_true, true_and] at this
    exact this.1
  rcases id r3 with ⟨h0, _⟩ | ⟨b', cap', e4, ver4, z, ev, hb4, g4, hl4, hz4⟩
  · cases h0
  cases ev
  refine K.del_cl g hj (by omega) hb4 g4 hl4 fun h3 v5 n3 k3 g3 => ?_
  have gq4 := (k3 qb hbq).trans gq3
  have gz4 := (k3 h.next (by omega)).trans gz
  have gm4 := (k3 (h.next + 1) (by omega)).trans gm
  simp only [gq4, gz4, gm4, lC, oC, tC, hne, hqn1, hqn2, hne', HN, List.append_nil, RW, RX, VOp.fresh, bxC, bsC, un, most, callsOf, seval, Int.reducePow, ↓reduceIte, Nat.reduceEqDiff, reduceCtorEq]
  refine k1 j hj rfl _ ?_ ?_
  · refine ⟨by rw [put_next, put_next]; omega, b, ⟨by rw [List.length_eraseIdx_of_lt hj]; omega, c2⟩, e3, ver3 + 1, .sl bb 0 (xs.length - 1) cap 16, ?_, .inr ⟨bb, cap, e4, v5, z16 ++ z, ?_, by rw [put_next, put_next]; omega, ?_, ?_, ?_⟩, rfl⟩
    · rw [Heap.get_put, if_neg hne, Heap.get_put, if_pos rfl]
    · rw [List.length_eraseIdx_of_lt hj]
    · rw [Heap.get_put, if_neg hbn, Heap.get_put, if_neg (fun e => hbq e.symm), g3]
    · rw [List.length_append, List.length_eraseIdx_of_lt hj, show z16.length = 16 from rfl]; omega
    · rw [List.all_append, hz4]; rfl
  · refine ⟨by rw [put_next, put_next]; omega, fun c hc => .inl hc, fun c hc h1 h2 => ?_⟩
    simp only [blkOf, List.mem_singleton] at h2
    rw [Heap.get_put, if_neg (by omega), Heap.get_put, if_neg h1, k3 c h2]
    exact xx.2 c hc
theorem MsK.copy_cl (K : MsK P α) (g : Pg P tab) (q : QS K h qb mo xs D) {i : Int} {Q : AV → Heap → Prop}
    (k0 : ¬ (0 ≤ i ∧ i < (xs.length : Int)) → ∀ h', QS K h' qb mo xs D → QF h h' qb D D → ∃ e, e = 1700 ∧ Q (.int .i64 e) h')
    (k1 : ∀ (j : Nat) (hj : j < xs.length), i = (j : Int) → K.E xs[j] = true → ¬ (xs.length : Int) < mo → ∀ h', QS K h' qb mo xs D → QF h h' qb D D → ∃ e, e = 1701 ∧ Q (.int .i64 e) h')
    (k2 : ∀ (j : Nat) (hj : j < xs.length), i = (j : Int) → K.E xs[j] = true → (xs.length : Int) < mo → ∀ h' y D', K.R xs[j] y → QS K h' qb mo (xs ++ [y]) D' → QF h h' qb D D' → ∃ e, e = 0 ∧ Q (.int .i64 e) h')
    (hE : ∀ x ∈ xs, K.E x = true) : Cl P 39 [.ptr qb 0, .int .i64 i] h Q := by
  refine g.cl (vf := v39) rfl rfl ?_
  obtain ⟨a, b, ⟨c1, c2⟩, e1, ver1, v1, gq, r, rfl⟩ := q
  have q0 : QS K h qb mo xs (blkOf v1) := ⟨a, b, ⟨c1, c2⟩, e1, ver1, v1, gq, r, rfl⟩
  by_cases i0 : i < 0
  · simp only [v39, HE, i0, RW, RX, VOp.fresh, bxC, bsC, un, most, callsOf, seval, Int.reducePow, ↓reduceIte, Nat.reduceEqDiff, reduceCtorEq]
    obtain ⟨_, rfl, hq⟩ := k0 (by omega) _ q0 QF.refl
    exact hq
  by_cases i1 : (xs.length : Int) ≤ i
  · simp only [v39, HE, i0, i1, gq, r.len, RW, RX, VOp.fresh, bxC, bsC, un, most, callsOf, seval, Int.reducePow, ↓reduceIte, Nat.reduceEqDiff, reduceCtorEq]
    obtain ⟨_, rfl, hq⟩ := k0 (by omega) _ q0 QF.refl
    exact hq
  obtain ⟨j, rfl⟩ : ∃ j : Nat, i = (j : Int) := ⟨i.toNat, by omega⟩
  have hj : j < xs.length := by omega
  obtain ⟨bb, cap, e2, ver2, L, rfl, hb2, g2, hp, hia⟩ := r.look hj
  have hEj := hE _ (List.getElem_mem hj)
  simp only [v39, HE, i0, i1, gq, g2, hp, hia, r.len, RX, VOp.fresh, bxC, bsC, un, most, callsOf, seval, Int.reducePow, ↓reduceIte, Nat.reduceEqDiff, reduceCtorEq]
  refine K.send_cl g q0 (fun _ _ => Fzs.refl (K.told xs[j])) (K.len _) (K.one _) (fun c => by rw [hEj] at c; cases c) (fun _ hl h' q' x' => ?_) (fun _ hl h' y D' hy q' f' => ?_)
  · obtain ⟨_, rfl, hq⟩ := k1 j hj rfl hEj hl h' q' x'.qf
    refine ⟨_, rfl, ?_⟩
    simp only [RX, VOp.fresh, bxC, bsC, un, most, callsOf, seval, Int.reducePow, ↓reduceIte, Nat.reduceEqDiff, reduceCtorEq]
    exact hq
  · obtain ⟨_, rfl, hq⟩ := k2 j hj rfl hEj hl h' y D' hy q' f'
    refine ⟨_, rfl, ?_⟩
    simp only [RX, VOp.fresh, bxC, bsC, un, most, callsOf, seval, Int.reducePow, ↓reduceIte, Nat.reduceEqDiff, reduceCtorEq]
    exact hq
end
end Go.Proofs.Ytinonmcnofjeeaa.VM
namespace Go.Proofs.Ytinonmcnofjeeaa.VM
attribute [local irreducible] Af Nx EvO Ev Un Gd Cd EvR EvQ EvC Nc Gc Lp EvM NxM AfM GdM EvMR EvMQ EvMD EvMC Nm Gm
def nm (m : Ms) : Ms := ⟨m.kind, m.frm, m.to, m.node, m.seq, m.base, m.yes, m.query, m.applied, m.busy, m.box, [], []⟩
section
variable {P : Program}
theorem awake17_pu (g : Pg P tab) : Pu P 34 [] (fun v => v = .bool true) := g.run (n := 400) (by kernel_rfl)
end
end Go.Proofs.Ytinonmcnofjeeaa.VM
namespace Go.Proofs.Ytinonmcnofjeeaa.VM
attribute [local irreducible] Af Nx EvO Ev Un Gd Cd EvR EvQ EvC Nc Gc Lp EvM NxM AfM GdM EvMR EvMQ EvMD EvMC Nm Gm
section
variable {P : Program}
theorem clonePts_cl (g : Pg P tab) {r : List Pt} {w : AV} (hw : IsL 16 RPt w r) {h : Heap} {Q : AV → Heap → Prop}
    (q : ∀ v t h', Lv h' (h.next ≤ ·) v t → IsL 16 RPt t r → v.cells = some [v] → v.one = true → Ext h h' → Q v h') : Cl P 124 [w] h Q := by
  refine g.cl (vf := v124) rfl rfl ?_
  have hx := hw
  obtain ⟨hb, ⟨rfl, hl⟩ | ⟨c, rfl, hc⟩⟩ := hw
  · have e : eqv .sl .nils .nils = some true := rfl
    simp only [v124, HE, e, RX, VOp.fresh, bxC, bsC, un, most, callsOf, seval, Int.reducePow, ↓reduceIte, Nat.reduceEqDiff, reduceCtorEq]
    exact q .nils .nils _ .nils ⟨hb, .inl ⟨rfl, hl⟩⟩ rfl rfl (Ext.refl h)
  · have e : eqv .sl (.rs c r.length) .nils = some false := rfl
    have x1 := Ext.mk (h := h) (.cells [] 48 0)
    have n1 : (h.mk' h.next (.cells [] 48 0)).next = h.next + 1 := by rw [mk_next]; omega
    obtain ⟨v, h', t, a1, a2, a3, a4, a5, a6, a7⟩ := app_copy (bytes := 16) plainPt hx (h := h.mk' h.next (.cells [] 48 0)) (b := h.next) (by rw [Heap.get_mk, if_pos rfl]) 48
    rw [n1] at a2 a3 a4
    simp only [v124, HE, e, a1, RX, VOp.fresh, bxC, bsC, un, most, callsOf, seval, Int.reducePow, ↓reduceIte, Nat.reduceEqDiff, reduceCtorEq]
    exact q v t h' (a4.weak fun c hc _ => by omega) a5 a6 a7 ⟨by omega, fun b hb => (a3 b (by omega) (by omega)).trans (x1.2 b hb)⟩
theorem fcopy_loop (g : Pg P tab) {rs : List (List Pt)} {w : AV} (hw : IsL 24 RRing w rs) {R : Nat} (n : Nat) :
    ∀ (i : Nat) (A U : List AV) (s : T AV) (h : Heap) (k : List Fr) (Q : Ex → T AV → Heap → Prop), i + n = rs.length → R < h.next → (∃ e ver, h.get R = some (.cells (A ++ List.replicate n .nils) e ver)) → A.length = i → A.all AV.one = true → Lvs h (R < ·) A U → Cat RRing (rs.take i) U →
    sg s 3 = .sl R 0 rs.length rs.length 1 → sg s 11 = w → sg s 12 = .int .i64 rs.length → sg s 13 = .int .i64 i →
    (∀ s' h' A' U', (∃ e ver, h'.get R = some (.cells A' e ver)) → A'.length = rs.length → A'.all AV.one = true → Lvs h' (R < ·) A' U' → Cat RRing rs U' → (∀ b, b < h.next → b ≠ R → h'.get b = h.get b) → h.next ≤ h'.next → (∀ j, j < 4 → sg s' j = sg s j) → Un P k Q (.exit 0) s' h') → Lp P b117_0 s h (Un P k Q) := by
  have hbd := hw.bound (by decide)
  induction n with
  | zero =>
    intro i A U s h k Q hi hR ⟨e, ver, hg⟩ hA ho lv hc t3 t11 t12 t13 hQ
    refine g.lpe b117_0.eq_1 ?_
    have c1 : ¬ ((i : Int) < (rs.length : Int)) := by omega
    simp only [t3, t11, t12, t13, c1, RX, VOp.fresh, bxC, bsC, un, most, callsOf, seval, Int.reducePow, ↓reduceIte, Nat.reduceEqDiff, reduceCtorEq]
    have hi' : i = rs.length := by omega
    subst hi'
    rw [List.take_length] at hc
    rw [List.replicate_zero, List.append_nil] at hg
    exact hQ _ _ A U ⟨e, ver, hg⟩ hA ho lv hc (fun _ _ _ => rfl) (Nat.le_refl _) fun j hj => by simp only [sg_set]; repeat rw [if_neg (by omega)]
  | succ n ih =>
    intro i A U s h k Q hi hR ⟨e, ver, hg⟩ hA ho lv hc t3 t11 t12 t13 hQ
    refine g.lpe b117_0.eq_1 ?_
    have c1 : ((i : Int) < (rs.length : Int)) := by omega
    have w1 : IntKind.i64.wrap ((i : Int) + 1) = ((i + 1 : Nat) : Int) := by rw [w64 (by omega) (by omega)]; push_cast; rfl
    obtain ⟨ci, rr, ⟨va, rfl, hr⟩, hat⟩ := hw.at (fun a c ⟨v, e, _⟩ => by rw [e]; rfl) i (by omega)
    simp only [t3, t11, t12, t13, c1, hat, RX, VOp.fresh, bxC, bsC, un, most, callsOf, seval, Int.reducePow, ↓reduceIte, Nat.reduceEqDiff, reduceCtorEq]
    refine clonePts_cl g hr fun v t h1 lv1 is1 cl1 on1 x1 => ?_
    have hg1 := (x1.2 R hR).trans hg
    have hia : ∀ (hh : Heap) (q : IntKind), iaV hh 1 none (.sl R 0 rs.length rs.length 1) (.int q (i : Int)) = .val (.ptr R i) hh := fun hh q => by
      have : 0 ≤ (i : Int) ∧ (i : Int) < (rs.length : Int) ∧ 1 = 1 := ⟨by omega, by omega, rfl⟩
      simp only [iaV, this, and_self, if_true, Int.toNat_natCast, Nat.zero_add, Nat.mul_one]
    have hwr := wr_at hg1 (show i < (A ++ List.replicate (n + 1) AV.nils).length by rw [List.length_append, hA, List.length_replicate]; omega) on1
    have hset : (A ++ List.replicate (n + 1) AV.nils).set i v = (A ++ [v]) ++ List.replicate n AV.nils := by
      rw [List.set_append, if_neg (by omega), hA, Nat.sub_self, List.replicate_succ, List.set_cons_zero, List.append_assoc]; rfl
    rw [hset] at hwr
    have kp : ∀ c, c ≠ R → (h1.put R (.cells ((A ++ [v]) ++ List.replicate n AV.nils) e (ver + 1))).get c = h1.get c := fun c hc => by rw [Heap.get_put, if_neg hc]
    simp only [t3, t11, t12, t13, hia, hwr, cl1, w1, RW, RX, VOp.fresh, bxC, bsC, un, most, callsOf, seval, Int.reducePow, ↓reduceIte, Nat.reduceEqDiff, reduceCtorEq]
    refine ih (i + 1) (A ++ [v]) (U ++ [t]) _ _ k Q (by omega) (by rw [put_next]; exact Nat.lt_of_lt_of_le hR x1.1) ⟨e, ver + 1, by rw [Heap.get_put, if_pos rfl]⟩ (by rw [List.length_append, hA]; rfl) (by rw [List.all_append, ho]; simp [on1]) ?_ (hc.take (by omega) ⟨t, rfl, is1⟩) ?_ ?_ ?_ ?_ fun s' h' A' U' q1 q2 q3 q4 q5 q6 q7 q8 => ?_
    · have l1 : Lvs h1 (R < ·) (A ++ [v]) (U ++ [t]) := (lv.frame x1.1 fun b _ hb => x1.2 b hb).app (.cons (lv1.weak fun b hb _ => by omega) .nil)
      exact l1.frame (by rw [put_next]; exact Nat.le_refl _) fun b hb _ => kp b (by omega)
    · simp only [t3, sg_set, Nat.reduceEqDiff, ↓reduceIte]
    · simp only [t11, sg_set, Nat.reduceEqDiff, ↓reduceIte]
    · simp only [t12, sg_set, Nat.reduceEqDiff, ↓reduceIte]
    · simp only [sg_set, Nat.reduceEqDiff, ↓reduceIte]
    · refine hQ s' h' A' U' q1 q2 q3 q4 q5 (fun b hb hne => ?_) (by rw [put_next] at q7; exact Nat.le_trans x1.1 q7) fun j hj => ?_
      · rw [q6 b (by rw [put_next]; exact Nat.lt_of_lt_of_le hb x1.1) hne, kp b hne]; exact x1.2 b hb
      · rw [q8 j hj]; simp only [sg_set]; repeat rw [if_neg (by omega)]
theorem fcopy_cl (g : Pg P tab) {f : Feat} {c : List AV} (hf : RFeat f c) {h : Heap} {Q : AV → Heap → Prop}
    (q : ∀ c' t h', Lvs h' (h.next ≤ ·) c' t → RFeat f t → c'.length = 3 → c'.all AV.one = true → Ext h h' → Q (.agg c') h') : Cl P 117 [.agg c] h Q := by
  obtain ⟨w, rfl, h1, h2, hw⟩ := hf
  refine g.cl (vf := v117) rfl rfl ?_
  have hbd := hw.bound (by decide)
  have mS : ∀ (H : Heap) (nm : Nat), mkS H nm [.nils] 49 24 (.int .i64 (f.rings.length : Int)) (.int .i64 (f.rings.length : Int)) = .val (.sl nm 0 f.rings.length f.rings.length 1) (H.mk' nm (.cells (List.replicate f.rings.length .nils) 49 0)) := fun H nm => by
    have := hw.1
    rw [reach_eq] at this
    rw [mkS_ok (by omega) (by rw [Int.toNat_natCast]; omega) (by rw [Int.toNat_natCast]; omega), Int.toNat_natCast]
    have : (List.replicate f.rings.length [AV.nils]).flatten = List.replicate f.rings.length AV.nils := by simp
    rw [this]; rfl
  have ow := isL_one hw
  simp only [v117, HN, hw.len, mS, RW, RX, VOp.fresh, bxC, bsC, un, most, callsOf, seval, Int.reducePow, ↓reduceIte, Nat.reduceEqDiff, reduceCtorEq]
  have g0 : ∀ (X : Blk), (((h.mk' h.next (.cells [.int .i64 f.id, .int .i64 f.shape, w] 52 0)).mk' (h.next + 1) (.cells [.int .i64 0, .int .i64 0, .nils] 52 0)).mk' (h.next + 2) X).get h.next = some (.cells [.int .i64 f.id, .int .i64 f.shape, w] 52 0) := fun X => by
    rw [Heap.get_mk, if_neg (by omega), Heap.get_mk, if_neg (by omega), Heap.get_mk, if_pos rfl]
  have g1 : ∀ (X : Blk), (((h.mk' h.next (.cells [.int .i64 f.id, .int .i64 f.shape, w] 52 0)).mk' (h.next + 1) (.cells [.int .i64 0, .int .i64 0, .nils] 52 0)).mk' (h.next + 2) X).get (h.next + 1) = some (.cells [.int .i64 0, .int .i64 0, .nils] 52 0) := fun X => by
    rw [Heap.get_mk, if_neg (by omega), Heap.get_mk, if_pos rfl]
  have g2 : ∀ (X : Blk), (((h.mk' h.next (.cells [.int .i64 f.id, .int .i64 f.shape, w] 52 0)).mk' (h.next + 1) (.cells [.int .i64 0, .int .i64 0, .nils] 52 0)).mk' (h.next + 2) X).get (h.next + 2) = some X := fun X => by
    rw [Heap.get_mk, if_pos rfl]
  have n0 : ∀ (X : Blk), (((h.mk' h.next (.cells [.int .i64 f.id, .int .i64 f.shape, w] 52 0)).mk' (h.next + 1) (.cells [.int .i64 0, .int .i64 0, .nils] 52 0)).mk' (h.next + 2) X).next = h.next + 3 := fun X => by rw [mk_next, mk_next, mk_next]; omega
  have x0 : ∀ (X : Blk), Ext h (((h.mk' h.next (.cells [.int .i64 f.id, .int .i64 f.shape, w] 52 0)).mk' (h.next + 1) (.cells [.int .i64 0, .int .i64 0, .nils] 52 0)).mk' (h.next + 2) X) := fun X => ((Ext.refl h).mkn (Nat.le_refl _) _ |>.mkn (by omega) _).mkn (by omega) _
  have g0' := g0 (.cells (List.replicate f.rings.length .nils) 49 0)
  have g1' := g1 (.cells (List.replicate f.rings.length .nils) 49 0)
  have g2' := g2 (.cells (List.replicate f.rings.length .nils) 49 0)
  have n0' := n0 (.cells (List.replicate f.rings.length .nils) 49 0)
  have x0' := x0 (.cells (List.replicate f.rings.length .nils) 49 0)
  generalize ((h.mk' h.next (.cells [.int .i64 f.id, .int .i64 f.shape, w] 52 0)).mk' (h.next + 1) (.cells [.int .i64 0, .int .i64 0, .nils] 52 0)).mk' (h.next + 2) (.cells (List.replicate f.rings.length .nils) 49 0) = H at *
  clear g0 g1 g2 n0 x0
  refine fcopy_loop g hw (R := h.next + 2) f.rings.length 0 [] [] _ H _ _ (by omega) (by omega) ⟨49, 0, g2'⟩ rfl rfl .nil .nil ?_ ?_ ?_ ?_ fun s' h' A U ⟨e, ver, hA⟩ hl ho lv hc kp hn ks => ?_
  · simp only [sg_set, Nat.reduceEqDiff, ↓reduceIte]
  · simp only [sg_set, Nat.reduceEqDiff, ↓reduceIte]
  · simp only [sg_set, Nat.reduceEqDiff, ↓reduceIte]
  · simp only [sg_set, Nat.reduceEqDiff, ↓reduceIte]
    rfl
  have t1 : sg s' 1 = .ptr h.next 0 := (ks 1 (by decide)).trans (by simp only [sg_set, Nat.reduceEqDiff, ↓reduceIte])
  have t2 : sg s' 2 = .ptr (h.next + 1) 0 := (ks 2 (by decide)).trans (by simp only [sg_set, Nat.reduceEqDiff, ↓reduceIte])
  have t3 : sg s' 3 = .sl (h.next + 2) 0 f.rings.length f.rings.length 1 := (ks 3 (by decide)).trans (by simp only [sg_set, Nat.reduceEqDiff, ↓reduceIte])
  have gb := (kp h.next (by omega) (by omega)).trans g0'
  have gc := (kp (h.next + 1) (by omega) (by omega)).trans g1'
  simp only [t1, t2, t3, gb, gc, HN, RW, RX, VOp.fresh, bxC, bsC, un, most, callsOf, seval, Int.reducePow, ↓reduceIte, Nat.reduceEqDiff, reduceCtorEq]
  obtain ⟨tv, lr, ir⟩ : ∃ tv, Lv h' (h.next + 2 ≤ ·) (.sl (h.next + 2) 0 f.rings.length f.rings.length 1) tv ∧ IsL 24 RRing tv f.rings := by
    by_cases z : f.rings.length = 0
    · have z' : f.rings = [] := List.eq_nil_of_length_eq_zero z
      rw [z]
      exact ⟨.rs [] 0, ⟨[], .sl0, rfl, Own.nil, fun b hb => by simp at hb⟩, hw.1, .inr ⟨[], by rw [z], by rw [z']; exact .nil⟩⟩
    · refine ⟨.rs U f.rings.length, ?_, hw.1, .inr ⟨U, rfl, hc⟩⟩
      have := LR.lv (h := h') (B := (h.next + 2 ≤ ·)) (v := .sl (h.next + 2) 0 f.rings.length f.rings.length 1) (sz := 1) (t := U) (n := f.rings.length) ⟨A, .inr ⟨_, e, ver, rfl, by omega, by omega, by rw [hl, Nat.mul_one], hA⟩, lv.weak fun b hb _ => ⟨by omega, by simp [blkOf]; omega⟩, fun b hb => by simp [blkOf] at hb; omega⟩
      rwa [cRow_s _ (by omega)] at this
  refine q [.int .i64 f.id, .int .i64 f.shape, .sl (h.next + 2) 0 f.rings.length f.rings.length 1] [.int .i64 f.id, .int .i64 f.shape, tv] _ (((Lvs.cons .int (.cons .int (.cons lr .nil))).put (by omega) _ |>.put (by omega) _).weak fun c hc _ => by omega) ⟨tv, rfl, h1, h2, ir⟩ rfl rfl ⟨by simp only [put_next]; omega, fun b hb => ?_⟩
  rw [Heap.get_put, if_neg (by omega), Heap.get_put, if_neg (by omega), kp b (by omega) (by omega)]
  exact x0'.2 b hb
end
end Go.Proofs.Ytinonmcnofjeeaa.VM
namespace Go.Proofs.Ytinonmcnofjeeaa.VM
attribute [local irreducible] Af Nx EvO Ev Un Gd Cd EvR EvQ EvC Nc Gc Lp EvM NxM AfM GdM EvMR EvMQ EvMD EvMC Nm Gm
/-- bare, or an empty row that was told -/
def AV.nre (x : AV) : Bool := x.bare || (match x with | .rs [] 0 => true | _ => false)
theorem nre_bare {x : AV} (h : x.bare = true) : x.nre = true := by unfold AV.nre; rw [h]; rfl
theorem nres_bares {l : List AV} (h : AV.bares l = true) : l.all AV.nre = true := List.all_eq_true.2 fun x hx => nre_bare (bares_mem h hx)
def OwnE (h : Heap) (D : List Nat) : Prop := ∀ b ∈ D, ∃ l e ver, h.get b = some (.cells l e ver) ∧ l.all AV.nre = true
theorem Own.e {h : Heap} {D : List Nat} (o : Own h D) : OwnE h D := fun b hb => let ⟨l, e, ver, h1, h2⟩ := o b hb; ⟨l, e, ver, h1, nres_bares h2⟩
theorem OwnE.frame {h h' : Heap} {D : List Nat} (o : OwnE h D) (k : ∀ b ∈ D, h'.get b = h.get b) : OwnE h' D := fun b hb => let ⟨l, e, ver, h1, h2⟩ := o b hb; ⟨l, e, ver, (k b hb).trans h1, h2⟩
theorem OwnE.app {h : Heap} {D E : List Nat} (o : OwnE h D) (p : OwnE h E) : OwnE h (D ++ E) := fun b hb => (List.mem_append.1 hb).elim (o b) (p b)
theorem nre_cut {l cs : List AV} {i n : Nat} (h : l.all AV.nre = true) (hc : cut l i n = some cs) : cs.all AV.nre = true := by
  rw [cut_eq] at hc
  split at hc
  · cases hc
    exact List.all_eq_true.2 fun x hx => List.all_eq_true.1 h x (List.mem_of_mem_drop (List.mem_of_mem_take hx))
  · cases hc
mutual
theorem Fz.reflB {h : Heap} : ∀ {x : AV}, x.told = true → x.bare = true → Fz false h x x
  | .undef, _, _ => .undef
  | .bool b, _, _ => .bool b
  | .int k n, _, _ => .int k n
  | .str s, _, _ => .str s
  | .ptr _ _, e, _ => by simp [AV.told] at e
  | .nilp, _, _ => .nilp
  | .sl .., e, _ => by simp [AV.told] at e
  | .nils, _, _ => .nils
  | .map _, e, _ => by simp [AV.told] at e
  | .nilm, _, _ => .nilm
  | .fn f l, _, e => by simp [AV.bare] at e
  | .nilf, _, _ => .nilf
  | .agg l, e, f => .agg (Fzs.reflB (by simpa [AV.told] using e) (by simpa [AV.bare] using f))
  | .tup l, e, f => .tup (Fzs.reflB (by simpa [AV.told] using e) (by simpa [AV.bare] using f))
  | .rs l n, _, e => by simp [AV.bare] at e
  | .rp l, _, e => by simp [AV.bare] at e
  | .yld _, e, _ => by simp [AV.told] at e
theorem Fzs.reflB {h : Heap} : ∀ {l : List AV}, AV.tolds l = true → AV.bares l = true → Fzs false h l l
  | [], _, _ => .nil
  | x :: l, e, f => by
    simp only [AV.tolds, AV.bares, Bool.and_eq_true] at e f
    exact .cons (Fz.reflB e.1 f.1) (Fzs.reflB e.2 f.2)
end
theorem nre_cases {x : AV} (e : x.nre = true) : x.bare = true ∨ x = .rs [] 0 := by
  unfold AV.nre at e
  rcases Bool.or_eq_true_iff.1 e with e | e
  · exact .inl e
  · split at e
    · exact .inr rfl
    · cases e
mutual
theorem Fd.fzf {h : Heap} : ∀ {x y : AV} {D : List Nat}, Fd h x y D → x.nre = true → OwnE h D → Fz false h x y
  | x, _, _, .told hx, e, _ => by
    rcases nre_cases e with e | rfl
    · exact Fz.reflB hx e
    · exact .rs0
  | _, _, _, .sl hl _ hg hc t, _, o => by
    obtain ⟨l', e', ver', h1, h2⟩ := o _ List.mem_cons_self
    rw [hg] at h1
    cases h1
    exact .sl hl hg hc (Fds.fzfs t (nre_cut h2 hc) fun b hb => o b (List.mem_cons_of_mem _ hb))
  | _, _, _, .sl0, _, _ => .sl0
  | _, _, _, .ptr _ hg t, _, o => by
    obtain ⟨l', e', ver', h1, h2⟩ := o _ List.mem_cons_self
    rw [hg] at h1
    cases h1
    exact .ptr hg (Fds.fzfs t (List.all_eq_true.2 fun x hx => List.all_eq_true.1 h2 x (List.mem_of_mem_drop hx)) fun b hb => o b (List.mem_cons_of_mem _ hb))
  | _, _, _, .agg t, e, o => .agg (Fds.fzfs t (nres_bares (by rcases nre_cases e with e | e; simpa [AV.bare] using e; cases e)) o)
  | _, _, _, .tup t, e, o => .tup (Fds.fzfs t (nres_bares (by rcases nre_cases e with e | e; simpa [AV.bare] using e; cases e)) o)
theorem Fds.fzfs {h : Heap} : ∀ {x y : List AV} {D : List Nat}, Fds h x y D → x.all AV.nre = true → OwnE h D → Fzs false h x y
  | _, _, _, .nil, _, _ => .nil
  | _, _, _, .cons f t, e, o => by
    simp only [List.all_cons, Bool.and_eq_true] at e
    exact .cons (Fd.fzf f e.1 fun b hb => o b (List.mem_append_left _ hb)) (Fds.fzfs t e.2 fun b hb => o b (List.mem_append_right _ hb))
end
def Lw (h : Heap) (B : Nat → Prop) (x y : AV) : Prop := ∃ D, Fd h x y D ∧ x.nre = true ∧ OwnE h D ∧ ∀ b ∈ D, B b
def Lws (h : Heap) (B : Nat → Prop) (x y : List AV) : Prop := ∃ D, Fds h x y D ∧ x.all AV.nre = true ∧ OwnE h D ∧ ∀ b ∈ D, B b
section
variable {h h' : Heap} {B B' : Nat → Prop}
theorem Lv.lw {x y : AV} (a : Lv h B x y) : Lw h B x y := let ⟨D, f, n, o, i⟩ := a; ⟨D, f, nre_bare n, o.e, i⟩
theorem Lvs.lw {x y : List AV} (a : Lvs h B x y) : Lws h B x y := let ⟨D, f, n, o, i⟩ := a; ⟨D, f, nres_bares n, o.e, i⟩
theorem Lw.frame {x y : AV} (l : Lw h B x y) (hn : h.next ≤ h'.next) (k : ∀ b, B b → b < h.next → h'.get b = h.get b) : Lw h' B x y := let ⟨D, f, n, o, i⟩ := l; ⟨D, f.frame hn fun b hb => k b (i b hb) (f.lt b hb), n, o.frame fun b hb => k b (i b hb) (f.lt b hb), i⟩
theorem Lws.frame {x y : List AV} (l : Lws h B x y) (hn : h.next ≤ h'.next) (k : ∀ b, B b → b < h.next → h'.get b = h.get b) : Lws h' B x y := let ⟨D, f, n, o, i⟩ := l; ⟨D, f.frame hn fun b hb => k b (i b hb) (f.lt b hb), n, o.frame fun b hb => k b (i b hb) (f.lt b hb), i⟩
theorem Lw.weak {x y : AV} (l : Lw h B x y) (k : ∀ b, B b → b < h.next → B' b) : Lw h B' x y := let ⟨D, f, n, o, i⟩ := l; ⟨D, f, n, o, fun b hb => k b (i b hb) (f.lt b hb)⟩
theorem Lws.weak {x y : List AV} (l : Lws h B x y) (k : ∀ b, B b → b < h.next → B' b) : Lws h B' x y := let ⟨D, f, n, o, i⟩ := l; ⟨D, f, n, o, fun b hb => k b (i b hb) (f.lt b hb)⟩
theorem Lws.nil : Lws h B [] [] := ⟨[], .nil, rfl, fun b hb => by simp at hb, fun b hb => by simp at hb⟩
theorem Lws.cons {x y : AV} {l k : List AV} (a : Lw h B x y) (t : Lws h B l k) : Lws h B (x :: l) (y :: k) := by
  obtain ⟨D, f, n, o, i⟩ := a
  obtain ⟨E, f', n', o', i'⟩ := t
  exact ⟨D ++ E, .cons f f', by rw [List.all_cons, n, n']; rfl, o.app o', fun c hc => (List.mem_append.1 hc).elim (i c) (i' c)⟩
theorem Lws.app {l k l' k' : List AV} (a : Lws h B l k) (t : Lws h B l' k') : Lws h B (l ++ l') (k ++ k') := by
  obtain ⟨D, f, n, o, i⟩ := a
  obtain ⟨E, f', n', o', i'⟩ := t
  exact ⟨D ++ E, f.app f', by rw [List.all_append, n, n']; rfl, o.app o', fun c hc => (List.mem_append.1 hc).elim (i c) (i' c)⟩
theorem Lw.told {x : AV} (a : x.told = true) (n : x.nre = true) : Lw h B x x := ⟨[], .told a, n, fun c hc => by simp at hc, fun c hc => by simp at hc⟩
theorem Lw.fz {x y : AV} (l : Lw h B x y) : Fz true h x y := let ⟨_, f, _⟩ := l; f.fz
theorem Lws.fzs {x y : List AV} (l : Lws h B x y) : Fzs true h x y := let ⟨_, f, _⟩ := l; f.fzs
theorem Lw.fzf {x y : AV} (l : Lw h B x y) : Fz false h x y := let ⟨_, f, n, o, _⟩ := l; f.fzf n o
theorem Lws.fzfs {x y : List AV} (l : Lws h B x y) : Fzs false h x y := let ⟨_, f, n, o, _⟩ := l; f.fzfs n o
theorem Lws.length {x y : List AV} (l : Lws h B x y) : y.length = x.length := let ⟨_, f, _⟩ := l; f.length
theorem Lv.emp {x : AV} {c : List AV} (a : Lv h B x (.rs c 0)) : Emp x := by
  obtain ⟨D, f, hb, _⟩ := a
  cases f with
  | told hx => cases hb
  | sl hl => omega
  | sl0 => exact .inr (.inr ⟨_, _, _, _, rfl⟩)
theorem IsL.most {α : Type} {b : Nat} {R : α → List AV → Prop} {v : AV} {l : List α} (h : IsL b R v l) (hb : 0 < b) : l.length ≤ most3 := by
  have := h.bound hb
  unfold most3
  omega
theorem LInts.ofIs {x v : AV} {l : List Int} (a : Lv h B x v) (hi : IsL 8 RInt v l) : LInts h B x := by
  have hm := hi.most (by decide)
  rcases hi.2 with ⟨rfl, rfl⟩ | ⟨c, rfl, hc⟩
  · exact .inl (.inl a.nils_inv)
  · by_cases h0 : l.length = 0
    · rw [h0] at a
      exact .inl a.emp
    · rw [← cRow_s c (by omega)] at a
      obtain ⟨b, off, cap, rfl, hB, hb, hg⟩ := a.row_inv (z := 1) (by omega) (Cat.length zInt hc)
      refine .inr ⟨b, off, l.length, cap, rfl, hm, hB, hb, fun i hi => ?_⟩
      obtain ⟨ci, rr, ed, rfl, _⟩ := hc.at zInt i hi
      have e : c[i]? = some (.int .i64 l[i]) := by
        have : (c.drop (i * 1))[0]? = some (.int .i64 l[i]) := by rw [ed]; rfl
        rwa [List.getElem?_drop, Nat.add_zero, Nat.mul_one] at this
      obtain ⟨y, ay, ly⟩ := hg _ _ e
      rw [ly.int_inv] at ay
      exact ⟨_, ay⟩
theorem LPts.ofIs {x v : AV} {r : List Pt} (a : Lv h B x v) (hi : IsL 16 RPt v r) : LPts h B x := by
  have hm := hi.most (by decide)
  rcases hi.2 with ⟨rfl, rfl⟩ | ⟨c, rfl, hc⟩
  · exact .inl (.inl a.nils_inv)
  · by_cases h0 : r.length = 0
    · rw [h0] at a
      exact .inl a.emp
    · rw [← cRow_s c (by omega)] at a
      obtain ⟨b, off, cap, rfl, hB, hb, hg⟩ := a.row_inv (z := 2) (by omega) (Cat.length zPt hc)
      refine .inr ⟨b, off, r.length, cap, rfl, hm, hB, hb, fun i hi => ?_⟩
      obtain ⟨ci, rr, ed, rfl, _⟩ := hc.at zPt i hi
      have e : c[i * 2]? = some (.int .i64 r[i].x) := by
        have : (c.drop (i * 2))[0]? = some (.int .i64 r[i].x) := by rw [ed]; rfl
        rwa [List.getElem?_drop, Nat.add_zero] at this
      obtain ⟨y, ay, ly⟩ := hg _ _ e
      rw [ly.int_inv] at ay
      exact ⟨_, ay⟩
theorem LRings.ofIs {x v : AV} {rs : List (List Pt)} (a : Lv h B x v) (hi : IsL 24 RRing v rs) : LRings h B x := by
  have hm := hi.most (by decide)
  rcases hi.2 with ⟨rfl, rfl⟩ | ⟨c, rfl, hc⟩
  · exact .inl (.inl a.nils_inv)
  · by_cases h0 : rs.length = 0
    · rw [h0] at a
      exact .inl a.emp
    · rw [← cRow_s c (by omega)] at a
      obtain ⟨b, off, cap, rfl, hB, hb, hg⟩ := a.row_inv (z := 1) (by omega) (Cat.length zRing hc)
      refine .inr ⟨b, off, rs.length, cap, rfl, hm, hB, hb, fun i hi => ?_⟩
      obtain ⟨ci, rr, ed, vi, rfl, hvi⟩ := hc.at zRing i hi
      have e : c[i]? = some vi := by
        have : (c.drop (i * 1))[0]? = some vi := by rw [ed]; rfl
        rwa [List.getElem?_drop, Nat.add_zero, Nat.mul_one] at this
      obtain ⟨y, ay, ly⟩ := hg _ _ e
      exact ⟨y, ay, LPts.ofIs ly hvi⟩
theorem LFeats.ofIs {x v : AV} {fs : List Feat} (a : Lv h B x v) (hi : IsL 40 RFeat v fs) : LFeats h B x := by
  have hm := hi.most (by decide)
  rcases hi.2 with ⟨rfl, rfl⟩ | ⟨c, rfl, hc⟩
  · exact .inl (.inl a.nils_inv)
  · by_cases h0 : fs.length = 0
    · rw [h0] at a
      exact .inl a.emp
    · rw [← cRow_s c (by omega)] at a
      obtain ⟨b, off, cap, rfl, hB, hb, hg⟩ := a.row_inv (z := 3) (by omega) (Cat.length zFeat hc)
      refine .inr ⟨b, off, fs.length, cap, rfl, hm, hB, hb, fun i hi => ?_⟩
      obtain ⟨ci, rr, ed, w, rfl, _, _, hw⟩ := hc.at zFeat i hi
      have get : ∀ j y, [AV.int .i64 fs[i].id, .int .i64 fs[i].shape, w][j]? = some y → c[i * 3 + j]? = some y := fun j y hy => by
        obtain ⟨hj, _⟩ := List.getElem?_eq_some_iff.1 hy
        have : (c.drop (i * 3))[j]? = some y := by rw [ed, List.getElem?_append_left hj]; exact hy
        rwa [List.getElem?_drop] at this
      obtain ⟨y0, a0, l0⟩ := hg _ _ (get 0 _ rfl)
      obtain ⟨y2, a2, l2⟩ := hg _ _ (get 2 _ rfl)
      rw [l0.int_inv] at a0
      rw [Nat.add_zero] at a0
      exact ⟨⟨_, a0⟩, y2, by rw [Nat.add_assoc]; exact a2, LRings.ofIs l2 hw⟩
theorem LOps.ofIs {x v : AV} {os : List Op} (a : Lv h B x v) (hi : IsL 112 ROp v os) : LOps h B x := by
  have hm := hi.most (by decide)
  rcases hi.2 with ⟨rfl, rfl⟩ | ⟨c, rfl, hc⟩
  · exact .inl (.inl a.nils_inv)
  · by_cases h0 : os.length = 0
    · rw [h0] at a
      exact .inl a.emp
    · rw [← cRow_s c (by omega)] at a
      obtain ⟨b, off, cap, rfl, hB, hb, hg⟩ := a.row_inv (z := 8) (by omega) (Cat.length zOp hc)
      refine .inr ⟨b, off, os.length, cap, rfl, hm, hB, hb, fun i hi => ?_⟩
      obtain ⟨ci, rr, ed, w, s, o, rfl, _, _, _, hw, _, _, hs, ho⟩ := hc.at zOp i hi
      have get : ∀ j y, [AV.int .i64 os[i].kind, .int .i64 os[i].f.id, .int .i64 os[i].f.shape, w, .int .i64 os[i].id, .int .i64 os[i].m.epoch, s, o][j]? = some y → ∃ a, At h b (off + i * 8 + j) a ∧ Lv h B a y := fun j y hy => by
        obtain ⟨hj, _⟩ := List.getElem?_eq_some_iff.1 hy
        have : (c.drop (i * 8))[j]? = some y := by rw [ed, List.getElem?_append_left hj]; exact hy
        rw [List.getElem?_drop] at this
        rw [Nat.add_assoc]
        exact hg _ _ this
      have num : ∀ j (m : Int), [AV.int .i64 os[i].kind, .int .i64 os[i].f.id, .int .i64 os[i].f.shape, w, .int .i64 os[i].id, .int .i64 os[i].m.epoch, s, o][j]? = some (.int .i64 m) → AtI h b (off + i * 8 + j) := fun j m hy => by
        obtain ⟨x, ax, lx⟩ := get j _ hy
        rw [lx.int_inv] at ax
        exact ⟨_, ax⟩
      have any : ∀ {j}, AtI h b j → AtE h b j := fun ⟨m, hm⟩ => ⟨_, hm, rfl⟩
      obtain ⟨x3, a3, l3⟩ := get 3 _ rfl
      obtain ⟨x6, a6, l6⟩ := get 6 _ rfl
      obtain ⟨x7, a7, l7⟩ := get 7 _ rfl
      exact ⟨num 1 _ rfl, any (num 2 _ rfl), ⟨x3, a3, LRings.ofIs l3 hw⟩, num 4 _ rfl, any (num 5 _ rfl), ⟨x6, a6, LInts.ofIs l6 hs⟩, x7, a7, LInts.ofIs l7 ho⟩
end
section
variable {P : Program}
theorem cloneInts_cl (g : Pg P tab) {r : List Int} {w : AV} (hw : IsL 8 RInt w r) {h : Heap} {Q : AV → Heap → Prop}
    (q : ∀ v t h', Lv h' (h.next ≤ ·) v t → IsL 8 RInt t r → v.cells = some [v] → v.one = true → Ext h h' → (w = .nils → v = .nils ∧ h' = h) → (w ≠ .nils → h.next < h'.next) → Q v h') : Cl P 125 [w] h Q := by
  refine g.cl (vf := v125) rfl rfl ?_
  have hx := hw
  obtain ⟨hb, ⟨rfl, hl⟩ | ⟨c, rfl, hc⟩⟩ := hw
  · have e : eqv .sl .nils .nils = some true := rfl
    simp only [v125, HE, e, RX, VOp.fresh, bxC, bsC, un, most, callsOf, seval, Int.reducePow, ↓reduceIte, Nat.reduceEqDiff, reduceCtorEq]
    exact q .nils .nils _ .nils ⟨hb, .inl ⟨rfl, hl⟩⟩ rfl rfl (Ext.refl h) (fun _ => ⟨rfl, rfl⟩) (fun h => absurd rfl h)
  · have e : eqv .sl (.rs c r.length) .nils = some false := rfl
    have x1 := Ext.mk (h := h) (.cells [] 3 0)
    have n1 : (h.mk' h.next (.cells [] 3 0)).next = h.next + 1 := by rw [mk_next]; omega
    obtain ⟨v, h', t, a1, a2, a3, a4, a5, a6, a7⟩ := app_copy (bytes := 8) plainInt hx (h := h.mk' h.next (.cells [] 3 0)) (b := h.next) (by rw [Heap.get_mk, if_pos rfl]) 3
    rw [n1] at a2 a3 a4
    simp only [v125, HE, e, a1, RX, VOp.fresh, bxC, bsC, un, most, callsOf, seval, Int.reducePow, ↓reduceIte, Nat.reduceEqDiff, reduceCtorEq]
    exact q v t h' (a4.weak fun c hc _ => by omega) a5 a6 a7 ⟨by omega, fun b hb => (a3 b (by omega) (by omega)).trans (x1.2 b hb)⟩ (fun h => by cases h) (fun _ => by omega)
end
end Go.Proofs.Ytinonmcnofjeeaa.VM
namespace Go.Proofs.Ytinonmcnofjeeaa.VM
attribute [local irreducible] Af Nx EvO Ev Un Gd Cd EvR EvQ EvC Nc Gc Lp EvM NxM AfM GdM EvMR EvMQ EvMD EvMC Nm Gm
section
variable {P : Program}
theorem smapCopy_cl (g : Pg P tab) {m : Mp} {v u : AV} (hv : IsL 8 RInt v m.starts) (hu : IsL 8 RInt u m.owners) {h : Heap} {Q : AV → Heap → Prop}
    (q : ∀ sv ov st ot h', Lv h' (h.next ≤ ·) sv st → IsL 8 RInt st m.starts → Lv h' (h.next ≤ ·) ov ot → IsL 8 RInt ot m.owners → sv.one = true → ov.one = true → Ext h h' → Q (.agg [.int .i64 m.epoch, sv, ov]) h') : Cl P 118 [.agg [.int .i64 m.epoch, v, u]] h Q := by
  refine g.cl (vf := v118) rfl rfl ?_
  have ov := isL_one hv
  have ou := isL_one hu
  simp only [v118, ov, ou, RX, VOp.fresh, bxC, bsC, un, most, callsOf, seval, Int.reducePow, ↓reduceIte, Nat.reduceEqDiff, reduceCtorEq]
  obtain ⟨v1, h2, ok1, t1, lv1, is1, cl1, on1, x1, z1, nz1⟩ := cloneInts_cl g hv (h := (h.mk' h.next (.cells [.int .i64 m.epoch, v, u] 26 0)).mk' (h.next + 1) (.cells [.int .i64 0, .nils, .nils] 26 0)) (Q := fun x h' => ∃ t, Lv h' _ x t ∧ IsL 8 RInt t m.starts ∧ x.cells = some [x] ∧ x.one = true ∧ Ext _ h' ∧ (v = .nils → x = .nils ∧ h' = _) ∧ (v ≠ .nils → _ < h'.next)) (fun x t h' a b c d e f g => ⟨t, a, b, c, d, e, f, g⟩)
  obtain ⟨v2, h3, ok2, t2, lv2, is2, cl2, on2, x2, z2, nz2⟩ := cloneInts_cl g hu (h := h2) (Q := fun x h' => ∃ t, Lv h' _ x t ∧ IsL 8 RInt t m.owners ∧ x.cells = some [x] ∧ x.one = true ∧ Ext _ h' ∧ (u = .nils → x = .nils ∧ h' = _) ∧ (u ≠ .nils → _ < h'.next)) (fun x t h' a b c d e f g => ⟨t, a, b, c, d, e, f, g⟩)
  have nH : ((h.mk' h.next (.cells [.int .i64 m.epoch, v, u] 26 0)).mk' (h.next + 1) (.cells [.int .i64 0, .nils, .nils] 26 0)).next = h.next + 2 := by rw [mk_next, mk_next]; omega
  rw [nH] at lv1 nz1
  have x1n := x1.1
  rw [nH] at x1n
  have x2n := x2.1
  have g0 : h2.get h.next = some (.cells [.int .i64 m.epoch, v, u] 26 0) := (x1.2 _ (by omega)).trans (by rw [Heap.get_mk, if_neg (by omega), Heap.get_mk, if_pos rfl])
  have g1 : h2.get (h.next + 1) = some (.cells [.int .i64 0, .nils, .nils] 26 0) := (x1.2 _ (by omega)).trans (by rw [Heap.get_mk, if_pos rfl])
  have g03 := (x2.2 h.next (by omega)).trans g0
  have g13 := (x2.2 (h.next + 1) (by omega)).trans g1
  have k3 : ∀ b, b < h.next → h3.get b = h.get b := fun b hb => by rw [x2.2 b (by omega), x1.2 b (by omega), Heap.get_mk, if_neg (by omega), Heap.get_mk, if_neg (by omega)]
  have lv13 : Lv h3 (h.next + 2 ≤ ·) v1 t1 := lv1.frame x2.1 fun b _ hb => x2.2 b hb
  have lv23 : Lv h3 (h.next + 2 ≤ ·) v2 t2 := lv2.weak fun b hb _ => by omega
  by_cases hvn : v = .nils
  · obtain ⟨rfl, eh⟩ := z1 hvn
    subst hvn
    by_cases hun : u = .nils
    · obtain ⟨rfl, eh3⟩ := z2 hun
      subst hun
      have ok1' : OK P 125 [.nils] ((h.mk' h.next (.cells [.int .i64 m.epoch, .nils, .nils] 26 0)).mk' (h.next + 1) (.cells [.int .i64 0, .nils, .nils] 26 0)) .nils h3 := by rw [eh3]; exact ok1
      have ok2' : OK P 125 [.nils] h3 .nils h3 := by rw [eh3] at ok2 ⊢; exact ok2
      refine EvD.lk (fun _ _ _ => (.nils, h3)) ?_
      simp only [nH, ok1', ok2', g03, g13, on1, on2, cl1, cl2, HN, RW, RX, VOp.fresh, bxC, bsC, un, most, callsOf, seval, Int.reducePow, ↓reduceIte, Nat.reduceEqDiff, reduceCtorEq]
      refine ⟨⟨⟨?_, trivial⟩, trivial⟩, ?_⟩
      · show Lk _ _ _ _
        simp only [Lk, wanted, HN, RX, VOp.fresh, bxC, bsC, un, most, callsOf, seval, Int.reducePow, ↓reduceIte, Nat.reduceEqDiff, reduceCtorEq]
      have e4 : ∀ X Y Z, Ext h (((h3.put h.next X).put h.next Y).put (h.next + 1) Z) := fun X Y Z => ⟨by rw [put_next, put_next, put_next]; omega, fun b hb => by rw [Heap.get_put, if_neg (by omega), Heap.get_put, if_neg (by omega), Heap.get_put, if_neg (by omega)]; exact k3 b hb⟩
      have f4 : ∀ X Y Z, ∀ b, h.next + 2 ≤ b → (((h3.put h.next X).put h.next Y).put (h.next + 1) Z).get b = h3.get b := fun X Y Z b hb => by rw [Heap.get_put, if_neg (by omega), Heap.get_put, if_neg (by omega), Heap.get_put, if_neg (by omega)]
      have n4 : ∀ X Y Z, h3.next ≤ (((h3.put h.next X).put h.next Y).put (h.next + 1) Z).next := fun X Y Z => by rw [put_next, put_next, put_next]; exact Nat.le_refl _
      exact q _ _ t1 t2 _ ((lv13.frame (n4 _ _ _) fun b hb _ => f4 _ _ _ b hb).weak fun b hb _ => by omega) is1 ((lv23.frame (n4 _ _ _) fun b hb _ => f4 _ _ _ b hb).weak fun b hb _ => by omega) is2 on1 on2 (e4 _ _ _)
    · skip
      obtain ⟨uc, uz, rfl⟩ : ∃ uc uz, u = .rs uc uz := by
        rcases hu.2 with ⟨e, _⟩ | ⟨c, e, _⟩
        · exact absurd e hun
        · exact ⟨_, _, e⟩
      refine EvD.lk (fun _ args _ => match args with | [.nils] => (.nils, h2) | _ => (v2, h3)) ?_
      simp only [nH, ok1, ok2, g0, g1, g03, g13, on1, on2, cl1, cl2, HN, RW, RX, VOp.fresh, bxC, bsC, un, most, callsOf, seval, Int.reducePow, ↓reduceIte, Nat.reduceEqDiff, reduceCtorEq]
      refine ⟨⟨⟨?_, trivial⟩, trivial⟩, ?_⟩
      · show Lk _ _ _ _
        simp only [Lk, wanted, HN, RX, VOp.fresh, bxC, bsC, un, most, callsOf, seval, Int.reducePow, ↓reduceIte, Nat.reduceEqDiff, reduceCtorEq]
      have e4 : ∀ X Y Z, Ext h (((h3.put h.next X).put h.next Y).put (h.next + 1) Z) := fun X Y Z => ⟨by rw [put_next, put_next, put_next]; omega, fun b hb => by rw [Heap.get_put, if_neg (by omega), Heap.get_put, if_neg (by omega), Heap.get_put, if_neg (by omega)]; exact k3 b hb⟩
      have f4 : ∀ X Y Z, ∀ b, h.next + 2 ≤ b → (((h3.put h.next X).put h.next Y).put (h.next + 1) Z).get b = h3.get b := fun X Y Z b hb => by rw [Heap.get_put, if_neg (by omega), Heap.get_put, if_neg (by omega), Heap.get_put, if_neg (by omega)]
      have n4 : ∀ X Y Z, h3.next ≤ (((h3.put h.next X).put h.next Y).put (h.next + 1) Z).next := fun X Y Z => by rw [put_next, put_next, put_next]; exact Nat.le_refl _
      exact q _ _ t1 t2 _ ((lv13.frame (n4 _ _ _) fun b hb _ => f4 _ _ _ b hb).weak fun b hb _ => by omega) is1 ((lv23.frame (n4 _ _ _) fun b hb _ => f4 _ _ _ b hb).weak fun b hb _ => by omega) is2 on1 on2 (e4 _ _ _)
  · have n2 : ¬ h2.next = h.next + 2 := by have := nz1 hvn; omega
    refine EvD.lk (fun _ _ hh => if hh.next = h.next + 2 then (v1, h2) else (v2, h3)) ?_
    simp only [nH, n2, ok1, ok2, g0, g1, g03, g13, on1, on2, cl1, cl2, HN, RW, RX, VOp.fresh, bxC, bsC, un, most, callsOf, seval, Int.reducePow, ↓reduceIte, Nat.reduceEqDiff, reduceCtorEq]
    refine ⟨⟨⟨?_, trivial⟩, trivial⟩, ?_⟩
    · show Lk _ _ _ _
      simp only [Lk, wanted, HN, RX, VOp.fresh, bxC, bsC, un, most, callsOf, seval, Int.reducePow, ↓reduceIte, Nat.reduceEqDiff, reduceCtorEq]
    have e4 : ∀ X Y Z, Ext h (((h3.put h.next X).put h.next Y).put (h.next + 1) Z) := fun X Y Z => ⟨by rw [put_next, put_next, put_next]; omega, fun b hb => by rw [Heap.get_put, if_neg (by omega), Heap.get_put, if_neg (by omega), Heap.get_put, if_neg (by omega)]; exact k3 b hb⟩
    have f4 : ∀ X Y Z, ∀ b, h.next + 2 ≤ b → (((h3.put h.next X).put h.next Y).put (h.next + 1) Z).get b = h3.get b := fun X Y Z b hb => by rw [Heap.get_put, if_neg (by omega), Heap.get_put, if_neg (by omega), Heap.get_put, if_neg (by omega)]
    have n4 : ∀ X Y Z, h3.next ≤ (((h3.put h.next X).put h.next Y).put (h.next + 1) Z).next := fun X Y Z => by rw [put_next, put_next, put_next]; exact Nat.le_refl _
    exact q _ _ t1 t2 _ ((lv13.frame (n4 _ _ _) fun b hb _ => f4 _ _ _ b hb).weak fun b hb _ => by omega) is1 ((lv23.frame (n4 _ _ _) fun b hb _ => f4 _ _ _ b hb).weak fun b hb _ => by omega) is2 on1 on2 (e4 _ _ _)
end
end Go.Proofs.Ytinonmcnofjeeaa.VM
namespace Go.Proofs.Ytinonmcnofjeeaa.VM
attribute [local irreducible] Af Nx EvO Ev Un Gd Cd EvR EvQ EvC Nc Gc Lp EvM NxM AfM GdM EvMR EvMQ EvMD EvMC Nm Gm
section
variable {h h' : Heap} {B : Nat → Prop}
theorem Lvs.uncons {cs k : List AV} {y : AV} (l : Lvs h B cs (y :: k)) : ∃ x c', cs = x :: c' ∧ Lv h B x y ∧ Lvs h B c' k := by
  obtain ⟨D, f, hb, own, i⟩ := l
  match f with
  | .cons (x := x) (l := c') f1 t =>
    simp only [AV.bares, Bool.and_eq_true] at hb
    exact ⟨x, c', rfl, ⟨_, f1, hb.1, fun b hb => own b (List.mem_append_left _ hb), fun b hb => i b (List.mem_append_left _ hb)⟩, ⟨_, t, hb.2, fun b hb => own b (List.mem_append_right _ hb), fun b hb => i b (List.mem_append_right _ hb)⟩⟩
theorem At.keep {b j : Nat} {x : AV} (a : At h b j x) (k : h'.get b = h.get b) : At h' b j x := let ⟨l, e, ver, hg, hx⟩ := a; ⟨l, e, ver, k.trans hg, hx⟩
theorem LInts.frame {v : AV} (l : LInts h B v) (hn : h.next ≤ h'.next) (k : ∀ b, B b → b < h.next → h'.get b = h.get b) : LInts h' B v := by
  rcases l with e | ⟨b, off, n, cap, rfl, a1, a2, a3, a4⟩
  · exact .inl e
  · exact .inr ⟨b, off, n, cap, rfl, a1, a2, Nat.lt_of_lt_of_le a3 hn, fun i hi => let ⟨m, am⟩ := a4 i hi; ⟨m, am.keep (k b a2 a3)⟩⟩
theorem LPts.frame {v : AV} (l : LPts h B v) (hn : h.next ≤ h'.next) (k : ∀ b, B b → b < h.next → h'.get b = h.get b) : LPts h' B v := by
  rcases l with e | ⟨b, off, n, cap, rfl, a1, a2, a3, a4⟩
  · exact .inl e
  · exact .inr ⟨b, off, n, cap, rfl, a1, a2, Nat.lt_of_lt_of_le a3 hn, fun i hi => let ⟨m, am⟩ := a4 i hi; ⟨m, am.keep (k b a2 a3)⟩⟩
theorem LRings.frame {v : AV} (l : LRings h B v) (hn : h.next ≤ h'.next) (k : ∀ b, B b → b < h.next → h'.get b = h.get b) : LRings h' B v := by
  rcases l with e | ⟨b, off, n, cap, rfl, a1, a2, a3, a4⟩
  · exact .inl e
  · exact .inr ⟨b, off, n, cap, rfl, a1, a2, Nat.lt_of_lt_of_le a3 hn, fun i hi => let ⟨x, ax, lx⟩ := a4 i hi; ⟨x, ax.keep (k b a2 a3), lx.frame hn k⟩⟩
theorem LInts.weak {B' : Nat → Prop} {v : AV} (l : LInts h B v) (k : ∀ b, B b → B' b) : LInts h B' v := by
  rcases l with e | ⟨b, off, n, cap, rfl, a1, a2, a3, a4⟩
  · exact .inl e
  · exact .inr ⟨b, off, n, cap, rfl, a1, k _ a2, a3, a4⟩
/-- an operation's copy: its cells, told -/
def POp (h : Heap) (B : Nat → Prop) (o : Op) (c t : List AV) : Prop := ∃ rv sv ov rt st ot, c = [.int .i64 o.kind, .int .i64 o.f.id, .int .i64 o.f.shape, rv, .int .i64 o.id, .int .i64 o.m.epoch, sv, ov] ∧ t = [.int .i64 o.kind, .int .i64 o.f.id, .int .i64 o.f.shape, rt, .int .i64 o.id, .int .i64 o.m.epoch, st, ot] ∧
  (I64 o.kind ∧ I64 o.f.id ∧ I64 o.f.shape ∧ I64 o.id ∧ I64 o.m.epoch) ∧ (Lw h B rv rt ∧ IsL 24 RRing rt o.f.rings ∧ LRings h B rv) ∧ (Lw h B sv st ∧ IsL 8 RInt st o.m.starts ∧ LInts h B sv) ∧ (Lw h B ov ot ∧ IsL 8 RInt ot o.m.owners ∧ LInts h B ov)
theorem POp.frame {o : Op} {c t : List AV} (p : POp h B o c t) (hn : h.next ≤ h'.next) (k : ∀ b, B b → b < h.next → h'.get b = h.get b) : POp h' B o c t := by
  obtain ⟨rv, sv, ov, rt, st, ot, e1, e2, i, ⟨a1, a2, a3⟩, ⟨b1, b2, b3⟩, c1, c2, c3⟩ := p
  exact ⟨rv, sv, ov, rt, st, ot, e1, e2, i, ⟨a1.frame hn k, a2, a3.frame hn k⟩, ⟨b1.frame hn k, b2, b3.frame hn k⟩, c1.frame hn k, c2, c3.frame hn k⟩
theorem POp.one {o : Op} {c t : List AV} (p : POp h B o c t) : c.all AV.one = true := by
  obtain ⟨rv, sv, ov, rt, st, ot, rfl, e2, i, ⟨a1, a2, a3⟩, ⟨b1, b2, b3⟩, c1, c2, c3⟩ := p
  simp [List.all_cons, one_int, a3.one, b3.one, c3.one]
theorem POp.lws {o : Op} {c t : List AV} (p : POp h B o c t) : Lws h B c t := by
  obtain ⟨rv, sv, ov, rt, st, ot, rfl, rfl, i, ⟨a1, a2, a3⟩, ⟨b1, b2, b3⟩, c1, c2, c3⟩ := p
  exact .cons (.told rfl rfl) (.cons (.told rfl rfl) (.cons (.told rfl rfl) (.cons a1 (.cons (.told rfl rfl) (.cons (.told rfl rfl) (.cons b1 (.cons c1 .nil)))))))
theorem POp.rop {o : Op} {c t : List AV} (p : POp h B o c t) : ROp o t := by
  obtain ⟨rv, sv, ov, rt, st, ot, rfl, rfl, ⟨i1, i2, i3, i4, i5⟩, ⟨a1, a2, a3⟩, ⟨b1, b2, b3⟩, c1, c2, c3⟩ := p
  exact ⟨rt, st, ot, rfl, i1, i2, i3, a2, i4, i5, b2, c2⟩
theorem POp.len {o : Op} {c t : List AV} (p : POp h B o c t) : c.length = 8 ∧ t.length = 8 := by
  obtain ⟨rv, sv, ov, rt, st, ot, rfl, rfl, _⟩ := p
  exact ⟨rfl, rfl⟩
theorem POp.weak {B' : Nat → Prop} {o : Op} {c t : List AV} (p : POp h B o c t) (k : ∀ b, B b → B' b) : POp h B' o c t := by
  obtain ⟨rv, sv, ov, rt, st, ot, e1, e2, i, ⟨a1, a2, a3⟩, ⟨b1, b2, b3⟩, c1, c2, c3⟩ := p
  exact ⟨rv, sv, ov, rt, st, ot, e1, e2, i, ⟨a1.weak fun b hb _ => k b hb, a2, a3.weak k⟩, ⟨b1.weak fun b hb _ => k b hb, b2, b3.weak k⟩, c1.weak fun b hb _ => k b hb, c2, c3.weak k⟩
inductive CatP (h : Heap) (B : Nat → Prop) : List Op → List AV → List AV → Prop
  | nil : CatP h B [] [] []
  | cons {o : Op} {l : List Op} {c t A T : List AV} (p : POp h B o c t) (k : CatP h B l A T) : CatP h B (o :: l) (c ++ A) (t ++ T)
theorem CatP.frame {l : List Op} {A T : List AV} (p : CatP h B l A T) (hn : h.next ≤ h'.next) (k : ∀ b, B b → b < h.next → h'.get b = h.get b) : CatP h' B l A T := by
  induction p with
  | nil => exact .nil
  | cons p _ ih => exact .cons (p.frame hn k) ih
theorem CatP.weak {B' : Nat → Prop} {l : List Op} {A T : List AV} (p : CatP h B l A T) (k : ∀ b, B b → B' b) : CatP h B' l A T := by
  induction p with
  | nil => exact .nil
  | cons p _ ih => exact .cons (p.weak k) ih
theorem CatP.len {l : List Op} {A T : List AV} (p : CatP h B l A T) : A.length = l.length * 8 ∧ T.length = l.length * 8 := by
  induction p with
  | nil => exact ⟨rfl, rfl⟩
  | cons p _ ih => obtain ⟨a, b⟩ := p.len; constructor <;> rw [List.length_append, List.length_cons] <;> omega
theorem CatP.one {l : List Op} {A T : List AV} (p : CatP h B l A T) : A.all AV.one = true := by
  induction p with
  | nil => rfl
  | cons p _ ih => rw [List.all_append, p.one, ih]; rfl
theorem CatP.lws {l : List Op} {A T : List AV} (p : CatP h B l A T) : Lws h B A T := by
  induction p with
  | nil => exact .nil
  | cons p _ ih => exact p.lws.app ih
theorem CatP.cat {l : List Op} {A T : List AV} (p : CatP h B l A T) : Cat ROp l T := by
  induction p with
  | nil => exact .nil
  | cons p _ ih => exact .cons p.rop ih
theorem CatP.snoc {l : List Op} {A T c t : List AV} {o : Op} (p : CatP h B l A T) (q : POp h B o c t) : CatP h B (l ++ [o]) (A ++ c) (T ++ t) := by
  induction p with
  | nil =>
    have := CatP.cons q CatP.nil
    rwa [List.append_nil, List.append_nil] at this
  | cons p _ ih => rw [List.append_assoc, List.append_assoc]; exact .cons p ih
theorem CatP.at {l : List Op} {A T : List AV} (p : CatP h B l A T) : ∀ {i : Nat} (hi : i < l.length), ∃ c t r, A.drop (i * 8) = c ++ r ∧ POp h B l[i] c t := by
  induction p with
  | nil => intro i hi; simp at hi
  | @cons o l c t A T p _ ih =>
    intro i hi
    cases i with
    | zero => exact ⟨c, t, A, by simp, p⟩
    | succ i =>
      obtain ⟨c', t', r, e, q⟩ := ih (i := i) (by simpa using hi)
      refine ⟨c', t', r, ?_, q⟩
      rw [show (i + 1) * 8 = c.length + i * 8 by rw [p.len.1]; omega, ← List.drop_drop, List.drop_left' rfl]
      exact e
/-- the whole row -/
theorem CatP.lops {l : List Op} {A T : List AV} {R : Nat} {e ver cap : Nat} (p : CatP h B l A T) (hR : B R) (hlt : R < h.next) (hg : h.get R = some (.cells A e ver)) (hm : l.length ≤ most3) : LOps h B (.sl R 0 l.length cap 8) := by
  refine .inr ⟨R, 0, l.length, cap, rfl, hm, hR, hlt, fun i hi => ?_⟩
  obtain ⟨c, t, r, ed, rv, sv, ov, rt, st, ot, rfl, _, _, ⟨_, _, a3⟩, ⟨_, _, b3⟩, _, _, c3⟩ := p.at hi
  have get : ∀ j y, [AV.int .i64 l[i].kind, .int .i64 l[i].f.id, .int .i64 l[i].f.shape, rv, .int .i64 l[i].id, .int .i64 l[i].m.epoch, sv, ov][j]? = some y → At h R (0 + i * 8 + j) y := fun j y hy => by
    obtain ⟨hj, _⟩ := List.getElem?_eq_some_iff.1 hy
    have : (A.drop (i * 8))[j]? = some y := by rw [ed, List.getElem?_append_left hj]; exact hy
    rw [List.getElem?_drop] at this
    exact ⟨A, e, ver, hg, by rw [Nat.zero_add]; exact this⟩
  exact ⟨⟨_, get 1 _ rfl⟩, ⟨_, get 2 _ rfl, rfl⟩, ⟨rv, get 3 _ rfl, a3⟩, ⟨_, get 4 _ rfl⟩, ⟨_, get 5 _ rfl, rfl⟩, ⟨sv, get 6 _ rfl, b3⟩, ov, get 7 _ rfl, c3⟩
theorem CatP.row {l : List Op} {A T : List AV} {R : Nat} {e ver cap : Nat} (p : CatP h B l A T) (hR : B R) (hlt : R < h.next) (hg : h.get R = some (.cells A e ver)) (h0 : 0 < l.length) : Lw h B (.sl R 0 l.length cap 8) (.rs T l.length) := by
  obtain ⟨D, f, ne, o, i⟩ := p.lws
  have hc : cut A 0 (l.length * 8) = some A := by rw [cut_eq, List.drop_zero, ← p.len.1, List.take_length, if_pos rfl]
  refine ⟨R :: D, .sl h0 hlt hg hc f, nre_bare rfl, fun b hb => ?_, fun b hb => ?_⟩
  · rcases List.mem_cons.1 hb with rfl | hb
    · exact ⟨A, e, ver, hg, ne⟩
    · exact o b hb
  · rcases List.mem_cons.1 hb with rfl | hb
    · exact hR
    · exact i b hb
end
theorem part3 {cs r : List AV} {m : Nat} {a b c : AV} (e : cs.drop m = a :: b :: c :: r) : part true cs m 3 = some (.agg [a, b, c]) := by
  simp [part, cut, e]
/-- three cells amid others -/
theorem part_mid {A X Y : List AV} {x y z : AV} {j : Nat} (hj : j = A.length + X.length) : part true (A ++ (X ++ x :: y :: z :: Y)) j 3 = some (.agg [x, y, z]) := by
  refine part3 (r := Y) ?_
  rw [hj, ← List.drop_drop, List.drop_left' rfl, List.drop_left' rfl]
theorem write_mid {h : Heap} {R e ver : Nat} {A X Y : List AV} {x y z x' y' z' : AV} {j : Nat} (hg : h.get R = some (.cells (A ++ (X ++ x :: y :: z :: Y)) e ver)) (hj : j = A.length + X.length) (ho : [x', y', z'].all AV.one = true) :
    writeAt h R j [x', y', z'] = some (h.put R (.cells (A ++ (X ++ x' :: y' :: z' :: Y)) e (ver + 1))) := by
  rw [writeAt_go, hg, wrB_some, if_pos ⟨by simp only [List.length_append, List.length_cons, List.length_nil]; omega, ho⟩]
  have e1 : (A ++ (X ++ x :: y :: z :: Y)).take j = A ++ X := by rw [← List.append_assoc]; exact List.take_left' (by rw [List.length_append, hj])
  have e2 : (A ++ (X ++ x :: y :: z :: Y)).drop (j + 3) = Y := by
    rw [← List.append_assoc, show A ++ X ++ x :: y :: z :: Y = (A ++ X ++ [x, y, z]) ++ Y by simp, List.drop_left' (by simp; omega)]
  simp only [List.length_cons, List.length_nil, Nat.zero_add, Nat.reduceAdd]
  rw [e1, e2]
  simp
theorem Tr.catOne {α : Type} {R : α → List AV → Prop} {z : Nat} (tr : Tr R z) {l : List α} {c : List AV} (h : Cat R l c) : c.all AV.one = true := by
  induction h with
  | nil => rfl
  | cons p _ ih => rw [List.all_append, tr.one _ _ p, ih]; rfl
theorem trOp : Tr ROp 8 := ⟨zOp, fun a c ⟨v, x, y, e, _, _, _, h4, _, _, h7, h8⟩ => by rw [e]; simp [List.all_cons, isL_one h4, isL_one h7, isL_one h8, one_int], tOp⟩
theorem isL_emp {v : AV} {b : Nat} {α : Type} {R : α → List AV → Prop} (h : IsL b R v ([] : List α)) : Emp v := by
  rcases h.2 with ⟨rfl, _⟩ | ⟨c, rfl, hc⟩
  · exact .inl rfl
  · cases hc
    exact .inr (.inl rfl)
theorem isL_lw {h : Heap} {B : Nat → Prop} {v : AV} {b : Nat} {α : Type} {R : α → List AV → Prop} (h' : IsL b R v ([] : List α)) : Lw h B v v := by
  rcases h'.2 with ⟨rfl, _⟩ | ⟨c, rfl, hc⟩
  · exact .told rfl rfl
  · cases hc
    exact .told rfl rfl
section
variable {P : Program}
theorem cloneOps_cl (g : Pg P tab) {os : List Op} {w : AV} (hw : IsL 112 ROp w os) {h : Heap} {Q : AV → Heap → Prop} (q0 : ∀ v h', os = [] → Emp v → v.one = true → v.cells = some [v] → Ext h h' → (∃ t, IsL 112 ROp t os ∧ Lw h' (h.next ≤ ·) v t) → Q v h')
    (q1 : ∀ b c h', 0 < os.length → h.next ≤ b → b < h'.next → (∃ e ver, h'.get b = some (.cells c e ver)) → Cat ROp os c → Ext h h' → Q (.sl b 0 os.length os.length 8) h') : Cl P 116 [w] h Q := by
  refine g.cl (vf := v116) rfl rfl ?_
  obtain ⟨hb, ⟨rfl, hl⟩ | ⟨c, rfl, hc⟩⟩ := hw
  · have e : eqv .sl .nils .nils = some true := rfl
    simp only [v116, HE, e, RX, VOp.fresh, bxC, bsC, un, most, callsOf, seval, Int.reducePow, ↓reduceIte, Nat.reduceEqDiff, reduceCtorEq]
    exact q0 _ _ hl (.inl rfl) rfl rfl (Ext.refl h) ⟨.nils, ⟨hb, .inl ⟨rfl, hl⟩⟩, .told rfl rfl⟩
  · have e : eqv .sl (.rs c os.length) .nils = some false := rfl
    have x1 := Ext.mk (h := h) (.cells [] 54 0)
    have n1 : (h.mk' h.next (.cells [] 54 0)).next = h.next + 1 := by rw [mk_next]; omega
    have g1 : (h.mk' h.next (.cells [] 54 0)).get h.next = some (.cells [] 54 0) := by rw [Heap.get_mk, if_pos rfl]
    have hl := Cat.length zOp hc
    have ho : c.all AV.one = true := trOp.catOne hc
    by_cases h0 : os.length = 0
    · have hos : os = [] := List.eq_nil_of_length_eq_zero h0
      subst hos
      have hcn : c = [] := List.eq_nil_of_length_eq_zero (by rw [hl]; rfl)
      subst hcn
      have ha : appendV (h.mk' h.next (.cells [] 54 0)) 8 112 54 (.sl h.next 0 0 0 8) (.rs [] 0) = some (.sl h.next 0 0 0 8, (h.mk' h.next (.cells [] 54 0)).put h.next (.cells [] 54 1)) := by
        have hc0 : cut ([] : List AV) 0 0 = some [] := rfl
        simp only [appendV, lenV, cellsOf, hc0, List.length_nil, Nat.zero_mul, List.all_nil, and_self, if_true, Nat.beq_refl, cond_true, Nat.add_zero, Nat.le_refl, writeAt, g1, lsets]
        rfl
      simp only [v116, HE, e, ha, RX, VOp.fresh, bxC, bsC, un, most, callsOf, seval, Int.reducePow, ↓reduceIte, Nat.reduceEqDiff, reduceCtorEq]
      refine q0 (.sl h.next 0 0 0 8) ((h.mk' h.next (.cells [] 54 0)).put h.next (.cells [] 54 1)) rfl (.inr (.inr ⟨_, _, _, _, rfl⟩)) rfl rfl ⟨by rw [put_next, n1]; omega, fun b hb => by rw [Heap.get_put, if_neg (by omega)]; exact x1.2 b hb⟩ ⟨.rs [] 0, ⟨hb, .inr ⟨[], rfl, .nil⟩⟩, [], .sl0, nre_bare rfl, fun b hb => by simp at hb, fun b hb => by simp at hb⟩
    · have hcut : cut c 0 (os.length * 8) = some c := by rw [cut_eq, List.drop_zero, ← hl, List.take_length, if_pos rfl]
      have hm : os.length * 112 ≤ most2 := Nat.le_trans hb (by rw [reach_eq]; decide)
      have h5 : ¬ (os.length ≤ 0) := by omega
      have hc0 : cut ([] : List AV) 0 0 = some [] := rfl
      have ha : appendV (h.mk' h.next (.cells [] 54 0)) 8 112 54 (.sl h.next 0 0 0 8) (.rs c os.length) = some (.sl (h.next + 1) 0 os.length os.length 8, ((h.mk' h.next (.cells [] 54 0)).put h.next .dead).mk' (h.next + 1) (.cells c 54 0)) := by
        simp only [appendV, lenV, cellsOf, hcut, hc0, hl, ho, g1, n1, List.nil_append, and_self, if_true, Nat.beq_refl, cond_true, h5, if_false, hm, Nat.le_refl, Nat.zero_mul, Nat.zero_add]
      simp only [v116, HE, e, ha, RX, VOp.fresh, bxC, bsC, un, most, callsOf, seval, Int.reducePow, ↓reduceIte, Nat.reduceEqDiff, reduceCtorEq]
      refine q1 _ c _ (by omega) (Nat.le_succ _) (by rw [mk_next, put_next, n1]; omega) ⟨54, 0, by rw [Heap.get_mk, if_pos rfl]⟩ hc ⟨by rw [mk_next, put_next, n1]; omega, fun b hb => by rw [Heap.get_mk, if_neg (by omega), Heap.get_put, if_neg (by omega)]; exact x1.2 b hb⟩
theorem cpo_loop (g : Pg P tab) {os : List Op} {R N0 : Nat} (hv : ∀ o ∈ os, o.kind ≠ 0 → o.f.rings = []) (hbd : os.length ≤ most3) (n : Nat) : ∀ (i : Nat) (A U C : List AV) (s : T AV) (h : Heap) (k : List Fr) (Q : Ex → T AV → Heap → Prop), i + n = os.length → R < h.next → N0 ≤ h.next → (∃ e ver, h.get R = some (.cells (A ++ C) e ver)) →
    CatP h (fun b => N0 ≤ b ∧ b ≠ R) (os.take i) A U → Cat ROp (os.drop i) C → sg s 3 = .sl R 0 os.length os.length 8 → sg s 8 = .int .i64 os.length → sg s 9 = .int .i64 i →
    (∀ s' h' A' U', (∃ e ver, h'.get R = some (.cells A' e ver)) → CatP h' (fun b => N0 ≤ b ∧ b ≠ R) os A' U' → (∀ b, b < h.next → b ≠ R → h'.get b = h.get b) → h.next ≤ h'.next → sg s' 3 = sg s 3 → Un P k Q (.exit 0) s' h') → Lp P b105_0 s h (Un P k Q) := by
  unfold most3 at hbd
  induction n with
  | zero =>
    intro i A U C s h k Q hi hR hN0 hg hp hc t3 t8 t9 hQ
    refine g.lpe b105_0.eq_1 ?_
    have c1 : ¬ ((i : Int) < (os.length : Int)) := by omega
    simp only [t8, t9, c1, RX, VOp.fresh, bxC, bsC, un, most, callsOf, seval, Int.reducePow, ↓reduceIte, Nat.reduceEqDiff, reduceCtorEq]
    rw [List.take_of_length_le (by omega)] at hp
    rw [List.drop_of_length_le (by omega)] at hc
    cases hc
    rw [List.append_nil] at hg
    exact hQ _ _ A U hg hp (fun _ _ _ => rfl) (Nat.le_refl _) (by simp only [sg_set, Nat.reduceEqDiff, ↓reduceIte])
  | succ n ih =>
    intro i A U C s h k Q hi hR hN0 ⟨e, ver, hg⟩ hp hc t3 t8 t9 hQ
    refine g.lpe b105_0.eq_1 ?_
    have c1 : ((i : Int) < (os.length : Int)) := by omega
    have w1 : IntKind.i64.wrap ((i : Int) + 1) = ((i + 1 : Nat) : Int) := by rw [w64 (by omega) (by omega)]; push_cast; rfl
    have hd : os.drop i = os[i] :: os.drop (i + 1) := List.drop_eq_getElem_cons (by omega)
    have hs : os.take (i + 1) = os.take i ++ [os[i]] := List.take_succ_eq_append_getElem (by omega)
    have hmem : os[i] ∈ os := List.getElem_mem (by omega)
    have hla : A.length = i * 8 := by rw [hp.len.1, List.length_take]; congr 1; omega
    rw [hd] at hc
    generalize os[i] = o at *
    cases hc with | @cons _ _ c0 C' hc0 hC =>
    obtain ⟨w, a, u, rfl, j1, j2, j3, j4, j5, j6, j7, j8⟩ := hc0
    have ow := isL_one j4
    have oa := isL_one j7
    have ou := isL_one j8
    have hia : ∀ (hh : Heap) (q : IntKind), iaV hh 8 none (.sl R 0 os.length os.length 8) (.int q (i : Int)) = .val (.ptr R (i * 8)) hh := fun hh q => by
      have : 0 ≤ (i : Int) ∧ (i : Int) < (os.length : Int) ∧ 8 = 8 := ⟨by omega, by omega, rfl⟩
      simp only [iaV, this, and_self, if_true, Int.toNat_natCast, Nat.zero_add]
    have fin : ∀ (s' : T AV) (h' : Heap) (c t : List AV) (e2 ver2 : Nat), h'.get R = some (.cells (A ++ (c ++ C')) e2 ver2) → POp h' (fun b => N0 ≤ b ∧ b ≠ R) o c t → (∀ b, b < h.next → b ≠ R → h'.get b = h.get b) → h.next ≤ h'.next → sg s' 3 = sg s 3 → sg s' 8 = sg s 8 → sg s' 9 = .int .i64 ((i + 1 : Nat) : Int) → Lp P b105_0 s' h' (Un P k Q) := by
      intro s' h' c t e2 ver2 g2 p2 kp hn s3 s8 s9
      have hp' := hp.frame hn fun b hb hl => kp b hl hb.2
      refine ih (i + 1) (A ++ c) (U ++ t) C' s' h' k Q (by omega) (by omega) (by omega) ⟨e2, ver2, by rw [g2, List.append_assoc]⟩ (by rw [hs]; exact hp'.snoc p2) hC (s3.trans t3) (s8.trans t8) s9 fun s'' h'' A' U' q1 q2 q3 q4 q5 => hQ s'' h'' A' U' q1 q2 (fun b hb hne => (q3 b (by omega) hne).trans (kp b hb hne)) (Nat.le_trans hn q4) (q5.trans s3)
    clear ih
    obtain ⟨L, hL⟩ : ∃ L, L = A ++ ([.int .i64 o.kind, .int .i64 o.f.id, .int .i64 o.f.shape, w, .int .i64 o.id, .int .i64 o.m.epoch, a, u] ++ C') := ⟨_, rfl⟩
    rw [← hL] at hg
    have pk : part false L (i * 8) 1 = some (.int .i64 o.kind) := by
      have : VM.cut L (i * 8) 1 = some [.int .i64 o.kind] := by
        rw [hL, cut_eq, List.drop_left' hla]; rfl
      simp only [part, this]
      rfl
    have pf : part true L (i * 8 + 1) 3 = some (.agg [.int .i64 o.f.id, .int .i64 o.f.shape, w]) := by
      rw [hL]
      exact part_mid (A := A) (X := [.int .i64 o.kind]) (by simp; omega)
    have pm : part true L (i * 8 + 5) 3 = some (.agg [.int .i64 o.m.epoch, a, u]) := by
      rw [hL]
      exact part_mid (A := A) (X := [.int .i64 o.kind, .int .i64 o.f.id, .int .i64 o.f.shape, w, .int .i64 o.id]) (by simp; omega)
    -- the map's copy, whatever the feature's was
    have tail : ∀ (s1 : T AV) (h1 : Heap) (rv rt : AV) (e1 ver1 : Nat), h1.get R = some (.cells (A ++ ([.int .i64 o.kind, .int .i64 o.f.id, .int .i64 o.f.shape, rv, .int .i64 o.id, .int .i64 o.m.epoch, a, u] ++ C')) e1 ver1) → Lw h1 (fun b => N0 ≤ b ∧ b ≠ R) rv rt → IsL 24 RRing rt o.f.rings → LRings h1 (fun b => N0 ≤ b ∧ b ≠ R) rv →
        (∀ b, b < h.next → b ≠ R → h1.get b = h.get b) → h.next ≤ h1.next → ∀ (l3 l8 l9 : AV), True → ∀ sv ov st ot h2, Lv h2 (h1.next ≤ ·) sv st → IsL 8 RInt st o.m.starts → Lv h2 (h1.next ≤ ·) ov ot → IsL 8 RInt ot o.m.owners → sv.one = true → ov.one = true → Ext h1 h2 →
        ∃ h3, writeAt h2 R (i * 8 + 5) [.int .i64 o.m.epoch, sv, ov] = some h3 ∧ ∃ c t e2 ver2, h3.get R = some (.cells (A ++ (c ++ C')) e2 ver2) ∧ POp h3 (fun b => N0 ≤ b ∧ b ≠ R) o c t ∧ (∀ b, b < h.next → b ≠ R → h3.get b = h.get b) ∧ h.next ≤ h3.next := by
      intro s1 h1 rv rt e1 ver1 g1 lr ir rr kp hn _ _ _ _ sv ov st ot h2 lv1 is1 lv2 is2 on1 on2 x2
      have g2 := (x2.2 R (by omega)).trans g1
      have hw := write_mid (A := A) (X := [.int .i64 o.kind, .int .i64 o.f.id, .int .i64 o.f.shape, rv, .int .i64 o.id]) (Y := C') (x' := .int .i64 o.m.epoch) (y' := sv) (z' := ov) (j := i * 8 + 5) g2 (by simp; omega) (by simp [List.all_cons, one_int, on1, on2])
      refine ⟨_, hw, [.int .i64 o.kind, .int .i64 o.f.id, .int .i64 o.f.shape, rv, .int .i64 o.id, .int .i64 o.m.epoch, sv, ov], [.int .i64 o.kind, .int .i64 o.f.id, .int .i64 o.f.shape, rt, .int .i64 o.id, .int .i64 o.m.epoch, st, ot], e1, ver1 + 1, by rw [Heap.get_put, if_pos rfl]; rfl, ?_, fun b hb hne => by rw [Heap.get_put, if_neg hne, x2.2 b (by omega)]; exact kp b hb hne, by rw [put_next]; have := x2.1; omega⟩
      have n3 : ∀ X, h2.next ≤ (h2.put R X).next := fun X => by rw [put_next]; exact Nat.le_refl _
      have k3 : ∀ X b, (N0 ≤ b ∧ b ≠ R) → b < h1.next → (h2.put R X).get b = h1.get b := fun X b hb hl => by rw [Heap.get_put, if_neg hb.2]; exact x2.2 b hl
      have k4 : ∀ X b, h1.next ≤ b → b < h2.next → (h2.put R X).get b = h2.get b := fun X b hb hl => by rw [Heap.get_put, if_neg (by omega)]
      have w4 : ∀ b, h1.next ≤ b → (N0 ≤ b ∧ b ≠ R) := fun b hb => ⟨by omega, by omega⟩
      exact ⟨rv, sv, ov, rt, st, ot, rfl, rfl, ⟨j1, j2, j3, j5, j6⟩, ⟨lr.frame (Nat.le_trans x2.1 (n3 _)) (k3 _), ir, rr.frame (Nat.le_trans x2.1 (n3 _)) (k3 _)⟩,
        ⟨(lv1.lw.frame (n3 _) (k4 _)).weak fun b hb _ => w4 b hb, is1, ((LInts.ofIs lv1 is1).frame (n3 _) (k4 _)).weak fun b hb => w4 b hb⟩, (lv2.lw.frame (n3 _) (k4 _)).weak fun b hb _ => w4 b hb, is2, ((LInts.ofIs lv2 is2).frame (n3 _) (k4 _)).weak fun b hb => w4 b hb⟩
    by_cases hk0 : o.kind = 0
    · simp only [t3, t8, t9, hia, hg, pk, pf, c1, hk0, ow, HN, RW, RX, VOp.fresh, bxC, bsC, un, most, callsOf, seval, Int.reducePow, ↓reduceIte, Nat.reduceEqDiff, reduceCtorEq]
      refine fcopy_cl g (f := o.f) ⟨w, rfl, j2, j3, j4⟩ fun c' t' h1 lvs hf hlen hone x1 => ?_
      obtain ⟨rt, rfl, k2, k3, k4⟩ := hf
      obtain ⟨y1, y2, y3, rfl⟩ := len3 hlen
      obtain ⟨x0', c0', e0, l0, l'⟩ := lvs.uncons
      obtain ⟨x1', c1', e1', l1, l''⟩ := l'.uncons
      obtain ⟨x2', c2', e2', l2, _⟩ := l''.uncons
      simp only [List.cons.injEq] at e0 e1' e2'
      obtain ⟨rfl, rfl⟩ := e0
      obtain ⟨rfl, rfl⟩ := e1'
      obtain ⟨rfl, rfl⟩ := e2'
      obtain rfl := l0.int_inv
      obtain rfl := l1.int_inv
      have hg1 := (x1.2 R hR).trans hg
      have o3 : y3.one = true := by simpa [List.all_cons, one_int] using hone
      have hw1 := write_mid (A := A) (X := [.int .i64 o.kind]) (Y := [.int .i64 o.id, .int .i64 o.m.epoch, a, u] ++ C') (x' := .int .i64 o.f.id) (y' := .int .i64 o.f.shape) (z' := y3) (j := i * 8 + 1) (by rw [hg1, hL]; rfl) (by simp; omega) (by simp [List.all_cons, one_int, o3])
      obtain ⟨L2, hL2⟩ : ∃ L2, L2 = A ++ ([.int .i64 o.kind, .int .i64 o.f.id, .int .i64 o.f.shape, y3, .int .i64 o.id, .int .i64 o.m.epoch, a, u] ++ C') := ⟨_, rfl⟩
      have hw1' : writeAt h1 R (i * 8 + 1) [.int .i64 o.f.id, .int .i64 o.f.shape, y3] = some (h1.put R (.cells L2 e (ver + 1))) := by rw [hw1, hL2]; rfl
      have pm2 : part true L2 (i * 8 + 5) 3 = some (.agg [.int .i64 o.m.epoch, a, u]) := by
        rw [hL2]
        exact part_mid (A := A) (X := [.int .i64 o.kind, .int .i64 o.f.id, .int .i64 o.f.shape, y3, .int .i64 o.id]) (by simp; omega)
      have xp : ∀ b, b < h.next → b ≠ R → (h1.put R (.cells L2 e (ver + 1))).get b = h.get b := fun b hb hne => by rw [Heap.get_put, if_neg hne]; exact x1.2 b hb
      have g2 : (h1.put R (.cells L2 e (ver + 1))).get R = some (.cells L2 e (ver + 1)) := by rw [Heap.get_put, if_pos rfl]
      have np : (h1.put R (.cells L2 e (ver + 1))).next = h1.next := put_next ..
      have l2' : Lv (h1.put R (.cells L2 e (ver + 1))) (h.next ≤ ·) y3 rt := l2.frame (by rw [np]; exact Nat.le_refl _) fun b hb _ => by rw [Heap.get_put, if_neg (by omega)]
      have hn1 := x1.1
      simp only [t3, t8, t9, hia, hw1', o3, pm2, oa, ou, HN, RW, RX, VOp.fresh, bxC, bsC, un, most, callsOf, seval, Int.reducePow, ↓reduceIte, Nat.reduceEqDiff, reduceCtorEq]
      generalize h1.put R (.cells L2 e (ver + 1)) = H1 at *
      refine smapCopy_cl g j7 j8 fun sv ov st ot h2 lv1 is1 lv2 is2 on1 on2 x2 => ?_
      obtain ⟨h3, hw, c, t, e2, ver2, g3, p3, k3, n3⟩ := tail s H1 y3 rt e (ver + 1) (by rw [g2, hL2]) (l2'.lw.weak fun b hb _ => ⟨by omega, by omega⟩) k4 ((LRings.ofIs l2' k4).weak fun b hb => ⟨by omega, by omega⟩) xp (by omega) w w w trivial sv ov st ot h2 lv1 is1 lv2 is2 on1 on2 x2
      simp only [t3, t8, t9, hia, hw, on1, on2, w1, HN, RW, RX, VOp.fresh, bxC, bsC, un, most, callsOf, seval, Int.reducePow, ↓reduceIte, Nat.reduceEqDiff, reduceCtorEq]
      refine fin _ h3 c t e2 ver2 g3 p3 k3 n3 ?_ ?_ ?_
      · simp only [sg_set, Nat.reduceEqDiff, ↓reduceIte]
      · simp only [sg_set, Nat.reduceEqDiff, ↓reduceIte]
      · simp only [sg_set, Nat.reduceEqDiff, ↓reduceIte]
    · have hr := hv o hmem hk0
      simp only [t3, t8, t9, hia, hg, pk, pm, c1, hk0, oa, ou, HN, RW, RX, VOp.fresh, bxC, bsC, un, most, callsOf, seval, Int.reducePow, ↓reduceIte, Nat.reduceEqDiff, reduceCtorEq]
      refine smapCopy_cl g j7 j8 fun sv ov st ot h2 lv1 is1 lv2 is2 on1 on2 x2 => ?_
      obtain ⟨h3, hw, c, t, e2, ver2, g3, p3, k3, n3⟩ := tail s h w w e ver (by rw [hg, hL]) (by rw [hr] at j4; exact isL_lw j4) j4 (.inl (by rw [hr] at j4; exact isL_emp j4)) (fun _ _ _ => rfl) (Nat.le_refl _) w w w trivial sv ov st ot h2 lv1 is1 lv2 is2 on1 on2 x2
      simp only [t3, t8, t9, hia, hw, on1, on2, w1, HN, RW, RX, VOp.fresh, bxC, bsC, un, most, callsOf, seval, Int.reducePow, ↓reduceIte, Nat.reduceEqDiff, reduceCtorEq]
      refine fin _ h3 c t e2 ver2 g3 p3 k3 n3 ?_ ?_ ?_
      · simp only [sg_set, Nat.reduceEqDiff, ↓reduceIte]
      · simp only [sg_set, Nat.reduceEqDiff, ↓reduceIte]
      · simp only [sg_set, Nat.reduceEqDiff, ↓reduceIte]
theorem copyOpsP_cl (g : Pg P tab) {os : List Op} {w : AV} (hw : IsL 112 ROp w os) (hv : ∀ o ∈ os, o.kind ≠ 0 → o.f.rings = []) {h : Heap} {Q : AV → Heap → Prop}
    (q : ∀ v t h', Lw h' (h.next ≤ ·) v t → IsL 112 ROp t os → LOps h' (h.next ≤ ·) v → v.one = true → v.cells = some [v] → Ext h h' → Q v h') : Cl P 105 [w] h Q := by
  have hm : os.length ≤ most3 := hw.most (by decide)
  have hbw := hw.1
  refine g.cl (vf := v105) rfl rfl ?_
  simp only [v105, RX, VOp.fresh, bxC, bsC, un, most, callsOf, seval, Int.reducePow, ↓reduceIte, Nat.reduceEqDiff, reduceCtorEq]
  refine cloneOps_cl g hw (fun v h' hos he on1 ce1 x1 ht => ?_) fun R c h1 h0 hR hlt ⟨e, ver, hg⟩ hc x1 => ?_
  · subst hos
    obtain ⟨t, it, lt⟩ := ht
    simp only [he.len, RX, VOp.fresh, bxC, bsC, un, most, callsOf, seval, Int.reducePow, ↓reduceIte, Nat.reduceEqDiff, reduceCtorEq]
    refine g.lpe b105_0.eq_1 ?_
    simp only [RX, VOp.fresh, bxC, bsC, un, most, callsOf, seval, Int.reducePow, ↓reduceIte, Nat.reduceEqDiff, reduceCtorEq]
    exact q v t h' lt it (.inl he) on1 ce1 x1
  · simp only [RX, VOp.fresh, bxC, bsC, un, most, callsOf, seval, Int.reducePow, ↓reduceIte, Nat.reduceEqDiff, reduceCtorEq]
    refine cpo_loop g (R := R) (N0 := h.next) hv hm os.length 0 [] [] c _ h1 _ _ (by omega) hlt x1.1 ⟨e, ver, hg⟩ .nil hc ?_ ?_ ?_ fun s' h' A' U' ⟨e2, ver2, g2⟩ cp kp hn s3 => ?_
    · simp only [sg_set, Nat.reduceEqDiff, ↓reduceIte]
    · simp only [sg_set, Nat.reduceEqDiff, ↓reduceIte]
    · simp only [sg_set, Nat.reduceEqDiff, ↓reduceIte]
      rfl
    have s3' : sg s' 3 = .sl R 0 os.length os.length 8 := s3.trans (by simp only [sg_set, Nat.reduceEqDiff, ↓reduceIte])
    simp only [s3', RX, VOp.fresh, bxC, bsC, un, most, callsOf, seval, Int.reducePow, ↓reduceIte, Nat.reduceEqDiff, reduceCtorEq]
    have cp' : CatP h' (h.next ≤ ·) os A' U' := cp.weak fun b hb => hb.1
    have hlt' : R < h'.next := Nat.lt_of_lt_of_le hlt hn
    exact q _ _ h' (cp'.row hR hlt' g2 h0) ⟨hbw, .inr ⟨U', rfl, cp'.cat⟩⟩ (cp'.lops hR hlt' g2 hm) rfl rfl ⟨Nat.le_trans x1.1 hn, fun b hb => (kp b (Nat.lt_of_lt_of_le hb x1.1) (by omega)).trans (x1.2 b hb)⟩
end
end Go.Proofs.Ytinonmcnofjeeaa.VM
namespace Go.Proofs.Ytinonmcnofjeeaa.VM
attribute [local irreducible] Af Nx EvO Ev Un Gd Cd EvR EvQ EvC Nc Gc Lp EvM NxM AfM GdM EvMR EvMQ EvMD EvMC Nm Gm
section
variable {h h' : Heap} {B B' : Nat → Prop}
theorem LFeats.frame {v : AV} (l : LFeats h B v) (hn : h.next ≤ h'.next) (k : ∀ b, B b → b < h.next → h'.get b = h.get b) : LFeats h' B v := by
  rcases l with e | ⟨b, off, n, cap, rfl, a1, a2, a3, a4⟩
  · exact .inl e
  · refine .inr ⟨b, off, n, cap, rfl, a1, a2, Nat.lt_of_lt_of_le a3 hn, fun i hi => ?_⟩
    obtain ⟨⟨m, am⟩, x, ax, lx⟩ := a4 i hi
    exact ⟨⟨m, am.keep (k b a2 a3)⟩, x, ax.keep (k b a2 a3), lx.frame hn k⟩
theorem LFeats.weak {v : AV} (l : LFeats h B v) (k : ∀ b, B b → B' b) : LFeats h B' v := by
  rcases l with e | ⟨b, off, n, cap, rfl, a1, a2, a3, a4⟩
  · exact .inl e
  · refine .inr ⟨b, off, n, cap, rfl, a1, k _ a2, a3, fun i hi => ?_⟩
    obtain ⟨m, x, ax, lx⟩ := a4 i hi
    exact ⟨m, x, ax, lx.weak k⟩
theorem LOps.frame {v : AV} (l : LOps h B v) (hn : h.next ≤ h'.next) (k : ∀ b, B b → b < h.next → h'.get b = h.get b) : LOps h' B v := by
  rcases l with e | ⟨b, off, n, cap, rfl, a1, a2, a3, a4⟩
  · exact .inl e
  · refine .inr ⟨b, off, n, cap, rfl, a1, a2, Nat.lt_of_lt_of_le a3 hn, fun i hi => ?_⟩
    have kk := k b a2 a3
    obtain ⟨⟨m1, c1⟩, ⟨m2, c2, o2⟩, ⟨x, c3, c4⟩, ⟨m5, c5⟩, ⟨m6, c6, o6⟩, ⟨y, c7, c8⟩, z, c9, c10⟩ := a4 i hi
    exact ⟨⟨m1, c1.keep kk⟩, ⟨m2, c2.keep kk, o2⟩, ⟨x, c3.keep kk, c4.frame hn k⟩, ⟨m5, c5.keep kk⟩, ⟨m6, c6.keep kk, o6⟩, ⟨y, c7.keep kk, c8.frame hn k⟩, z, c9.keep kk, c10.frame hn k⟩
theorem LOps.weak {v : AV} (l : LOps h B v) (k : ∀ b, B b → B' b) : LOps h B' v := by
  rcases l with e | ⟨b, off, n, cap, rfl, a1, a2, a3, a4⟩
  · exact .inl e
  · refine .inr ⟨b, off, n, cap, rfl, a1, k _ a2, a3, fun i hi => ?_⟩
    obtain ⟨c1, c2, ⟨x, c3, c4⟩, c5, c6, ⟨y, c7, c8⟩, z, c9, c10⟩ := a4 i hi
    exact ⟨c1, c2, ⟨x, c3, c4.weak k⟩, c5, c6, ⟨y, c7, c8.weak k⟩, z, c9, c10.weak k⟩
end
section
variable {P : Program}
theorem cpa_loop (g : Pg P tab) {fs : List Feat} {w : AV} (hw : IsL 40 RFeat w fs) {N0 : Nat} (n : Nat) :
    ∀ (i : Nat) (tc : List AV) (s : T AV) (h : Heap) (k : List Fr) (Q : Ex → T AV → Heap → Prop), i + n = fs.length → N0 ≤ h.next → LR h (N0 ≤ ·) (sg s 3) 3 tc i → Cat RFeat (fs.take i) tc → sg s 6 = w → sg s 7 = .int .i64 fs.length → sg s 8 = .int .i64 i →
    (∀ s' h' tc', LR h' (N0 ≤ ·) (sg s' 3) 3 tc' fs.length → Cat RFeat fs tc' → (∀ b, b < N0 → h'.get b = h.get b) → N0 ≤ h'.next → Un P k Q (.exit 0) s' h') → Lp P b106_0 s h (Un P k Q) := by
  have hbd := hw.bound (by decide)
  have hb1 := hw.1
  rw [reach_eq] at hb1
  induction n with
  | zero =>
    intro i tc s h k Q hi hh r hc t6 t7 t8 hQ
    refine g.lpe b106_0.eq_1 ?_
    have c1 : ¬ ((i : Int) < (fs.length : Int)) := by omega
    simp only [t6, t7, t8, c1, RX, VOp.fresh, bxC, bsC, un, most, callsOf, seval, Int.reducePow, ↓reduceIte, Nat.reduceEqDiff, reduceCtorEq]
    obtain rfl : i = fs.length := by omega
    rw [List.take_length] at hc
    refine hQ _ _ _ ?_ hc (fun _ _ => rfl) hh
    simp only [sg_set, Nat.reduceEqDiff, ↓reduceIte]
    exact r
  | succ n ih =>
    intro i tc s h k Q hi hh r hc t6 t7 t8 hQ
    refine g.lpe b106_0.eq_1 ?_
    have c1 : ((i : Int) < (fs.length : Int)) := by omega
    have w1 : IntKind.i64.wrap ((i : Int) + 1) = ((i + 1 : Nat) : Int) := by rw [w64 (by omega) (by omega)]; push_cast; rfl
    have hm : (i + 1) * 40 ≤ most2 := by unfold most2; omega
    obtain ⟨ci, rr, ⟨va, rfl, i1, i2, i3⟩, hat⟩ := hw.at zFeat i (by omega)
    have ova := isL_one i3
    simp only [t6, t7, t8, c1, hat, ova, HN, RW, RX, VOp.fresh, bxC, bsC, un, most, callsOf, seval, Int.reducePow, ↓reduceIte, Nat.reduceEqDiff, reduceCtorEq]
    refine fcopy_cl g (f := fs[i]) ⟨va, rfl, i1, i2, i3⟩ fun c1' t1 h1 lv1 is1 ln1 on1 e1 => ?_
    obtain ⟨x1, x2, x3, rfl⟩ := len3 ln1
    have on1' := on1
    simp only [List.all_cons, List.all_nil, Bool.and_true, Bool.and_eq_true] at on1'
    obtain ⟨o1, o2, o3⟩ := on1'
    have ne1 := e1.1
    simp only [put_next, mk_next] at ne1
    have xh : Ext h h1 := (((Ext.refl h).mkn (Nat.le_refl _) _).putn (Nat.le_refl _) _).trans e1
    have em := Ext.mk (h := h1) (.cells [x1, x2, x3] 52 0)
    have nb : (h1.mk' h1.next (.cells [x1, x2, x3] 52 0)).next = h1.next + 1 := by rw [mk_next]; omega
    have hlt := r.lt
    have r2 : LR h1 (N0 ≤ ·) (sg s 3) 3 tc i := r.frame xh.1 fun b _ hb => xh.2 b hb
    have a0 : Lvs h1 (fun b => N0 ≤ b ∧ b ∉ blkOf (sg s 3)) [x1, x2, x3] t1 := lv1.weak fun b hb _ => ⟨by simp only [put_next, mk_next] at hb; omega, fun hc => by have := hlt b hc; simp only [put_next, mk_next] at hb; omega⟩
    obtain ⟨H3, p3, r3, n3, k3⟩ := (r2.frame em.1 fun b _ hb => em.2 b hb).push (nb := h1.next) (eb := 52) (vb := 0) (c := [x1, x2, x3]) (by rw [Heap.get_mk, if_pos rfl]) rfl on1 (a0.frame em.1 fun b _ hb => em.2 b hb) (by rw [nb]; omega) (bytes := 40) hm 52
    rw [nb] at p3 r3 n3 k3
    have hv := r2.inB
    have kk3 : ∀ b, b < N0 → H3.get b = h.get b := fun b hb => (k3 b (fun hc => by have := hv b hc; omega) (by omega)).trans ((em.2 b (by omega)).trans (xh.2 b (by omega)))
    simp only [t6, t7, t8, o1, o2, o3, p3, w1, HN, RW, RX, VOp.fresh, bxC, bsC, un, most, callsOf, seval, Int.reducePow, ↓reduceIte, Nat.reduceEqDiff, reduceCtorEq]
    refine ih (i + 1) (tc ++ t1) _ H3 k Q (by omega) (by omega) ?_ (hc.take (by omega) is1) ?_ ?_ ?_ ?_
    · simp only [sg_set, Nat.reduceEqDiff, ↓reduceIte]
      exact r3
    · simp only [t6, sg_set, Nat.reduceEqDiff, ↓reduceIte]
    · simp only [t7, sg_set, Nat.reduceEqDiff, ↓reduceIte]
    · simp only [sg_set, Nat.reduceEqDiff, ↓reduceIte]
    · intro s' h' tc' q1 q2 q3 q4
      exact hQ s' h' tc' q1 q2 (fun b hb => (q3 b hb).trans (kk3 b hb)) q4
theorem copyAll_cl (g : Pg P tab) {fs : List Feat} {w : AV} (hw : IsL 40 RFeat w fs) {h : Heap} {Q : AV → Heap → Prop}
    (q : ∀ v t h', Lv h' (h.next ≤ ·) v t → IsL 40 RFeat t fs → v.one = true → v.cells = some [v] → Ext h h' → Q v h') : Cl P 106 [w] h Q := by
  refine g.cl (vf := v106) rfl rfl ?_
  simp only [v106, hw.len, RX, VOp.fresh, bxC, bsC, un, most, callsOf, seval, Int.reducePow, ↓reduceIte, Nat.reduceEqDiff, reduceCtorEq]
  refine cpa_loop g hw (N0 := h.next) fs.length 0 [] _ h _ _ (by omega) (Nat.le_refl _) ?_ .nil ?_ ?_ ?_ fun s' h' tc r hc kp hn => ?_
  · simp only [sg_set, Nat.reduceEqDiff, ↓reduceIte]
    exact .nil _ _ _
  · simp only [sg_set, Nat.reduceEqDiff, ↓reduceIte]
  · simp only [sg_set, Nat.reduceEqDiff, ↓reduceIte]
  · simp only [sg_set, Nat.reduceEqDiff, ↓reduceIte]
    rfl
  simp only [RX, VOp.fresh, bxC, bsC, un, most, callsOf, seval, Int.reducePow, ↓reduceIte, Nat.reduceEqDiff, reduceCtorEq]
  exact q _ _ h' r.lv (row_isL hw.1 hc) r.one r.cells ⟨hn, kp⟩
theorem msgCopy_cl (g : Pg P tab) {m : Ms} {a u : AV} (ha : IsL 112 ROp a m.ops) (hu : IsL 40 RFeat u m.fs) (hv : ∀ o ∈ m.ops, o.kind ≠ 0 → o.f.rings = []) {h : Heap} {Q : AV → Heap → Prop}
    (q : ∀ a' u' ta tu h', Lw h' (h.next ≤ ·) a' ta → IsL 112 ROp ta m.ops → LOps h' (h.next ≤ ·) a' → Lv h' (h.next ≤ ·) u' tu → IsL 40 RFeat tu m.fs → a'.one = true → u'.one = true → Ext h h' → Q (.agg (msC m a' u')) h') : Cl P 82 [.agg (msC m a u)] h Q := by
  refine g.cl (vf := v82) rfl rfl ?_
  have oa := isL_one ha
  have ou := isL_one hu
  simp only [v82, msC, oa, ou, HN, RX, VOp.fresh, bxC, bsC, un, most, callsOf, seval, Int.reducePow, ↓reduceIte, Nat.reduceEqDiff, reduceCtorEq]
  obtain ⟨c1, hc1⟩ : ∃ c1 : List AV, c1 = [.int .i64 m.kind, .int .i64 m.frm, .int .i64 m.to, .int .i64 m.node, .int .i64 m.seq, .int .i64 m.base, .bool m.yes, .int .i64 m.query, .int .i64 m.applied, .bool m.busy, .int .i64 m.box.x0, .int .i64 m.box.y0, .int .i64 m.box.x1, .int .i64 m.box.y1, a, u] := ⟨_, rfl⟩
  obtain ⟨H, eH⟩ : ∃ H, H = ((h.mk' h.next (.cells [.int .i64 m.kind, .int .i64 m.frm, .int .i64 m.to, .int .i64 m.node, .int .i64 m.seq, .int .i64 m.base, .bool m.yes, .int .i64 m.query, .int .i64 m.applied, .bool m.busy, .int .i64 m.box.x0, .int .i64 m.box.y0, .int .i64 m.box.x1, .int .i64 m.box.y1, a, u] 63 0)).mk' (h.next + 1) (.cells [.int .i64 0, .int .i64 0, .int .i64 0, .int .i64 0, .int .i64 0, .int .i64 0, .bool false, .int .i64 0, .int .i64 0, .bool false, .int .i64 0, .int .i64 0, .int .i64 0, .int .i64 0, .nils, .nils] 63 0)) := ⟨_, rfl⟩
  have nH : H.next = h.next + 2 := by rw [eH, mk_next, mk_next]; omega
  have g0H : H.get h.next = some (.cells [.int .i64 m.kind, .int .i64 m.frm, .int .i64 m.to, .int .i64 m.node, .int .i64 m.seq, .int .i64 m.base, .bool m.yes, .int .i64 m.query, .int .i64 m.applied, .bool m.busy, .int .i64 m.box.x0, .int .i64 m.box.y0, .int .i64 m.box.x1, .int .i64 m.box.y1, a, u] 63 0) := by rw [eH, Heap.get_mk, if_neg (by omega), Heap.get_mk, if_pos rfl]
  have g1H : H.get (h.next + 1) = some (.cells [.int .i64 0, .int .i64 0, .int .i64 0, .int .i64 0, .int .i64 0, .int .i64 0, .bool false, .int .i64 0, .int .i64 0, .bool false, .int .i64 0, .int .i64 0, .int .i64 0, .int .i64 0, .nils, .nils] 63 0) := by rw [eH, Heap.get_mk, if_pos rfl]
  have xH : Ext h H := by rw [eH]; exact ((Ext.refl h).mkn (Nat.le_refl _) _).mkn (by omega) _
  rw [← eH]
  clear eH
  obtain ⟨v1, h2, ok1, t1, lw1, is1, lo1, on1, ce1, x1⟩ := copyOpsP_cl g ha hv (h := H) (Q := fun v h' => ∃ t, Lw h' _ v t ∧ IsL 112 ROp t m.ops ∧ LOps h' _ v ∧ v.one = true ∧ v.cells = some [v] ∧ Ext _ h') (fun v t h' a b c d e f => ⟨t, a, b, c, d, e, f⟩)
  obtain ⟨v2, h3, ok2, t2, lv2, is2, on2, ce2, x2⟩ := copyAll_cl g hu (h := h2) (Q := fun v h' => ∃ t, Lv h' _ v t ∧ IsL 40 RFeat t m.fs ∧ v.one = true ∧ v.cells = some [v] ∧ Ext _ h') (fun v t h' a b c d e => ⟨t, a, b, c, d, e⟩)
  have x1n := x1.1
  have x2n := x2.1
  rw [nH] at lw1 lo1
  have g0 := (x1.2 h.next (by omega)).trans g0H
  have g1 := (x1.2 (h.next + 1) (by omega)).trans g1H
  have g03 := (x2.2 h.next (by omega)).trans g0
  have g13 := (x2.2 (h.next + 1) (by omega)).trans g1
  have k3 : ∀ b, b < h.next → h3.get b = h.get b := fun b hb => by rw [x2.2 b (by omega), x1.2 b (by omega), xH.2 b hb]
  have lw1' : Lw h3 (h.next + 2 ≤ ·) v1 t1 := lw1.frame x2.1 fun b _ hb => x2.2 b hb
  have lo1' : LOps h3 (h.next + 2 ≤ ·) v1 := lo1.frame x2.1 fun b _ hb => x2.2 b hb
  have lv2' : Lv h3 (h.next + 2 ≤ ·) v2 t2 := lv2.weak fun b hb _ => by omega
  refine EvD.lk (fun f _ _ => if f = 105 then (v1, h2) else (v2, h3)) ?_
  simp only [ok1, ok2, g0H, g1H, g0, g1, g03, g13, on1, on2, ce1, ce2, HN, RW, RX, VOp.fresh, bxC, bsC, un, most, callsOf, seval, Int.reducePow, ↓reduceIte, Nat.reduceEqDiff, reduceCtorEq]
  refine ⟨⟨⟨?_, trivial⟩, trivial⟩, ?_⟩
  · show Lk _ _ _ _
    simp only [Lk, wanted, g0H, g0, g03, HN, RX, VOp.fresh, bxC, bsC, un, most, callsOf, seval, Int.reducePow, ↓reduceIte, Nat.reduceEqDiff, reduceCtorEq]
  have e4 : ∀ X Y Z, Ext h (((h3.put h.next X).put h.next Y).put (h.next + 1) Z) := fun X Y Z => ⟨by rw [put_next, put_next, put_next]; omega, fun b hb => by rw [Heap.get_put, if_neg (by omega), Heap.get_put, if_neg (by omega), Heap.get_put, if_neg (by omega)]; exact k3 b hb⟩
  have f4 : ∀ X Y Z, ∀ b, h.next + 2 ≤ b → b < h3.next → (((h3.put h.next X).put h.next Y).put (h.next + 1) Z).get b = h3.get b := fun X Y Z b hb _ => by rw [Heap.get_put, if_neg (by omega), Heap.get_put, if_neg (by omega), Heap.get_put, if_neg (by omega)]
  have n4 : ∀ X Y Z, h3.next ≤ (((h3.put h.next X).put h.next Y).put (h.next + 1) Z).next := fun X Y Z => by rw [put_next, put_next, put_next]; exact Nat.le_refl _
  exact q _ _ t1 t2 _ ((lw1'.frame (n4 _ _ _) (f4 _ _ _)).weak fun b hb _ => by omega) is1 ((lo1'.frame (n4 _ _ _) (f4 _ _ _)).weak fun b hb => by omega) ((lv2'.frame (n4 _ _ _) (f4 _ _ _)).weak fun b hb _ => by omega) is2 on1 on2 (e4 _ _ _)
end
end Go.Proofs.Ytinonmcnofjeeaa.VM
namespace Go.Proofs.Ytinonmcnofjeeaa.VM
attribute [local irreducible] Af Nx EvO Ev Un Gd Cd EvR EvQ EvC Nc Gc Lp EvM NxM AfM GdM EvMR EvMQ EvMD EvMC Nm Gm
/-- a message, told -/
structure Mw where
  m : Ms
  a : AV
  u : AV
  ha : IsL 112 ROp a m.ops
  hu : IsL 40 RFeat u m.fs
open Classical in
noncomputable def mE (m : Ms) : Bool := decide (msOk m ∧ (msB m).length ≤ 16384)
theorem mE_ok {m : Ms} (h : mE m = true) : msOk m := by
  unfold mE at h
  simp only [decide_eq_true_eq] at h
  exact h.1
theorem ops_empty {m : Ms} (ok : msOk m) : ∀ o ∈ m.ops, o.kind ≠ 0 → o.f.rings = [] := by
  obtain ⟨_, _, _, _, _, h, _, _⟩ := ok
  intro o ho hk
  unfold opsM at h
  split at h
  · obtain ⟨_, h⟩ := h
    obtain ⟨i, hi, rfl⟩ := List.getElem_of_mem ho
    have := (h.2.2 i hi).1
    rw [getD_op hi] at this
    rcases this with c | c | c
    · exact absurd c.1 hk
    · exact c.2.2.2.1.2.2
    · exact c.2.2.2.2.2
  · rw [h.2] at ho
    simp at ho
theorem msC_one {m : Ms} {a u : AV} (oa : a.one = true) (ou : u.one = true) : (msC m a u).all AV.one = true := by
  simp [msC, List.all_cons, one_int, one_bool, oa, ou]
/-- a message's copy: its cells, told -/
def PMs (h : Heap) (B : Nat → Prop) (m : Ms) (c t : List AV) : Prop := ∃ a u ta tu, c = msC m a u ∧ t = msC m ta tu ∧ (Lw h B a ta ∧ IsL 112 ROp ta m.ops ∧ LOps h B a) ∧ (Lw h B u tu ∧ IsL 40 RFeat tu m.fs ∧ LFeats h B u)
section
variable {h h' : Heap} {B B' : Nat → Prop}
theorem LOps.one {v : AV} (l : LOps h B v) : v.one = true := by
  rcases l with e | ⟨_, _, _, _, rfl, _⟩
  · exact e.one
  · rfl
theorem LFeats.one {v : AV} (l : LFeats h B v) : v.one = true := by
  rcases l with e | ⟨_, _, _, _, rfl, _⟩
  · exact e.one
  · rfl
theorem LOps.noI {v : AV} (l : LOps h B v) : NoI v := by
  rcases l with e | ⟨_, _, _, _, e, _⟩
  · exact e.noI
  · rw [e]; intro m e; cases e
theorem LFeats.noI {v : AV} (l : LFeats h B v) : NoI v := by
  rcases l with e | ⟨_, _, _, _, e, _⟩
  · exact e.noI
  · rw [e]; intro m e; cases e
theorem LPts.weakL {v : AV} (l : LPts h B v) (k : ∀ b, B b → b < h.next → B' b) : LPts h B' v := by
  rcases l with e | ⟨b, off, n, cap, rfl, a1, a2, a3, a4⟩
  · exact .inl e
  · exact .inr ⟨b, off, n, cap, rfl, a1, k _ a2 a3, a3, a4⟩
theorem LInts.weakL {v : AV} (l : LInts h B v) (k : ∀ b, B b → b < h.next → B' b) : LInts h B' v := by
  rcases l with e | ⟨b, off, n, cap, rfl, a1, a2, a3, a4⟩
  · exact .inl e
  · exact .inr ⟨b, off, n, cap, rfl, a1, k _ a2 a3, a3, a4⟩
theorem LRings.weakL {v : AV} (l : LRings h B v) (k : ∀ b, B b → b < h.next → B' b) : LRings h B' v := by
  rcases l with e | ⟨b, off, n, cap, rfl, a1, a2, a3, a4⟩
  · exact .inl e
  · exact .inr ⟨b, off, n, cap, rfl, a1, k _ a2 a3, a3, fun i hi => let ⟨x, c1, c2⟩ := a4 i hi; ⟨x, c1, c2.weakL k⟩⟩
theorem LFeats.weakL {v : AV} (l : LFeats h B v) (k : ∀ b, B b → b < h.next → B' b) : LFeats h B' v := by
  rcases l with e | ⟨b, off, n, cap, rfl, a1, a2, a3, a4⟩
  · exact .inl e
  · exact .inr ⟨b, off, n, cap, rfl, a1, k _ a2 a3, a3, fun i hi => let ⟨m, x, ax, lx⟩ := a4 i hi; ⟨m, x, ax, lx.weakL k⟩⟩
theorem LOps.weakL {v : AV} (l : LOps h B v) (k : ∀ b, B b → b < h.next → B' b) : LOps h B' v := by
  rcases l with e | ⟨b, off, n, cap, rfl, a1, a2, a3, a4⟩
  · exact .inl e
  · refine .inr ⟨b, off, n, cap, rfl, a1, k _ a2 a3, a3, fun i hi => ?_⟩
    obtain ⟨c1, c2, ⟨x, c3, c4⟩, c5, c6, ⟨y, c7, c8⟩, z, c9, c10⟩ := a4 i hi
    exact ⟨c1, c2, ⟨x, c3, c4.weakL k⟩, c5, c6, ⟨y, c7, c8.weakL k⟩, z, c9, c10.weakL k⟩
theorem PMs.frame {m : Ms} {c t : List AV} (p : PMs h B m c t) (hn : h.next ≤ h'.next) (k : ∀ b, B b → b < h.next → h'.get b = h.get b) : PMs h' B m c t := by
  obtain ⟨a, u, ta, tu, e1, e2, ⟨a1, a2, a3⟩, b1, b2, b3⟩ := p
  exact ⟨a, u, ta, tu, e1, e2, ⟨a1.frame hn k, a2, a3.frame hn k⟩, b1.frame hn k, b2, b3.frame hn k⟩
theorem PMs.weak {m : Ms} {c t : List AV} (p : PMs h B m c t) (k : ∀ b, B b → b < h.next → B' b) : PMs h B' m c t := by
  obtain ⟨a, u, ta, tu, e1, e2, ⟨a1, a2, a3⟩, b1, b2, b3⟩ := p
  exact ⟨a, u, ta, tu, e1, e2, ⟨a1.weak k, a2, a3.weakL k⟩, b1.weak k, b2, b3.weakL k⟩
theorem PMs.lws {m : Ms} {c t : List AV} (p : PMs h B m c t) : Lws h B c t := by
  obtain ⟨a, u, ta, tu, rfl, rfl, ⟨a1, a2, a3⟩, b1, b2, b3⟩ := p
  have i : ∀ n : Int, Lw h B (.int .i64 n) (.int .i64 n) := fun n => .told rfl rfl
  have bb : ∀ b : Bool, Lw h B (.bool b) (.bool b) := fun n => .told rfl rfl
  exact .cons (i _) (.cons (i _) (.cons (i _) (.cons (i _) (.cons (i _) (.cons (i _) (.cons (bb _) (.cons (i _) (.cons (i _) (.cons (bb _) (.cons (i _) (.cons (i _) (.cons (i _) (.cons (i _) (.cons a1 (.cons b1 .nil)))))))))))))))
theorem PMs.one {m : Ms} {c t : List AV} (p : PMs h B m c t) : c.all AV.one = true := by
  obtain ⟨a, u, ta, tu, rfl, rfl, ⟨a1, a2, a3⟩, b1, b2, b3⟩ := p
  exact msC_one a3.one b3.one
theorem PMs.len {m : Ms} {c t : List AV} (p : PMs h B m c t) : c.length = 16 ∧ t.length = 16 := by
  obtain ⟨a, u, ta, tu, rfl, rfl, _⟩ := p
  exact ⟨rfl, rfl⟩
inductive CatM (h : Heap) (B : Nat → Prop) : List Ms → List AV → List AV → Prop
  | nil : CatM h B [] [] []
  | cons {m : Ms} {l : List Ms} {c t A U : List AV} (p : PMs h B m c t) (k : CatM h B l A U) : CatM h B (m :: l) (c ++ A) (t ++ U)
theorem CatM.frame {l : List Ms} {A U : List AV} (p : CatM h B l A U) (hn : h.next ≤ h'.next) (k : ∀ b, B b → b < h.next → h'.get b = h.get b) : CatM h' B l A U := by
  induction p with
  | nil => exact .nil
  | cons p _ ih => exact .cons (p.frame hn k) ih
theorem CatM.weak {l : List Ms} {A U : List AV} (p : CatM h B l A U) (k : ∀ b, B b → b < h.next → B' b) : CatM h B' l A U := by
  induction p with
  | nil => exact .nil
  | cons p _ ih => exact .cons (p.weak k) ih
theorem CatM.len {l : List Ms} {A U : List AV} (p : CatM h B l A U) : A.length = l.length * 16 ∧ U.length = l.length * 16 := by
  induction p with
  | nil => exact ⟨rfl, rfl⟩
  | cons p _ ih => obtain ⟨a, b⟩ := p.len; constructor <;> rw [List.length_append, List.length_cons] <;> omega
theorem CatM.lws {l : List Ms} {A U : List AV} (p : CatM h B l A U) : Lws h B A U := by
  induction p with
  | nil => exact .nil
  | cons p _ ih => exact p.lws.app ih
theorem CatM.snoc {l : List Ms} {A U c t : List AV} {m : Ms} (p : CatM h B l A U) (q : PMs h B m c t) : CatM h B (l ++ [m]) (A ++ c) (U ++ t) := by
  induction p with
  | nil =>
    have := CatM.cons q CatM.nil
    rwa [List.append_nil, List.append_nil] at this
  | cons p _ ih => rw [List.append_assoc, List.append_assoc]; exact .cons p ih
theorem CatM.at {l : List Ms} {A U : List AV} (p : CatM h B l A U) : ∀ {i : Nat} (hi : i < l.length), ∃ c t r, A.drop (i * 16) = c ++ r ∧ PMs h B l[i] c t := by
  induction p with
  | nil => intro i hi; simp at hi
  | @cons m l c t A U p _ ih =>
    intro i hi
    cases i with
    | zero => exact ⟨c, t, A, by simp, p⟩
    | succ i =>
      obtain ⟨c', t', r, e, q⟩ := ih (i := i) (by simpa using hi)
      refine ⟨c', t', r, ?_, q⟩
      rw [show (i + 1) * 16 = c.length + i * 16 by rw [p.len.1]; omega, ← List.drop_drop, List.drop_left' rfl]
      exact e
end
section
variable {P : Program}
theorem mput_ex (g : Pg P tab) (x : Mw) : Pu P 25 [.agg (msC x.m x.a x.u)] (fun v => ∃ S e, v = .tup [.str S, .int .i64 e] ∧ (e = 0 ↔ mE x.m = true)) := by
  by_cases ok : msOk x.m
  · refine (msgPut_good g x.ha x.hu ok).mono fun v e => ?_
    subst e
    by_cases hl : (msB x.m).length ≤ 16384
    · exact ⟨msB x.m, 0, by simp [msAns, hl], by simp [mE, ok, hl]⟩
    · exact ⟨[], 1600, by simp [msAns, hl], by simp [mE, hl]⟩
  · refine (msgPut_bad g x.ha x.hu ok).mono fun v e => ?_
    subst e
    exact ⟨_, 1600, rfl, by simp [mE, ok]⟩
theorem rput_ex (g : Pg P tab) (x : Mw) : Pu P 26 [.agg (msC x.m x.a x.u)] (fun v => ∃ S e, v = .tup [.str S, .int .i64 e] ∧ (e = 0 ↔ mE x.m = true)) := by
  by_cases ok : msOk x.m
  · refine (rMsgPut_good g x.ha x.hu ok).mono fun v e => ?_
    subst e
    by_cases hl : (msB x.m).length ≤ 16384
    · exact ⟨msB x.m, 0, by simp [msAns, hl], by simp [mE, ok, hl]⟩
    · exact ⟨[], 1600, by simp [msAns, hl], by simp [mE, hl]⟩
  · refine (rMsgPut_bad g x.ha x.hu ok).mono fun v e => ?_
    subst e
    exact ⟨_, 1600, rfl, by simp [mE, ok]⟩
noncomputable def mK (g : Pg P tab) : MsK P Mw where
  C x := msC x.m x.a x.u
  R x y := x.m = y.m
  E x := mE x.m
  len _ := rfl
  one x := msC_one (isL_one x.ha) (isL_one x.hu)
  told x := by simp [msC, AV.tolds, AV.told, x.ha.told tOp, x.hu.told tFeat]
  cp x he := Pu.of (msgCopy_cl g x.ha x.hu (ops_empty (mE_ok he)) fun a' u' ta tu h' l1 i1 lo l2 i2 o1 o2 xx => ⟨.agg (msC x.m ta tu), .agg (PMs.lws (h := h') (B := fun b => 0 ≤ b) (m := x.m) (c := msC x.m a' u') (t := msC x.m ta tu) ⟨a', u', ta, tu, rfl, rfl, ⟨l1, i1, lo⟩, l2.lw, i2, LFeats.ofIs l2 i2⟩).fzfs, ⟨x.m, ta, tu, i1, i2⟩, rfl, rfl⟩)
  pt x := mput_ex g x
theorem allL_loop (g : Pg P tab) {h0 : Heap} {w : AV} {xs : List Mw} (r0 : QRow (mK g) h0 w xs) (hx : xs.length ≤ 64) (hE : ∀ x ∈ xs, mE x.m = true) (n : Nat) : ∀ (i : Nat) (A U : List AV) (s : T AV) (h : Heap) (k : List Fr) (Q : Ex → T AV → Heap → Prop), i + n = xs.length → Ext h0 h → Row h (sg s 3) 16 A i →
    CatM h (fun b => h0.next ≤ b ∧ b ∉ blkOf (sg s 3)) ((xs.map Mw.m).take i) A U → (∀ b ∈ blkOf (sg s 3), h0.next ≤ b) → sg s 11 = w → sg s 12 = .int .i64 xs.length → sg s 13 = .int .i64 i →
    (∀ s' h' A' U', Ext h0 h' → Row h' (sg s' 3) 16 A' xs.length → CatM h' (fun b => h0.next ≤ b ∧ b ∉ blkOf (sg s' 3)) (xs.map Mw.m) A' U' → (∀ b ∈ blkOf (sg s' 3), h0.next ≤ b) → Un P k Q (.exit 0) s' h') → Lp P b41_0 s h (Un P k Q) := by
  induction n with
  | zero =>
    intro i A U s h k Q hi xe r hc hb t11 t12 t13 hQ
    refine g.lpe b41_0.eq_1 ?_
    have c1 : ¬ ((i : Int) < (xs.length : Int)) := by omega
    simp only [t12, t13, c1, RX, VOp.fresh, bxC, bsC, un, most, callsOf, seval, Int.reducePow, ↓reduceIte, Nat.reduceEqDiff, reduceCtorEq]
    obtain rfl : i = xs.length := by omega
    rw [List.take_of_length_le (by rw [List.length_map]; omega)] at hc
    refine hQ _ _ A U xe ?_ ?_ ?_
    · simp only [sg_set, Nat.reduceEqDiff, ↓reduceIte]
      exact r
    · simp only [sg_set, Nat.reduceEqDiff, ↓reduceIte]
      exact hc
    · simp only [sg_set, Nat.reduceEqDiff, ↓reduceIte]
      exact hb
  | succ n ih =>
    intro i A U s h k Q hi xe r hc hb t11 t12 t13 hQ
    refine g.lpe b41_0.eq_1 ?_
    have c1 : (i : Int) < (xs.length : Int) := by omega
    have w1 : IntKind.i64.wrap ((i : Int) + 1) = ((i + 1 : Nat) : Int) := by rw [w64 (by omega) (by omega)]; push_cast; rfl
    have hi' : i < xs.length := by omega
    have rf := r0.frame xe.1 fun b hb => xe.2 b (r0.lt b hb)
    obtain ⟨bb, cap, e2, ver2, L, ew, hb2, g2, hp, hia⟩ := rf.look hi'
    have lC : (msC xs[i].m xs[i].a xs[i].u).length = 16 := rfl
    have oC := (mK g).one xs[i]
    have tC : (msC xs[i].m xs[i].a xs[i].u).take 16 = msC xs[i].m xs[i].a xs[i].u := rfl
    have hCe : (mK g).C xs[i] = msC xs[i].m xs[i].a xs[i].u := rfl
    rw [hCe] at hp oC
    have hs : (xs.map Mw.m).take (i + 1) = (xs.map Mw.m).take i ++ [xs[i].m] := by rw [List.take_succ_eq_append_getElem (by rw [List.length_map]; omega), List.getElem_map]
    have hEi := hE _ (List.getElem_mem hi')
    obtain ⟨⟨m, a, u, ha, hu⟩, hxe⟩ : ∃ x, x = xs[i] := ⟨_, rfl⟩
    rw [← hxe] at lC oC tC hp hEi hs
    simp only at lC oC tC hp hEi hs
    obtain ⟨C, hC⟩ : ∃ C, C = msC m a u := ⟨_, rfl⟩
    rw [← hC] at lC oC tC hp
    simp only [t11, t12, t13, c1, hia, g2, hp, lC, oC, tC, List.append_nil, RW, RX, VOp.fresh, bxC, bsC, un, most, callsOf, seval, Int.reducePow, ↓reduceIte, Nat.reduceEqDiff, reduceCtorEq]
    have x1 := Ext.new (h := h) (o := .cells z16 63 0) (o' := .cells C 63 1)
    have n1 : ((h.mk' h.next (.cells z16 63 0)).put h.next (.cells C 63 1)).next = h.next + 1 := new_next
    generalize (h.mk' h.next (.cells z16 63 0)).put h.next (.cells C 63 1) = h1 at *
    rw [hC]
    refine msgCopy_cl g ha hu (ops_empty (mE_ok hEi)) fun a' u' ta tu h2 l1 i1 lo l2 i2 o1 o2 x2 => ?_
    have pm : PMs h2 (h1.next ≤ ·) m (msC m a' u') (msC m ta tu) := ⟨a', u', ta, tu, rfl, rfl, ⟨l1, i1, lo⟩, l2.lw, i2, LFeats.ofIs l2 i2⟩
    have ol := pm.one
    obtain ⟨C2, hC2⟩ : ∃ C2, C2 = msC m a' u' := ⟨_, rfl⟩
    have ly : C2.length = 16 := by rw [hC2]; rfl
    have ty : C2.take 16 = C2 := List.take_of_length_le (by omega)
    rw [← hC2] at pm ol ⊢
    have x3 := Ext.mk (h := h2) (.cells C2 63 0)
    have hlt := r.lt
    obtain ⟨h3, ea, r3, n3, k3⟩ := (((r.ext x1).ext x2).ext x3).push (nb := h2.next) (by rw [Heap.get_mk, if_pos rfl]) ly ol (bytes := 160) (by unfold most2; omega) 63
    have n23 : (h2.mk' h2.next (.cells C2 63 0)).next = h2.next + 1 := by rw [mk_next]; omega
    rw [n23] at ea r3 n3 k3
    simp only [t13, w1, ly, ty, ea, List.append_nil, RX, VOp.fresh, bxC, bsC, un, most, callsOf, seval, Int.reducePow, ↓reduceIte, Nat.reduceEqDiff, reduceCtorEq]
    have hx1 := xe.1
    have hx2 := x2.1
    have kk : ∀ b, b < h2.next → b ∉ blkOf (sg s 3) → h3.get b = h2.get b := fun b hb' hn => by rw [k3 b hn (by omega), x3.2 b hb']
    refine ih (i + 1) (A ++ C2) (U ++ msC m ta tu) _ h3 k Q (by omega) ⟨by omega, fun b hb' => by rw [kk b (by omega) (fun c => by have := hb b c; omega), x2.2 b (by omega), x1.2 b (by omega)]; exact xe.2 b hb'⟩ ?_ ?_ ?_ ?_ ?_ ?_ hQ
    · simp only [sg_set, Nat.reduceEqDiff, ↓reduceIte]
      exact r3
    · simp only [sg_set, Nat.reduceEqDiff, ↓reduceIte]
      rw [hs]
      have a1 : CatM h3 (fun b => h0.next ≤ b ∧ b ∉ blkOf (.sl (h2.next + 1) 0 (i + 1) (i + 1) 16)) ((xs.map Mw.m).take i) A U :=
        (hc.weak (B' := fun b => (h0.next ≤ b ∧ b ∉ blkOf (sg s 3)) ∧ b < h.next) fun b hb' hl => ⟨hb', hl⟩).frame (by omega) (fun b hb' _ => by rw [kk b (by omega) hb'.1.2, x2.2 b (by omega), x1.2 b hb'.2]) |>.weak fun b hb' _ => ⟨hb'.1.1, by simp [blkOf]; omega⟩
      have a2 : PMs h3 (fun b => h0.next ≤ b ∧ b ∉ blkOf (.sl (h2.next + 1) 0 (i + 1) (i + 1) 16)) m C2 (msC m ta tu) :=
        (pm.weak (B' := fun b => h1.next ≤ b ∧ b < h2.next) fun b hb' hl => ⟨hb', hl⟩).frame (by omega) (fun b hb' _ => kk b hb'.2 fun c => by have := hlt b c; omega) |>.weak fun b hb' _ => ⟨by omega, by simp [blkOf]; omega⟩
      exact a1.snoc a2
    · simp only [sg_set, Nat.reduceEqDiff, ↓reduceIte]
      intro b hb'
      simp only [blkOf, List.mem_singleton] at hb'
      omega
    · simp only [t11, sg_set, Nat.reduceEqDiff, ↓reduceIte]
    · simp only [t12, sg_set, Nat.reduceEqDiff, ↓reduceIte]
    · simp only [sg_set, Nat.reduceEqDiff, ↓reduceIte]
theorem allL_cl (g : Pg P tab) {h : Heap} {qb : Nat} {mo : Int} {xs : List Mw} {D : List Nat} (q : QS (mK g) h qb mo xs D) (hE : ∀ x ∈ xs, mE x.m = true) {Q : AV → Heap → Prop}
    (k : ∀ h' v A U, Ext h h' → Row h' v 16 A xs.length → CatM h' (fun b => h.next ≤ b ∧ b ∉ blkOf v) (xs.map Mw.m) A U → (∀ b ∈ blkOf v, h.next ≤ b) → Q v h') : Cl P 41 [.ptr qb 0] h Q := by
  refine g.cl (vf := v41) rfl rfl ?_
  obtain ⟨a, b, ⟨c1, c2⟩, e1, ver1, v1, gq, r, rfl⟩ := q
  simp only [v41, HE, gq, r.len, RX, VOp.fresh, bxC, bsC, un, most, callsOf, seval, Int.reducePow, ↓reduceIte, Nat.reduceEqDiff, reduceCtorEq]
  refine allL_loop g r (by omega) hE xs.length 0 [] [] _ h _ _ (by omega) (Ext.refl _) ?_ .nil ?_ ?_ ?_ ?_ fun s' h' A U x' r' c' hb => ?_
  · simp only [sg_set, Nat.reduceEqDiff, ↓reduceIte]
    exact .nil _ _
  · simp only [sg_set, Nat.reduceEqDiff, ↓reduceIte]
    intro b hb; simp [blkOf] at hb
  · simp only [sg_set, Nat.reduceEqDiff, ↓reduceIte]
  · simp only [sg_set, Nat.reduceEqDiff, ↓reduceIte]
  · simp only [sg_set, Nat.reduceEqDiff, ↓reduceIte]
    rfl
  simp only [RX, VOp.fresh, bxC, bsC, un, most, callsOf, seval, Int.reducePow, ↓reduceIte, Nat.reduceEqDiff, reduceCtorEq]
  exact k h' _ A U x' r' c' hb
end
end Go.Proofs.Ytinonmcnofjeeaa.VM
namespace Go.Proofs.Ytinonmcnofjeeaa.VM
attribute [local irreducible] Af Nx EvO Ev Un Gd Cd EvR EvQ EvC Nc Gc Lp EvM NxM AfM GdM EvMR EvMQ EvMD EvMC Nm Gm
section
variable {P : Program} {α : Type} {K : MsK P α} {h h' : Heap} {v : AV} {xs : List α}
/-- messages of a row are put behind -/
theorem QRow.appS {b cap : Nat} (r : QRow K h (.sl b 0 xs.length cap 16) xs) {zs : List α} {m : Nat} {x : AV} (hx : cellsOf h 16 m x = some (K.row zs)) (hl : lenV x = some m) (hm : zs.length = m) (h64 : xs.length + m ≤ 64) :
    ∃ v' h', appendV h 16 160 63 (.sl b 0 xs.length cap 16) x = some (v', h') ∧ (∃ b' cap', v' = .sl b' 0 (xs ++ zs).length cap' 16) ∧ QRow K h' v' (xs ++ zs) ∧ h.next ≤ h'.next ∧ (∀ c ∈ blkOf v', c = b ∨ h.next ≤ c) ∧ ∀ c, c < h.next → c ≠ b → h'.get c = h.get c := by
  have hlz := K.row_len zs
  have hoz := K.row_all zs
  rcases r with ⟨e, _⟩ | ⟨b', cap', eb, vb, z, e, hb, hg, hz, hzo⟩
  · cases e
  cases e
  have e0 : cellsOf h 16 xs.length (.sl b 0 xs.length cap 16) = some (K.row xs) := by
    simp only [cellsOf, Nat.le_refl, if_true, hg]
    rw [cut_eq, List.drop_zero, List.take_left' (K.row_len xs), if_pos (K.row_len xs)]
  have hzl : (K.row zs).length = m * 16 := by rw [hlz, hm]
  by_cases hcap : xs.length + m ≤ cap
  · have hw : writeAt h b (0 + xs.length * 16) (K.row zs) = some (h.put b (.cells (K.row xs ++ K.row zs ++ z.drop (m * 16)) eb (vb + 1))) := by
      rw [writeAt_go, hg, wrB_some, if_pos ⟨by rw [List.length_append, K.row_len xs, hzl]; omega, hoz⟩]
      rw [Nat.zero_add, List.take_left' (K.row_len xs), hzl, ← K.row_len xs, List.drop_append, List.drop_of_length_le (by omega), List.nil_append, show (K.row xs).length + m * 16 - (K.row xs).length = m * 16 by omega]
    refine ⟨.sl b 0 (xs.length + m) cap 16, h.put b (.cells (K.row xs ++ K.row zs ++ z.drop (m * 16)) eb (vb + 1)), ?_, ⟨b, cap, by rw [List.length_append, hm]⟩, .inr ⟨b, cap, eb, vb + 1, z.drop (m * 16), by rw [List.length_append, hm], by rw [put_next]; exact hb, by rw [Heap.get_put, if_pos rfl, K.row_app], by rw [List.length_append, List.length_drop, hm]; omega, List.all_eq_true.2 fun y hy => List.all_eq_true.1 hzo y (List.mem_of_mem_drop hy)⟩, by rw [put_next]; exact Nat.le_refl _, fun c hc => by simp [blkOf] at hc; exact .inl hc, fun c hc hn => by rw [Heap.get_put, if_neg hn]⟩
    simp only [appendV, hl, hx, hzl, hoz, hcap, hw, and_self, if_true, Nat.beq_refl, cond_true]
  · refine ⟨.sl h.next 0 (xs.length + m) (xs.length + m) 16, (h.put b .dead).mk' h.next (.cells (K.row xs ++ K.row zs) 63 0), ?_, ⟨_, _, by rw [List.length_append, hm]⟩, .inr ⟨h.next, xs.length + m, 63, 0, [], by rw [List.length_append, hm], by rw [mk_next]; omega, by rw [Heap.get_mk, if_pos rfl, List.append_nil, K.row_app], by rw [List.length_append, hm]; simp, rfl⟩, by rw [mk_next, put_next]; omega, fun c hc => .inr (by simp [blkOf] at hc; omega), fun c hc hn => by rw [Heap.get_mk, if_neg (by omega), Heap.get_put, if_neg hn]⟩
    have e1 : (xs.length + m) * 160 ≤ most2 := by unfold most2; omega
    simp [appendV, hl, hx, hzl, hoz, hcap, e1, e0]
theorem MsK.rnew_cl (K : MsK P α) (g : Pg P tab) {mo : Int} {Q : AV → Heap → Prop} (q1 : 1 ≤ mo ∧ mo ≤ 64 → ∀ qb h', QS K h' qb mo [] [] → h.next ≤ qb → Ext h h' → Q (.tup [.ptr qb 0, .int .i64 0]) h') (q2 : ¬ (1 ≤ mo ∧ mo ≤ 64) → Q (.tup [.nilp, .int .i64 1700]) h) : Cl P 33 [.int .i64 mo] h Q := by
  refine g.cl (vf := v33) rfl rfl ?_
  by_cases c1 : mo < 1
  · simp only [v33, c1, RX, VOp.fresh, bxC, bsC, un, most, callsOf, seval, Int.reducePow, ↓reduceIte, Nat.reduceEqDiff, reduceCtorEq]
    exact q2 (by omega)
  by_cases c2 : 64 < mo
  · simp only [v33, c1, c2, RX, VOp.fresh, bxC, bsC, un, most, callsOf, seval, Int.reducePow, ↓reduceIte, Nat.reduceEqDiff, reduceCtorEq]
    exact q2 (by omega)
  simp only [v33, c1, c2, RX, VOp.fresh, bxC, bsC, un, most, callsOf, seval, Int.reducePow, ↓reduceIte, Nat.reduceEqDiff, reduceCtorEq]
  exact q1 (by omega) _ _ ⟨by rw [mk_next]; omega, by simp, ⟨by simp; omega, by omega⟩, 94, 0, .nils, by rw [Heap.get_mk, if_pos rfl], .inl ⟨rfl, rfl⟩, rfl⟩ (Nat.le_refl _) (Ext.mk _)
end
section
variable {P : Program} {h : Heap} {qb : Nat} {mo : Int} {ys : List Mw} {D : List Nat}
theorem rsend_cl (g : Pg P tab) (x : Mw) (q : QS (mK g) h qb mo ys D) {Q : AV → Heap → Prop}
    (k0 : mE x.m = false → ∀ h', QS (mK g) h' qb mo ys D → Ext h h' → Q (.int .i64 1700) h')
    (k1 : mE x.m = true → ¬ (ys.length : Int) < mo → ∀ h', QS (mK g) h' qb mo ys D → Ext h h' → Q (.int .i64 1701) h')
    (k2 : mE x.m = true → (ys.length : Int) < mo → ∀ h' D', QS (mK g) h' qb mo (ys ++ [x]) D' → QF h h' qb D D' → Q (.int .i64 0) h') : Cl P 36 [.ptr qb 0, .agg (msC x.m x.a x.u)] h Q := by
  refine g.cl (vf := v36) rfl rfl ?_
  have hC : msC x.m x.a x.u = (mK g).C x := rfl
  have lC := (mK g).len x
  have oC := (mK g).one x
  have tC : ((mK g).C x).take 16 = (mK g).C x := List.take_of_length_le (by omega)
  have hput : Pu P 26 [.agg ((mK g).C x)] _ := rput_ex g x
  have htold : AV.tolds [.agg ((mK g).C x)] = true := by simp [AV.tolds, AV.told, (mK g).told x]
  rw [hC]
  generalize hCx : (mK g).C x = C at *
  have x1 := Ext.mk (h := h) (.cells C 63 0)
  have q1 := q.ext x1
  have g1 : (h.mk' h.next (.cells C 63 0)).get h.next = some (.cells C 63 0) := by rw [Heap.get_mk, if_pos rfl]
  have n1 : (h.mk' h.next (.cells C 63 0)).next = h.next + 1 := by rw [mk_next]; omega
  simp only [v36, HE, RX, VOp.fresh, bxC, bsC, un, most, callsOf, seval, Int.reducePow, ↓reduceIte, Nat.reduceEqDiff, reduceCtorEq]
  generalize hH : h.mk' h.next (.cells C 63 0) = h1 at *
  simp only [g1, lC, tC, RX, VOp.fresh, bxC, bsC, un, most, callsOf, seval, Int.reducePow, ↓reduceIte, Nat.reduceEqDiff, reduceCtorEq]
  refine hput.go htold ?_
  rintro v ⟨S, e, rfl, he⟩
  by_cases hE : mE x.m = true
  · obtain rfl := he.2 hE
    obtain ⟨a, b, ⟨c1, c2⟩, e1, ver1, v1, gq, r, rfl⟩ := q1
    by_cases hl : (ys.length : Int) < mo
    · have hl' : ¬ (ys.length : Int) = mo := by omega
      simp only [gq, r.len, hl', RX, VOp.fresh, bxC, bsC, un, most, callsOf, seval, Int.reducePow, ↓reduceIte, Nat.reduceEqDiff, reduceCtorEq]
      have x2 := Ext.mk (h := h1) (.cells C 63 0)
      have g2 : (h1.mk' h1.next (.cells C 63 0)).get h1.next = some (.cells ((mK g).C x) 63 0) := by rw [Heap.get_mk, if_pos rfl, hCx]
      have r2 := r.frame x2.1 fun b hb => x2.2 b (r.lt b hb)
      have gq2 := (x2.2 qb a).trans gq
      have n2 : (h1.mk' h1.next (.cells C 63 0)).next = h1.next + 1 := by rw [mk_next]; omega
      obtain ⟨v3, h3, ea, r3, n3, d3, k3⟩ := r2.push (by omega) g2
      have gq3 := (k3 qb (by omega) b).trans gq2
      have o3 := r3.one
      have c3 := r3.cells
      refine EvD.lk (fun _ _ h => (.undef, h)) ?_
      simp only [gq, g1, gq2, lC, tC, ea, gq3, o3, c3, List.append_nil, RW, RX, VOp.fresh, bxC, bsC, un, most, callsOf, seval, Int.reducePow, ↓reduceIte, Nat.reduceEqDiff, reduceCtorEq]
      refine ⟨⟨⟨?_, trivial⟩, trivial⟩, ?_⟩
      · show Lk _ _ _ _
        simp only [Lk, wanted, gq, gq2, RX, VOp.fresh, bxC, bsC, un, most, callsOf, seval, Int.reducePow, ↓reduceIte, Nat.reduceEqDiff, reduceCtorEq]
      exact k2 hE hl (h3.put qb (.cells [.int .i64 mo, v3] e1 (ver1 + 1))) (blkOf v3)
        ⟨by rw [put_next]; omega, fun hb => (d3 qb hb).elim b (fun e => by omega), ⟨by rw [List.length_append, List.length_singleton]; omega, c2⟩, e1, ver1 + 1, v3, by rw [Heap.get_put, if_pos rfl],
          r3.frame (by rw [put_next]; exact Nat.le_refl _) (fun d hd => by rw [Heap.get_put, if_neg]; intro e; exact (d3 d hd).elim (fun f => b (e ▸ f)) (fun f => by omega)), rfl⟩
        ⟨by rw [put_next]; omega, fun d hd => (d3 d hd).imp id (fun e => by omega), fun d hd hn1 hn2 => by
          rw [Heap.get_put, if_neg hn1, k3 d (by omega) hn2, x2.2 d (by omega), x1.2 d hd]⟩
    · have hl' : (ys.length : Int) = mo := by omega
      simp only [gq, r.len, hl', RX, VOp.fresh, bxC, bsC, un, most, callsOf, seval, Int.reducePow, ↓reduceIte, Nat.reduceEqDiff, reduceCtorEq]
      exact k1 hE hl h1 ⟨a, b, ⟨c1, c2⟩, e1, ver1, v1, gq, r, rfl⟩ x1
  · have hne : ¬ e = 0 := fun c => hE (he.1 c)
    simp only [hne, RX, VOp.fresh, bxC, bsC, un, most, callsOf, seval, Int.reducePow, ↓reduceIte, Nat.reduceEqDiff, reduceCtorEq]
    exact k0 (by simpa using hE) h1 q1 x1
theorem rcopy_cl (g : Pg P tab) (q : QS (mK g) h qb mo ys D) (i : Int) {Q : AV → Heap → Prop}
    (k0 : ¬ (0 ≤ i ∧ i < (ys.length : Int)) → Q (.int .i64 1700) h)
    (k1 : ∀ (j : Nat) (hj : j < ys.length), i = (j : Int) → ¬ (ys.length : Int) < mo → Q (.int .i64 1701) h)
    (k2 : ∀ (j : Nat) (hj : j < ys.length), i = (j : Int) → (ys.length : Int) < mo → ∀ h' D', QS (mK g) h' qb mo (ys ++ [ys[j]]) D' → QF h h' qb D D' → Q (.int .i64 0) h') : Cl P 40 [.ptr qb 0, .int .i64 i] h Q := by
  refine g.cl (vf := v40) rfl rfl ?_
  obtain ⟨a, b, ⟨c1, c2⟩, e1, ver1, v1, gq, r, rfl⟩ := q
  by_cases i0 : i < 0
  · simp only [v40, HE, i0, RW, RX, VOp.fresh, bxC, bsC, un, most, callsOf, seval, Int.reducePow, ↓reduceIte, Nat.reduceEqDiff, reduceCtorEq]
    exact k0 (by omega)
  by_cases i1 : (ys.length : Int) ≤ i
  · simp only [v40, HE, i0, i1, gq, r.len, RW, RX, VOp.fresh, bxC, bsC, un, most, callsOf, seval, Int.reducePow, ↓reduceIte, Nat.reduceEqDiff, reduceCtorEq]
    exact k0 (by omega)
  obtain ⟨j, rfl⟩ : ∃ j : Nat, i = (j : Int) := ⟨i.toNat, by omega⟩
  have hj : j < ys.length := by omega
  obtain ⟨bb, cap, e2, ver2, L, ev, hb2, g2, hp, hia⟩ := r.look hj
  by_cases hl : (ys.length : Int) < mo
  · have hl' : ¬ (ys.length : Int) = mo := by omega
    obtain ⟨C, hC⟩ : ∃ C, C = (mK g).C ys[j] := ⟨_, rfl⟩
    have lC : C.length = 16 := by rw [hC]; exact (mK g).len _
    have oC : C.all AV.one = true := by rw [hC]; exact (mK g).one _
    have tC : C.take 16 = C := List.take_of_length_le (by omega)
    rw [← hC] at hp
    have x2 := Ext.mk (h := h) (.cells C 63 0)
    have gN : (h.mk' h.next (.cells C 63 0)).get h.next = some (.cells ((mK g).C ys[j]) 63 0) := by rw [Heap.get_mk, if_pos rfl, hC]
    have r2 := r.frame x2.1 fun b hb => x2.2 b (r.lt b hb)
    have gq2 := (x2.2 qb a).trans gq
    have n2 : (h.mk' h.next (.cells C 63 0)).next = h.next + 1 := by rw [mk_next]; omega
    obtain ⟨v3, h3, ea, r3, n3, d3, k3⟩ := r2.push (by omega) gN
    have gq3 := (k3 qb (by omega) b).trans gq2
    have o3 := r3.one
    have c3 := r3.cells
    simp only [v40, HE, i0, i1, gq, r.len, hl', RW, RX, VOp.fresh, bxC, bsC, un, most, callsOf, seval, Int.reducePow, ↓reduceIte, Nat.reduceEqDiff, reduceCtorEq]
    refine EvD.lk (fun _ _ h => (.undef, h)) ?_
    simp only [gq, gq2, hia, g2, hp, lC, tC, oC, ea, gq3, o3, c3, List.append_nil, RW, RX, VOp.fresh, bxC, bsC, un, most, callsOf, seval, Int.reducePow, ↓reduceIte, Nat.reduceEqDiff, reduceCtorEq]
    refine ⟨⟨⟨?_, trivial⟩, trivial⟩, ?_⟩
    · show Lk _ _ _ _
      simp only [Lk, wanted, gq, gq2, RX, VOp.fresh, bxC, bsC, un, most, callsOf, seval, Int.reducePow, ↓reduceIte, Nat.reduceEqDiff, reduceCtorEq]
    exact k2 j hj rfl hl (h3.put qb (.cells [.int .i64 mo, v3] e1 (ver1 + 1))) (blkOf v3)
      ⟨by rw [put_next]; omega, fun hb => (d3 qb hb).elim b (fun e => by omega), ⟨by rw [List.length_append, List.length_singleton]; omega, c2⟩, e1, ver1 + 1, v3, by rw [Heap.get_put, if_pos rfl],
        r3.frame (by rw [put_next]; exact Nat.le_refl _) (fun d hd => by rw [Heap.get_put, if_neg]; intro e; exact (d3 d hd).elim (fun f => b (e ▸ f)) (fun f => by omega)), rfl⟩
      ⟨by rw [put_next]; omega, fun d hd => (d3 d hd).imp id (fun e => by omega), fun d hd hn1 hn2 => by
        rw [Heap.get_put, if_neg hn1, k3 d (by omega) hn2, x2.2 d (by omega)]⟩
  · have hl' : (ys.length : Int) = mo := by omega
    have i2 : ¬ mo ≤ (j : Int) := by omega
    simp only [v40, HE, i0, i1, i2, gq, r.len, hl', RW, RX, VOp.fresh, bxC, bsC, un, most, callsOf, seval, Int.reducePow, ↓reduceIte, Nat.reduceEqDiff, reduceCtorEq]
    exact k1 j hj rfl hl
theorem rtake_cl (g : Pg P tab) (q : QS (mK g) h qb mo ys D) (i : Int) {Q : AV → Heap → Prop}
    (k0 : ¬ (0 ≤ i ∧ i < (ys.length : Int)) → ∀ h', QS (mK g) h' qb mo ys D → QF h h' qb D D → Q (.tup [.agg z16, .int .i64 1700]) h')
    (k1 : ∀ (j : Nat) (hj : j < ys.length), i = (j : Int) → ∀ h' D', QS (mK g) h' qb mo (ys.eraseIdx j) D' → QF h h' qb D D' → Q (.tup [.agg (msC ys[j].m ys[j].a ys[j].u), .int .i64 0]) h') : Cl P 38 [.ptr qb 0, .int .i64 i] h Q := by
  refine g.cl (vf := v38) rfl rfl ?_
  obtain ⟨a, b, ⟨c1, c2⟩, e1, ver1, v1, gq, r, rfl⟩ := q
  have hne : ¬ qb = h.next := by omega
  have hne' : ¬ h.next = qb := by omega
  have q0 : QS (mK g) h qb mo ys (blkOf v1) := ⟨a, b, ⟨c1, c2⟩, e1, ver1, v1, gq, r, rfl⟩
  by_cases i0 : i < 0
  · simp only [v38, HE, i0, RW, RX, VOp.fresh, bxC, bsC, un, most, callsOf, seval, Int.reducePow, ↓reduceIte, Nat.reduceEqDiff, reduceCtorEq]
    have x := Ext.new (h := h) (o := .cells z16 63 0) (o' := .cells z16 63 1)
    exact k0 (by omega) _ (q0.ext x) x.qf
  by_cases i1 : (ys.length : Int) ≤ i
  · simp only [v38, HE, i0, i1, hne, gq, r.len, RW, RX, VOp.fresh, bxC, bsC, un, most, callsOf, seval, Int.reducePow, ↓reduceIte, Nat.reduceEqDiff, reduceCtorEq]
    have x := Ext.new (h := h) (o := .cells z16 63 0) (o' := .cells z16 63 1)
    exact k0 (by omega) _ (q0.ext x) x.qf
  obtain ⟨j, rfl⟩ : ∃ j : Nat, i = (j : Int) := ⟨i.toNat, by omega⟩
  have hj : j < ys.length := by omega
  obtain ⟨bb, cap, e2, ver2, L, rfl, hb2, g2, hp, hia⟩ := r.look hj
  have hbq : ¬ qb = bb := fun e => b (by simp [blkOf, e])
  have w1 : IntKind.i64.wrap ((j : Int) + 1) = ((j + 1 : Nat) : Int) := by rw [w64 (by omega) (by omega)]; push_cast; rfl
  have hbn : ¬ bb = h.next := by omega
  have hbn1 : ¬ bb = h.next + 1 := by omega
  have hqn1 : ¬ qb = h.next + 1 := by omega
  have hqn2 : ¬ h.next + 1 = qb := by omega
  obtain ⟨C, hC⟩ : ∃ C, C = (mK g).C ys[j] := ⟨_, rfl⟩
  have hC' : C = msC ys[j].m ys[j].a ys[j].u := hC
  have lC : C.length = 16 := by rw [hC]; exact (mK g).len _
  have oC : C.all AV.one = true := by rw [hC]; exact (mK g).one _
  have tC : C.take 16 = C := List.take_of_length_le (by omega)
  rw [← hC] at hp
  have hqn3 : ¬ qb = h.next + 2 := by omega
  obtain ⟨z, hLz, hcapz, hzz⟩ : ∃ z, L = (mK g).row ys ++ z ∧ ys.length * 16 + z.length = cap * 16 ∧ z.all AV.one = true := by
    rcases r with ⟨e, _⟩ | ⟨b', cap', eb, vb, z, e, _, hg', hz, hzo⟩
    · cases e
    · cases e
      rw [g2] at hg'
      cases hg'
      exact ⟨z, rfl, hz, hzo⟩
  have sHi : sliceV 16 (.sl bb 0 ys.length cap 16) none (some (.int .i64 (j : Int))) none = some (.sl bb 0 j cap 16) := slVhi (b := bb) (off := 0) (len := ys.length) (cap := cap) (sz := 16) (k2 := .i64) (hi := j) (by omega)
  have sLo : sliceV 16 (.sl bb 0 ys.length cap 16) (some (.int .i64 ((j + 1 : Nat) : Int))) none none = some (.sl bb (0 + (j + 1) * 16) (ys.length - (j + 1)) (cap - (j + 1)) 16) := slVlo (b := bb) (off := 0) (len := ys.length) (cap := cap) (sz := 16) (k1 := .i64) (lo := j + 1) (by omega)
  simp only [v38, HE, i0, i1, hne, hbn, hbn1, hqn1, hqn2, hqn3, hne', gq, g2, hp, hia, r.len, lC, oC, tC, w1, sHi, HN, RW, RX, VOp.fresh, bxC, bsC, un, most, callsOf, seval, Int.reducePow, ↓reduceIte, Nat.reduceEqDiff, reduceCtorEq]
  obtain ⟨H0, eH⟩ : ∃ H0, H0 = ((((h.mk' h.next (.cells z16 63 0)).mk' (h.next + 1) (.cells z16 63 0)).put (h.next + 1) (.cells (C ++ []) 63 1)).mk' (h.next + 2) (.cells [] 63 0)) := ⟨_, rfl⟩
  have n0 : H0.next = h.next + 3 := by rw [eH, mk_next, put_next, mk_next, mk_next]; omega
  have x0 : Ext h H0 := by rw [eH]; exact ((((Ext.refl h).mkn (Nat.le_refl _) _).mkn (by omega) _).putn (by omega) _).mkn (by omega) _
  have gNB : H0.get (h.next + 2) = some (.cells [] 63 0) := by rw [eH, Heap.get_mk, if_pos rfl]
  have gm : H0.get (h.next + 1) = some (.cells C 63 1) := by rw [eH, Heap.get_mk, if_neg (by omega), Heap.get_put, if_pos rfl, List.append_nil]
  have gz : H0.get h.next = some (.cells z16 63 0) := by rw [eH, Heap.get_mk, if_neg (by omega), Heap.get_put, if_neg (by omega), Heap.get_mk, if_neg (by omega), Heap.get_mk, if_pos rfl]
  rw [← eH]
  clear eH
  have g2H := (x0.2 bb hb2).trans g2
  have gqH := (x0.2 qb a).trans gq
  have rlen := (mK g).row_len ys
  have hrow : ∀ {H : Heap}, H.get bb = some (.cells L e2 ver2) → cellsOf H 16 j (.sl bb 0 j cap 16) = some ((mK g).row (ys.take j)) ∧ cellsOf H 16 (ys.length - (j + 1)) (.sl bb (0 + (j + 1) * 16) (ys.length - (j + 1)) (cap - (j + 1)) 16) = some ((mK g).row (ys.drop (j + 1))) := by
    intro H hg
    have e1 : (mK g).row ys = (mK g).row (ys.take j) ++ (mK g).row (ys.drop j) := by rw [← (mK g).row_app, List.take_append_drop]
    have e3 : (mK g).row ys = (mK g).row (ys.take (j + 1)) ++ (mK g).row (ys.drop (j + 1)) := by rw [← (mK g).row_app, List.take_append_drop]
    have l1 : ((mK g).row (ys.take j)).length = j * 16 := by rw [(mK g).row_len, List.length_take]; omega
    have l3 : ((mK g).row (ys.take (j + 1))).length = (j + 1) * 16 := by rw [(mK g).row_len, List.length_take]; omega
    have l4 : ((mK g).row (ys.drop (j + 1))).length = (ys.length - (j + 1)) * 16 := by rw [(mK g).row_len, List.length_drop]
    refine ⟨?_, ?_⟩
    · simp only [cellsOf, Nat.le_refl, if_true, hg]
      rw [cut_eq, List.drop_zero, hLz, e1, List.append_assoc, List.take_left' l1, if_pos l1]
    · simp only [cellsOf, Nat.le_refl, if_true, hg]
      rw [cut_eq, hLz, e3, List.append_assoc, Nat.zero_add, List.drop_left' l3, List.take_left' l4, if_pos l4]
  have rr0 : QRow (mK g) H0 (.sl (h.next + 2) 0 ([] : List Mw).length 0 16) [] := .inr ⟨h.next + 2, 0, 63, 0, [], rfl, by omega, by rw [gNB]; rfl, rfl, rfl⟩
  obtain ⟨v2, H1, ea1, ⟨b1, cap1, rfl⟩, r1, m1, d1, k1'⟩ := rr0.appS (zs := ys.take j) (m := j) (x := .sl bb 0 j cap 16) (hrow g2H).1 rfl (by rw [List.length_take]; omega) (by simp; omega)
  have g2H1 := (k1' bb (by omega) (by omega)).trans g2H
  have gqH1 := (k1' qb (by omega) (by omega)).trans gqH
  have gm1 := (k1' (h.next + 1) (by omega) (by omega)).trans gm
  have gz1 := (k1' h.next (by omega) (by omega)).trans gz
  obtain ⟨v3, H2, ea2, ⟨b3, cap3, ev3⟩, r2, m2, d2, k2'⟩ := r1.appS (zs := ys.drop (j + 1)) (m := ys.length - (j + 1)) (x := .sl bb (0 + (j + 1) * 16) (ys.length - (j + 1)) (cap - (j + 1)) 16) (hrow g2H1).2 rfl (by rw [List.length_drop]) (by simp; omega)
  have hb1 : b1 = h.next + 2 ∨ H0.next ≤ b1 := d1 b1 (by simp [blkOf])
  have gqH2 := (k2' qb (by omega) (by omega)).trans gqH1
  have gm2 := (k2' (h.next + 1) (by omega) (by omega)).trans gm1
  have gz2 := (k2' h.next (by omega) (by omega)).trans gz1
  have er : [] ++ ys.take j ++ ys.drop (j + 1) = ys.eraseIdx j := by rw [List.nil_append, List.eraseIdx_eq_take_drop_succ]
  rw [er] at r2 ev3
  have o3 := r2.one
  have c3 := r2.cells
  have le0 : ([] : List Mw).length = 0 := rfl
  rw [le0] at ea1
  rw [Nat.zero_add] at ea2 sLo
  simp only [List.nil_append] at ea2
  simp only [ea1, gqH1, w1, sLo, ea2, gqH2, o3, c3, gm2, gz2, lC, tC, oC, hne', hqn2, HN, List.append_nil, RW, RX, VOp.fresh, bxC, bsC, un, most, callsOf, seval, Int.reducePow, ↓reduceIte, Nat.reduceEqDiff, reduceCtorEq]
  have kk := fun H' D' => k1 j hj rfl H' D'
  rw [← hC'] at kk
  have hqb3 : qb ∉ blkOf v3 := fun hc => by
    rcases d2 qb hc with e | e
    · rcases hb1 with e' | e' <;> omega
    · omega
  refine kk _ (blkOf v3) ⟨by rw [put_next, put_next]; omega, hqb3, ⟨by rw [List.length_eraseIdx_of_lt hj]; omega, c2⟩, e1, ver1 + 1, v3, by rw [Heap.get_put, if_neg hne, Heap.get_put, if_pos rfl], r2.frame (by rw [put_next, put_next]; exact Nat.le_refl _) (fun d hd => ?_), rfl⟩ ⟨by rw [put_next, put_next]; omega, fun d hd => ?_, fun d hd hn1 hn2 => ?_⟩
  · have hlo : h.next + 2 ≤ d := by
      rcases d2 d hd with e | e
      · rcases hb1 with e' | e' <;> omega
      · omega
    rw [Heap.get_put, if_neg (by omega), Heap.get_put, if_neg (by omega)]
  · rcases d2 d hd with e | e
    · rcases hb1 with e' | e'
      · exact .inr (by omega)
      · exact .inr (by omega)
    · exact .inr (by omega)
  · simp only [blkOf, List.mem_singleton] at hn2
    rw [Heap.get_put, if_neg (by omega), Heap.get_put, if_neg hn1, k2' d (by omega) (by rcases hb1 with e' | e' <;> omega), k1' d (by omega) (by omega)]
    exact x0.2 d hd
end
end Go.Proofs.Ytinonmcnofjeeaa.VM
namespace Go.Proofs.Ytinonmcnofjeeaa.VM
attribute [local irreducible] Af Nx EvO Ev Un Gd Cd EvR EvQ EvC Nc Gc Lp EvM NxM AfM GdM EvMR EvMQ EvMD EvMC Nm Gm
def RMs (m : Ms) (c : List AV) : Prop := ∃ a u, c = msC m a u ∧ IsL 112 ROp a m.ops ∧ IsL 40 RFeat u m.fs
theorem lMs16 (m : Ms) (c : List AV) (h : RMs m c) : c.length = 16 := by obtain ⟨a, u, rfl, _⟩ := h; rfl
theorem tMs (m : Ms) (c : List AV) (h : RMs m c) : AV.tolds c = true := by obtain ⟨a, u, rfl, h1, h2⟩ := h; simp [msC, AV.tolds, AV.told, h1.told tOp, h2.told tFeat]
def LMsgs (h : Heap) (B : Nat → Prop) (v : AV) : Prop := Emp v ∨ ∃ b off n cap, v = .sl b off n cap 16 ∧ n ≤ most3 ∧ B b ∧ b < h.next ∧ ∀ i, i < n → AtI h b (off + i * 16 + 2) ∧ (∃ x, At h b (off + i * 16 + 14) x ∧ LOps h B x) ∧ ∃ x, At h b (off + i * 16 + 15) x ∧ LFeats h B x
theorem CatM.cat {h : Heap} {B : Nat → Prop} {l : List Ms} {A U : List AV} (p : CatM h B l A U) : Cat RMs l U := by
  induction p with
  | nil => exact .nil
  | cons p _ ih =>
    obtain ⟨a, u, ta, tu, rfl, rfl, ⟨a1, a2, a3⟩, b1, b2, b3⟩ := p
    exact .cons ⟨ta, tu, rfl, a2, b2⟩ ih
/-- a live row of copies, told and as one to write over -/
theorem CatM.row {h : Heap} {N0 n : Nat} {l : List Ms} {A U : List AV} {v : AV} (p : CatM h (fun b => N0 ≤ b ∧ b ∉ blkOf v) l A U) (r : Row h v 16 A n) (hn : l.length = n) (hb : ∀ b ∈ blkOf v, N0 ≤ b) (h64 : n ≤ 64) : (∃ y, Fz true h v y ∧ IsL 160 RMs y l) ∧ LMsgs h (N0 ≤ ·) v := by
  rcases r with ⟨rfl, h0, hA⟩ | ⟨b, e, ver, rfl, h0, hlt, hlen, hg⟩
  · have : l = [] := List.eq_nil_of_length_eq_zero (by omega)
    subst this
    exact ⟨⟨.nils, .nils, isL_nil _ _⟩, .inl (.inl rfl)⟩
  · have hN := hb b (by simp [blkOf])
    refine ⟨⟨.rs U n, .sl h0 hg ?_ p.lws.fzs, ?_⟩, .inr ⟨b, 0, n, n, rfl, by unfold most3; omega, hN, hlt, fun i hi => ?_⟩⟩
    · rw [cut_eq, List.drop_zero, ← hlen, List.take_length, if_pos rfl]
    · rw [← hn]
      exact isL_rs p.cat (by rw [reach_eq]; omega)
    · obtain ⟨c, t, r, ed, a, u, ta, tu, rfl, _, ⟨_, _, a3⟩, _, _, b3⟩ := p.at (i := i) (by omega)
      have get : ∀ j y, (msC l[i] a u)[j]? = some y → At h b (0 + i * 16 + j) y := fun j y hy => by
        obtain ⟨hj, _⟩ := List.getElem?_eq_some_iff.1 hy
        have : (A.drop (i * 16))[j]? = some y := by rw [ed, List.getElem?_append_left hj]; exact hy
        rw [List.getElem?_drop] at this
        exact ⟨A, e, ver, hg, by rw [Nat.zero_add]; exact this⟩
      exact ⟨⟨_, get 2 _ rfl⟩, ⟨a, get 14 _ rfl, a3.weakL fun b hb _ => hb.1⟩, u, get 15 _ rfl, b3.weakL fun b hb _ => hb.1⟩
section
variable {P : Program}
/-- the document's row, told -/
theorem QRow.told (g : Pg P tab) {h : Heap} {v : AV} {ys : List Mw} (r : QRow (mK g) h v ys) (h64 : ys.length ≤ 64) : ∃ y, Fz true h v y ∧ IsL 160 RMs y (ys.map Mw.m) := by
  have hc : Cat RMs (ys.map Mw.m) ((mK g).row ys) := by
    clear r h64
    induction ys with
    | nil => exact .nil
    | cons x ys ih => exact Cat.cons (a := x.m) ⟨x.a, x.u, rfl, x.ha, x.hu⟩ ih
  have hl := (mK g).row_len ys
  rcases r with ⟨rfl, rfl⟩ | ⟨b, cap, e, ver, z, rfl, hb, hg, hz, hzo⟩
  · exact ⟨.nils, .nils, isL_nil _ _⟩
  · by_cases h0 : ys.length = 0
    · have : ys = [] := List.eq_nil_of_length_eq_zero h0
      subst this
      exact ⟨.rs [] 0, .sl0, ⟨by simp, .inr ⟨[], rfl, .nil⟩⟩⟩
    · refine ⟨.rs ((mK g).row ys) ys.length, .sl (by omega) hg ?_ (Fzs.refl (hc.told tMs)), ?_⟩
      · rw [cut_eq, List.drop_zero, ← hl, List.take_left' rfl, if_pos rfl]
      · have : ys.length = (ys.map Mw.m).length := by rw [List.length_map]
        rw [this]
        exact isL_rs hc (by rw [List.length_map, reach_eq]; omega)
theorem sMsgs_loop (g : Pg P tab) {l : List Ms} {a b : AV} (ha : IsL 160 RMs a l) (hb : IsL 160 RMs b l) (n : Nat) :
    ∀ (i : Nat) (s : T AV) (h : Heap) (k : List Fr) (Q : Ex → T AV → Heap → Prop), i + n = l.length → sg s 0 = a → sg s 1 = b → sg s 5 = .int .i64 i → (∀ s', Un P k Q (.exit 0) s' h) → Lp P b42_0 s h (Un P k Q) := by
  have hbd := ha.bound (by decide)
  induction n with
  | zero =>
    intro i s h k Q hi t0 t1 t5 hK
    refine g.lpe b42_0.eq_1 ?_
    have c1 : ¬ ((i : Int) < (l.length : Int)) := by omega
    simp only [t0, t5, ha.len, c1, RX, VOp.fresh, bxC, bsC, un, most, callsOf, seval, Int.reducePow, ↓reduceIte, Nat.reduceEqDiff, reduceCtorEq]
    exact hK _
  | succ n ih =>
    intro i s h k Q hi t0 t1 t5 hK
    refine g.lpe b42_0.eq_1 ?_
    have c1 : ((i : Int) < (l.length : Int)) := by omega
    have w1 : IntKind.i64.wrap ((i : Int) + 1) = ((i + 1 : Nat) : Int) := by rw [w64 (by omega) (by omega)]; push_cast; rfl
    obtain ⟨ci, ri, hci, hat⟩ := ha.at lMs16 i (by omega)
    obtain ⟨di, si, hdi, hbt⟩ := hb.at lMs16 i (by omega)
    have hp : ∀ {c r : List AV}, RMs l[i] c → part true (c ++ r) 0 16 = some (.agg c) := fun {c r} hc => by
      have : VM.cut (c ++ r) 0 16 = some c := by rw [cut_eq, List.drop_zero, List.take_left' (lMs16 _ _ hc), if_pos (lMs16 _ _ hc)]
      simp only [part, this, if_true]
    have hat' := fun (hh : Heap) (kk : IntKind) => hat hh kk
    obtain ⟨C, hC⟩ : ∃ C, C = ci ++ ri := ⟨_, rfl⟩
    obtain ⟨E, hE⟩ : ∃ E, E = di ++ si := ⟨_, rfl⟩
    have p1 := hp (r := ri) hci
    have p2 := hp (r := si) hdi
    rw [← hC] at hat p1
    rw [← hE] at hbt p2
    simp only [t0, t1, t5, ha.len, c1, hat, hbt, p1, p2, RX, VOp.fresh, bxC, bsC, un, most, callsOf, seval, Int.reducePow, ↓reduceIte, Nat.reduceEqDiff, reduceCtorEq]
    obtain ⟨a1, a2, rfl, i1, i2⟩ := hci
    obtain ⟨b1, b2, rfl, k1, k2⟩ := hdi
    refine (sMsg_pu g i1 i2 k1 k2).go (by simp [msC, AV.tolds, AV.told, i1.told tOp, i2.told tFeat, k1.told tOp, k2.told tFeat]) ?_
    rintro _ rfl
    simp only [t5, w1, RX, VOp.fresh, bxC, bsC, un, most, callsOf, seval, Int.reducePow, ↓reduceIte, Nat.reduceEqDiff, reduceCtorEq]
    refine ih (i + 1) _ h k Q (by omega) ?_ ?_ ?_ hK
    · simp only [t0, sg_set, Nat.reduceEqDiff, ↓reduceIte]
    · simp only [t1, sg_set, Nat.reduceEqDiff, ↓reduceIte]
    · simp only [sg_set, Nat.reduceEqDiff, ↓reduceIte]
theorem sMsgs_pu (g : Pg P tab) {l : List Ms} {a b : AV} (ha : IsL 160 RMs a l) (hb : IsL 160 RMs b l) : Pu P 42 [a, b] (fun v => v = .bool true) := by
  refine g.pu (vf := v42) rfl rfl ?_
  simp only [v42, ha.len, hb.len, RX, VOp.fresh, bxC, bsC, un, most, callsOf, seval, Int.reducePow, ↓reduceIte, Nat.reduceEqDiff, reduceCtorEq]
  refine sMsgs_loop g ha hb l.length 0 _ _ _ _ (by omega) ?_ ?_ ?_ fun s' => ?_
  · simp only [sg_set, Nat.reduceEqDiff, ↓reduceIte]
  · simp only [sg_set, Nat.reduceEqDiff, ↓reduceIte]
  · simp only [sg_set, Nat.reduceEqDiff, ↓reduceIte]
    rfl
  simp only [RX, VOp.fresh, bxC, bsC, un, most, callsOf, seval, Int.reducePow, ↓reduceIte, Nat.reduceEqDiff, reduceCtorEq]
theorem spMsgsL_loop (g : Pg P tab) {B : Nat → Prop} {h0 : Heap} {b off N cap : Nat} (hb : b < h0.next) (hB : B b) (hN : N ≤ most3) (ha : ∀ i, i < N → AtI h0 b (off + i * 16 + 2) ∧ (∃ x, At h0 b (off + i * 16 + 14) x ∧ LOps h0 B x) ∧ ∃ x, At h0 b (off + i * 16 + 15) x ∧ LFeats h0 B x) (n : Nat) :
    ∀ (i : Nat) (s : T AV) (h : Heap) (k : List Fr) (Q : Ex → T AV → Heap → Prop), i + n = N → Sim B h0 h → sg s 0 = .sl b off N cap 16 → sg s 2 = .int .i64 i →
      (∀ s' h', Sim B h0 h' → Un P k Q (.exit 0) s' h') → Lp P b30_0 s h (Un P k Q) := by
  have hN' := hN
  unfold most3 at hN'
  induction n with
  | zero =>
    intro i s h k Q hi hs h1 h2 hK
    refine g.lpe b30_0.eq_1 ?_
    have c1 : ¬ ((i : Int) < (N : Int)) := by omega
    simp only [h1, h2, c1, RX, VOp.fresh, bxC, bsC, un, most, callsOf, seval, Int.reducePow, ↓reduceIte, Nat.reduceEqDiff, reduceCtorEq]
    exact hK _ _ hs
  | succ n ih =>
    intro i s h k Q hi hs h1 h2 hK
    refine g.lpe b30_0.eq_1 ?_
    have c1 : ((i : Int) < (N : Int)) := by omega
    have d0 : 0 ≤ (i : Int) ∧ (i : Int) < (N : Int) ∧ 16 = 16 := ⟨by omega, by omega, rfl⟩
    have w1 : IntKind.i64.wrap ((i : Int) + 1) = ((i + 1 : Nat) : Int) := by rw [w64 (by omega) (by omega)]; push_cast; rfl
    obtain ⟨ai, ⟨x, ax, lx⟩, y, ay, ly⟩ := ha i (by omega)
    have l0 := (ax.sim hb lx.noI hs).ld
    simp only [h1, h2, c1, d0, l0, Int.toNat_natCast, RX, VOp.fresh, bxC, bsC, un, most, callsOf, seval, Int.reducePow, ↓reduceIte, Nat.reduceEqDiff, reduceCtorEq]
    refine spOps_cl g (lx.sim hs) fun _ h3 s3 => ?_
    have hs3 := hs.trans s3
    have l1 := (ay.sim hb ly.noI hs3).ld
    simp only [h1, h2, d0, l1, Int.toNat_natCast, RX, VOp.fresh, bxC, bsC, un, most, callsOf, seval, Int.reducePow, ↓reduceIte, Nat.reduceEqDiff, reduceCtorEq]
    refine spFeats_cl g (ly.sim hs3) fun _ h4 s4 => ?_
    have hs4 := hs3.trans s4
    obtain ⟨m, am⟩ := ai.sim hb hs4
    have ld := am.ld
    obtain ⟨h', hw, hs'⟩ := (ai.sim hb hs4).st hB (bitsOf .xor .i64 m 90)
    simp only [h1, h2, d0, ld, hw, w1, Int.toNat_natCast, RX, VOp.fresh, bxC, bsC, un, most, callsOf, seval, Int.reducePow, ↓reduceIte, Nat.reduceEqDiff, reduceCtorEq]
    refine ih (i + 1) _ h' k Q (by omega) (hs4.trans hs') ?_ ?_ hK
    · simp only [h1, sg_set, Nat.reduceEqDiff, ↓reduceIte]
    · simp only [sg_set, Nat.reduceEqDiff, ↓reduceIte]
theorem spMsgsL_cl (g : Pg P tab) {B : Nat → Prop} {h : Heap} {v : AV} (l : LMsgs h B v) {Q : AV → Heap → Prop} (q : ∀ v h', Sim B h h' → Q v h') : Cl P 30 [v] h Q := by
  refine g.cl (vf := v30) rfl rfl ?_
  rcases l with el | ⟨b, off, n, cap, rfl, a1, a2, a3, a4⟩
  · simp only [v30, RX, VOp.fresh, bxC, bsC, un, most, callsOf, seval, Int.reducePow, ↓reduceIte, Nat.reduceEqDiff, reduceCtorEq]
    refine g.lpe b30_0.eq_1 ?_
    simp only [el.len, RX, VOp.fresh, bxC, bsC, un, most, callsOf, seval, Int.reducePow, ↓reduceIte, Nat.reduceEqDiff, reduceCtorEq]
    exact q _ _ Sim.refl
  · simp only [v30, RX, VOp.fresh, bxC, bsC, un, most, callsOf, seval, Int.reducePow, ↓reduceIte, Nat.reduceEqDiff, reduceCtorEq]
    refine spMsgsL_loop g (cap := cap) a3 a2 a1 a4 n 0 _ _ _ _ (by omega) Sim.refl ?_ ?_ fun s' h' hs => ?_
    · simp only [sg_set, Nat.reduceEqDiff, ↓reduceIte]
    · simp only [sg_set, Nat.reduceEqDiff, ↓reduceIte]
      rfl
    simp only [RX, VOp.fresh, bxC, bsC, un, most, callsOf, seval, Int.reducePow, ↓reduceIte, Nat.reduceEqDiff, reduceCtorEq]
    exact q _ _ hs
end
end Go.Proofs.Ytinonmcnofjeeaa.VM
namespace Go.Proofs.Ytinonmcnofjeeaa.VM
attribute [local irreducible] Af Nx EvO Ev Un Gd Cd EvR EvQ EvC Nc Gc Lp EvM NxM AfM GdM EvMR EvMQ EvMD EvMC Nm Gm
def sw10 : VCode := match b10_0 with | .seq _ (.seq (.block _ (.seq _ (.seq (.block _ t) _))) _) => t | x => x
def tail10 : VCode := match b10_0 with | .seq _ (.seq (.block _ (.seq _ (.seq _ t))) _) => t | x => x
theorem ms_fz {h : Heap} {m : Ms} {a a' u u' : AV} (fa : Fz true h a a') (fu : Fz true h u u') : Fzs true h (msC m a u) (msC m a' u') :=
  .cons (.int _ _) (.cons (.int _ _) (.cons (.int _ _) (.cons (.int _ _) (.cons (.int _ _) (.cons (.int _ _) (.cons (.bool _) (.cons (.int _ _) (.cons (.int _ _) (.cons (.bool _) (.cons (.int _ _) (.cons (.int _ _) (.cons (.int _ _) (.cons (.int _ _) (.cons fa (.cons fu .nil)))))))))))))))
section
variable {P : Program}
/-- both queues -/
structure AI (g : Pg P tab) (h : Heap) (qb rb : Nat) (mo : Int) (xs ys : List Mw) (D E : List Nat) : Prop where
  q : QS (mK g) h qb mo xs D
  r : QS (mK g) h rb mo ys E
  eq : xs.map Mw.m = ys.map Mw.m
  ok : ∀ x ∈ xs, mE x.m = true
  ne : qb ≠ rb
  n1 : rb ∉ D
  n2 : qb ∉ E
  dj : ∀ b ∈ D, b ∉ E
section
variable {g : Pg P tab} {h h' : Heap} {qb rb : Nat} {mo : Int} {xs ys xs' ys' : List Mw} {D E D' E' : List Nat}
theorem AI.len (i : AI g h qb rb mo xs ys D E) : ys.length = xs.length := by
  have := congrArg List.length i.eq
  simpa using this.symm
theorem AI.ext (i : AI g h qb rb mo xs ys D E) (x : Ext h h') : AI g h' qb rb mo xs ys D E := ⟨i.q.ext x, i.r.ext x, i.eq, i.ok, i.ne, i.n1, i.n2, i.dj⟩
theorem AI.sim (i : AI g h qb rb mo xs ys D E) {B : Nat → Prop} (s : Sim B h h') (hB : ∀ b, B b → b ≠ qb ∧ b ≠ rb ∧ b ∉ D ∧ b ∉ E) : AI g h' qb rb mo xs ys D E :=
  ⟨i.q.frame' s.1 ((s.2 _ i.q.1).1 fun c => (hB _ c).1 rfl) fun b hb => (s.2 _ (i.q.lt b hb)).1 fun c => (hB _ c).2.2.1 hb,
   i.r.frame' s.1 ((s.2 _ i.r.1).1 fun c => (hB _ c).2.1 rfl) fun b hb => (s.2 _ (i.r.lt b hb)).1 fun c => (hB _ c).2.2.2 hb, i.eq, i.ok, i.ne, i.n1, i.n2, i.dj⟩
/-- the program's queue has been turned -/
theorem AI.stepQ (i : AI g h qb rb mo xs ys D E) (q : QS (mK g) h' qb mo xs' D') (f : QF h h' qb D D') : QS (mK g) h' rb mo ys E ∧ rb ∉ D' ∧ ∀ b ∈ D', b ∉ E := by
  have hr := i.r.1
  refine ⟨i.r.frame' f.1 (f.2.2 rb hr (fun e => i.ne e.symm) i.n1) fun b hb => f.2.2 b (i.r.lt b hb) (fun e => i.n2 (e ▸ hb)) fun c => i.dj b c hb, fun hc => ?_, fun b hb hc => ?_⟩
  · rcases f.2.1 rb hc with e | e
    · exact i.n1 e
    · omega
  · rcases f.2.1 b hb with e | e
    · exact i.dj b e hc
    · have := i.r.lt b hc; omega
/-- then the document's -/
theorem AI.stepR (q : QS (mK g) h qb mo xs D) (r : QS (mK g) h rb mo ys E) (ne : qb ≠ rb) (n1 : rb ∉ D) (n2 : qb ∉ E) (dj : ∀ b ∈ D, b ∉ E) (r' : QS (mK g) h' rb mo ys' E') (f : QF h h' rb E E') (eq : xs.map Mw.m = ys'.map Mw.m) (ok : ∀ x ∈ xs, mE x.m = true) : AI g h' qb rb mo xs ys' D E' := by
  have hq := q.1
  refine ⟨q.frame' f.1 (f.2.2 qb hq ne n2) fun b hb => f.2.2 b (q.lt b hb) (fun e => n1 (e ▸ hb)) fun c => dj b hb c, r', eq, ok, ne, n1, fun hc => ?_, fun b hb hc => ?_⟩
  · rcases f.2.1 qb hc with e | e
    · exact n2 e
    · omega
  · rcases f.2.1 b hc with e | e
    · exact dj b hb e
    · have := q.lt b hb; omega
end
theorem acts_tail (g : Pg P tab) {qb rb : Nat} {mo : Int} {xs ys : List Mw} {D E : List Nat} {s : T AV} {h : Heap} {k : List Fr} {Q : Ex → T AV → Heap → Prop} (i : AI g h qb rb mo xs ys D E) (t5 : sg s 5 = .ptr qb 0) (t7 : sg s 7 = .ptr rb 0)
    (hQ : ∀ s' h', AI g h' qb rb mo xs ys D E → (∀ j, j < 10 → sg s' j = sg s j) → Un P k Q .normal s' h') : Ev P tail10 s h (Un P k Q) := by
  obtain ⟨a, b, ⟨c1, c2⟩, _⟩ := id i.q
  simp only [tail10, b10_0, t5, RX, VOp.fresh, bxC, bsC, un, most, callsOf, seval, Int.reducePow, ↓reduceIte, Nat.reduceEqDiff, reduceCtorEq]
  refine allL_cl g i.q i.ok fun h1 v A U x1 r1 cm hb => ?_
  obtain ⟨⟨y, fy, iy⟩, lm⟩ := cm.row r1 (by rw [List.length_map]) hb (by omega)
  have i1 := i.ext x1
  obtain ⟨ar, br, _, e2, ver2, rv, gr, rr, _⟩ := id i1.r
  obtain ⟨z, fz, iz⟩ := rr.told g (by rw [i.len]; omega)
  rw [← i.eq] at iz
  simp only [t7, gr, RX, VOp.fresh, bxC, bsC, un, most, callsOf, seval, Int.reducePow, ↓reduceIte, Nat.reduceEqDiff, reduceCtorEq]
  refine (sMsgs_pu g iy iz).cl (.cons fy (.cons fz .nil)) ?_
  rintro _ rfl
  simp only [RX, VOp.fresh, bxC, bsC, un, most, callsOf, seval, Int.reducePow, ↓reduceIte, Nat.reduceEqDiff, reduceCtorEq]
  refine spMsgsL_cl g lm fun _ h2 s2 => ?_
  have hlt := i.q.1
  have hlt2 := i.r.1
  have i2 : AI g h2 qb rb mo xs ys D E := i1.sim s2 fun b hb => ⟨by omega, by omega, fun c => by have := i.q.lt b c; omega, fun c => by have := i.r.lt b c; omega⟩
  simp only [RX, VOp.fresh, bxC, bsC, un, most, callsOf, seval, Int.reducePow, ↓reduceIte, Nat.reduceEqDiff, reduceCtorEq]
  exact hQ _ _ i2 fun j hj => by simp only [sg_set]; repeat rw [if_neg (by omega)]
theorem sw_send10 (g : Pg P tab) {qb rb : Nat} {mo : Int} {xs ys : List Mw} {D E : List Nat} {s : T AV} {h : Heap} {k : List Fr} {Q : Ex → T AV → Heap → Prop} (i : AI g h qb rb mo xs ys D E) (t5 : sg s 5 = .ptr qb 0) (t7 : sg s 7 = .ptr rb 0)
    {ab e0 v0 : Nat} {kd at0 : Int} (x : Mw) {W : List AV} (hW : W = .int .i64 kd :: (msC x.m x.a x.u ++ [.int .i64 at0])) (hg : h.get ab = some (.cells W e0 v0)) (hab : ab < h.next) (t10 : sg s 10 = .ptr ab 0) (hne : ab ≠ qb ∧ ab ∉ D) (hk : kd < 4)
    (hQ : ∀ s' h' xs' ys' D' E', AI g h' qb rb mo xs' ys' D' E' → (∀ j, j < 10 → sg s' j = sg s j) → Un P k Q .normal s' h') : Ev P sw10 s h (Un P k Q) := by
  obtain ⟨m, a, u, ha, hu⟩ := x
  simp only at hW
  have oa := isL_one ha
  have ou := isL_one hu
  have pk : part false W 0 1 = some (.int .i64 kd) := by rw [hW]; rfl
  obtain ⟨C, hC⟩ : ∃ C, C = msC m a u := ⟨_, rfl⟩
  have pm : part true W 1 16 = some (.agg C) := by rw [hW, hC]; rfl
  have po : part false W 15 1 = some a := by rw [hW]; rfl
  have lC : C.length = 16 := by rw [hC]; rfl
  have oC : C.all AV.one = true := by rw [hC]; exact msC_one oa ou
  have x0 := Ext.new (h := h) (o := .cells z16 63 0) (o' := .cells C 63 1)
  have n0 : ((h.mk' h.next (.cells z16 63 0)).put h.next (.cells C 63 1)).next = h.next + 1 := new_next
  have gT0 : ((h.mk' h.next (.cells z16 63 0)).put h.next (.cells C 63 1)).get h.next = some (.cells C 63 1) := by rw [Heap.get_put, if_pos rfl]
  have nab : ¬ ab = h.next := by omega
  have zz : msC m a u = C := hC.symm
  simp only [sw10, b10_0, t10, hg, pk, pm, po, hk, lC, oC, nab, List.append_nil, HN, RW, RX, VOp.fresh, bxC, bsC, un, most, callsOf, seval, Int.reducePow, ↓reduceIte, Nat.reduceEqDiff, reduceCtorEq]
  obtain ⟨H0, eH⟩ : ∃ H0, H0 = (h.mk' h.next (.cells z16 63 0)).put h.next (.cells C 63 1) := ⟨_, rfl⟩
  have nH : H0.next = h.next + 1 := by rw [eH]; exact new_next
  have gT : H0.get h.next = some (.cells C 63 1) := by rw [eH, Heap.get_put, if_pos rfl]
  have xH : Ext h H0 := by rw [eH]; exact x0
  rw [← eH]
  clear eH x0 n0 gT0
  refine copyOps_cl g ha fun v t h1 lv it cv ov x1 => ?_
  have x01 := xH.trans x1
  have gT1 := (x1.2 h.next (by omega)).trans gT
  have hn1 := x1.1
  obtain ⟨C2, hC2⟩ : ∃ C2, C2 = msC m v u := ⟨_, rfl⟩
  have lC2 : C2.length = 16 := by rw [hC2]; rfl
  have oC2 : C2.all AV.one = true := by rw [hC2]; exact msC_one ov ou
  have tC2 : C2.take 16 = C2 := List.take_of_length_le (by omega)
  have hset : C.set 14 v = C2 := by rw [hC, hC2]; rfl
  have hw := wr_at gT1 (show 14 < C.length by omega) ov
  rw [hset] at hw
  have p2 : part true C2 0 16 = some (.agg C2) := by
    have : VM.cut C2 0 16 = some C2 := by rw [cut_eq, List.drop_zero, List.take_of_length_le (by omega), if_pos lC2]
    simp only [part, this, if_true]
  have po2 : part false C2 14 1 = some v := by rw [hC2]; rfl
  simp only [t5, cv, ov, hw, p2, HN, RW, RX, VOp.fresh, bxC, bsC, un, most, callsOf, seval, Int.reducePow, ↓reduceIte, Nat.reduceEqDiff, reduceCtorEq]
  have n2 : (h1.put h.next (.cells C2 63 (1 + 1))).next = h1.next := put_next ..
  have g2 : (h1.put h.next (.cells C2 63 (1 + 1))).get h.next = some (.cells C2 63 (1 + 1)) := by rw [Heap.get_put, if_pos rfl]
  have k2 : ∀ b, b ≠ h.next → (h1.put h.next (.cells C2 63 (1 + 1))).get b = h1.get b := fun b hb => by rw [Heap.get_put, if_neg hb]
  generalize h1.put h.next (.cells C2 63 (1 + 1)) = h2 at *
  have x02 : Ext h h2 := ⟨by have := x01.1; omega, fun b hb => by rw [k2 b (by omega)]; exact x01.2 b hb⟩
  have i2 := i.ext x02
  have gW2 := (x02.2 ab hab).trans hg
  have lv2 : Lv h2 (fun b => H0.next ≤ b ∧ b < h2.next) v t := (lv.weak (B' := fun b => H0.next ≤ b ∧ b < h2.next) fun b hb hl => ⟨hb, by omega⟩).frame (by omega) fun b hb _ => k2 b (by omega)
  obtain ⟨qlt, qnd, ⟨qc1, qc2⟩, _⟩ := id i2.q
  have cS : Cl P 35 [.ptr qb 0, .agg C2] h2 (fun r h3 => ∃ e xs' D', r = .int .i64 e ∧ QS (mK g) h3 qb mo xs' D' ∧ QF h2 h3 qb D D' ∧ (∀ y ∈ xs', mE y.m = true) ∧
      ((mE m = false ∧ e = 1700 ∧ xs' = xs) ∨ (mE m = true ∧ ¬ (xs.length : Int) < mo ∧ e = 1701 ∧ xs' = xs) ∨ (mE m = true ∧ (xs.length : Int) < mo ∧ e = 0 ∧ xs'.map Mw.m = xs.map Mw.m ++ [m]))) := by
    refine (mK g).send_cl g (x := ⟨m, t, u, it, hu⟩) i2.q (fun h' x' => ?_) lC2 oC2 (fun hE h' q' x' => ⟨_, rfl, _, xs, D, rfl, q', x'.qf, i.ok, .inl ⟨hE, rfl, rfl⟩⟩) (fun hE hl h' q' x' => ⟨_, rfl, _, xs, D, rfl, q', x'.qf, i.ok, .inr (.inl ⟨hE, hl, rfl, rfl⟩)⟩) (fun hE hl h' y D' hy q' f' => ⟨_, rfl, _, xs ++ [y], D', rfl, q', f', fun z hz => ?_, .inr (.inr ⟨hE, hl, rfl, ?_⟩)⟩)
    · rw [hC2]
      exact ms_fz (lv2.frame x'.1 fun b hb _ => x'.2 b hb.2).fz (Fz.refl (hu.told tFeat))
    · rcases List.mem_append.1 hz with hz | hz
      · exact i.ok z hz
      · rw [List.mem_singleton] at hz
        subst hz
        have e : m = z.m := hy
        rw [← e]
        exact hE
    · have e : m = y.m := hy
      rw [List.map_append, List.map_cons, List.map_nil, ← e]
  refine cS.mono ?_
  rintro _ h3 ⟨e, xs', D', rfl, q3, f3, ok3, out3⟩
  obtain ⟨r3, nr3, dj3⟩ := i2.stepQ q3 f3
  have rlt := i2.r.1
  obtain ⟨_, _, ⟨rc1, rc2⟩, _⟩ := id i2.r
  have cR : Cl P 36 [.ptr rb 0, .agg C] h3 (fun r h4 => ∃ e ys' E', r = .int .i64 e ∧ QS (mK g) h4 rb mo ys' E' ∧ QF h3 h4 rb E E' ∧
      ((mE m = false ∧ e = 1700 ∧ ys' = ys) ∨ (mE m = true ∧ ¬ (ys.length : Int) < mo ∧ e = 1701 ∧ ys' = ys) ∨ (mE m = true ∧ (ys.length : Int) < mo ∧ e = 0 ∧ ys'.map Mw.m = ys.map Mw.m ++ [m]))) := by
    rw [hC]
    exact rsend_cl g ⟨m, a, u, ha, hu⟩ r3 (fun hE h' q' x' => ⟨_, ys, E, rfl, q', x'.qf, .inl ⟨hE, rfl, rfl⟩⟩) (fun hE hl h' q' x' => ⟨_, ys, E, rfl, q', x'.qf, .inr (.inl ⟨hE, hl, rfl, rfl⟩)⟩) (fun hE hl h' E' q' f' => ⟨_, _, E', rfl, q', f', .inr (.inr ⟨hE, hl, rfl, by rw [List.map_append]; rfl⟩)⟩)
  obtain ⟨_, h4, okR, e', ys', E', rfl, r4, f4, out4⟩ := cR
  have hlen := i.len
  obtain ⟨rfl, heq⟩ : e' = e ∧ xs'.map Mw.m = ys'.map Mw.m := by
    rw [hlen] at out4
    rcases out3 with ⟨a1, rfl, rfl⟩ | ⟨a1, a2, rfl, rfl⟩ | ⟨a1, a2, rfl, a3⟩ <;> rcases out4 with ⟨b1, rfl, rfl⟩ | ⟨b1, b2, rfl, rfl⟩ | ⟨b1, b2, rfl, b3⟩ <;>
      first
        | exact ⟨rfl, i.eq⟩
        | exact ⟨rfl, by rw [a3, b3, i.eq]⟩
        | exact absurd b2 a2
        | exact absurd a2 b2
        | (rw [a1] at b1; cases b1; done)
  have ok19 : OK P 19 [.int .i64 e'] h3 (.int .i64 e') h3 := (num_pu g e').exact rfl
  have a4 : AI g h4 qb rb mo xs' ys' D' E' := AI.stepR q3 r3 i.ne nr3 i.n2 dj3 r4 f4 heq ok3
  have gW3 : h3.get ab = some (.cells W e0 v0) := (f3.2.2 ab (by have := x02.1; omega) hne.1 hne.2).trans gW2
  have hTq : h.next ≠ qb ∧ h.next ∉ D ∧ h.next ≠ rb ∧ h.next ∉ E := ⟨by have := i.q.1; omega, fun c => by have := i.q.lt _ c; omega, by have := i.r.1; omega, fun c => by have := i.r.lt _ c; omega⟩
  have gT3 : h3.get h.next = some (.cells C2 63 (1 + 1)) := (f3.2.2 h.next (by omega) hTq.1 hTq.2.1).trans g2
  have gT4 : h4.get h.next = some (.cells C2 63 (1 + 1)) := (f4.2.2 h.next (by have := f3.1; omega) hTq.2.2.1 hTq.2.2.2).trans gT3
  simp only [t7, HN, RW, RX, VOp.fresh, bxC, bsC, un, most, callsOf, seval, Int.reducePow, ↓reduceIte, Nat.reduceEqDiff, reduceCtorEq]
  refine EvD.lk (fun f _ hh => if f = 19 then (.int .i64 e', hh) else (.int .i64 e', h4)) ?_
  simp only [ok19, okR, t7, t10, gW3, pm, gT4, po2, HN, RW, RX, VOp.fresh, bxC, bsC, un, most, callsOf, seval, Int.reducePow, ↓reduceIte, Nat.reduceEqDiff, reduceCtorEq]
  refine ⟨⟨⟨?_, trivial⟩, trivial⟩, ?_⟩
  · show Lk _ _ _ _
    simp only [Lk, wanted, gW3, pm, RX, VOp.fresh, bxC, bsC, un, most, callsOf, seval, Int.reducePow, ↓reduceIte, Nat.reduceEqDiff, reduceCtorEq]
  have lo : LOps h4 (fun b => H0.next ≤ b ∧ b < h2.next) v := (LOps.ofIs lv2 it).frame (by have := f3.1; have := f4.1; omega) fun b hb _ => by
    have h1q := i.q.1
    have h1r := i.r.1
    rw [f4.2.2 b (by have := f3.1; omega) (by omega) fun c => by have := i.r.lt b c; omega, f3.2.2 b (by omega) (by omega) fun c => by have := i.q.lt b c; omega]
  refine spOps_cl g lo fun _ h5 s5 => ?_
  simp only [RX, VOp.fresh, bxC, bsC, un, most, callsOf, seval, Int.reducePow, ↓reduceIte, Nat.reduceEqDiff, reduceCtorEq]
  refine hQ _ h5 xs' ys' D' E' (a4.sim s5 fun b hb => ⟨by have := i.q.1; omega, by have := i.r.1; omega, fun c => ?_, fun c => ?_⟩) fun j hj => by simp only [sg_set]; repeat rw [if_neg (by omega)]
  · rcases f3.2.1 b c with c | c
    · have := i.q.lt b c; omega
    · omega
  · rcases f4.2.1 b c with c | c
    · have := i.r.lt b c; omega
    · have := f3.1; omega
end
end Go.Proofs.Ytinonmcnofjeeaa.VM
namespace Go.Proofs.Ytinonmcnofjeeaa.VM
attribute [local irreducible] Af Nx EvO Ev Un Gd Cd EvR EvQ EvC Nc Gc Lp EvM NxM AfM GdM EvMR EvMQ EvMD EvMC Nm Gm
section
variable {P : Program}
theorem mw_erase {xs ys : List Mw} (h : xs.map Mw.m = ys.map Mw.m) (j : Nat) : (xs.eraseIdx j).map Mw.m = (ys.eraseIdx j).map Mw.m := by
  rw [List.eraseIdx_eq_take_drop_succ, List.eraseIdx_eq_take_drop_succ, List.map_append, List.map_append, List.map_take, List.map_take, List.map_drop, List.map_drop, h]
theorem sw_take10 (g : Pg P tab) {qb rb : Nat} {mo : Int} {xs ys : List Mw} {D E : List Nat} {s : T AV} {h : Heap} {k : List Fr} {Q : Ex → T AV → Heap → Prop} (i : AI g h qb rb mo xs ys D E) (t5 : sg s 5 = .ptr qb 0) (t7 : sg s 7 = .ptr rb 0)
    {ab e0 v0 : Nat} {kd at0 : Int} (x : Mw) {W : List AV} (hW : W = .int .i64 kd :: (msC x.m x.a x.u ++ [.int .i64 at0])) (hg : h.get ab = some (.cells W e0 v0)) (hab : ab < h.next) (t10 : sg s 10 = .ptr ab 0) (hne : ab ≠ qb ∧ ab ∉ D) (hk : ¬ kd < 4) (hk6 : kd < 6)
    (hQ : ∀ s' h' xs' ys' D' E', AI g h' qb rb mo xs' ys' D' E' → (∀ j, j < 10 → sg s' j = sg s j) → Un P k Q .normal s' h') : Ev P sw10 s h (Un P k Q) := by
  have pk : part false W 0 1 = some (.int .i64 kd) := by rw [hW]; rfl
  have pa : part false W 17 1 = some (.int .i64 at0) := by rw [hW]; rfl
  simp only [sw10, b10_0, t10, t5, hg, pk, pa, hk, hk6, HN, RW, RX, VOp.fresh, bxC, bsC, un, most, callsOf, seval, Int.reducePow, ↓reduceIte, Nat.reduceEqDiff, reduceCtorEq]
  have cS : Cl P 37 [.ptr qb 0, .int .i64 at0] h (fun r h3 => ∃ m a1 u1 e xs' D', r = .tup [.agg (msC m a1 u1), .int .i64 e] ∧ IsL 112 ROp a1 m.ops ∧ IsL 40 RFeat u1 m.fs ∧ QS (mK g) h3 qb mo xs' D' ∧ QF h h3 qb D D' ∧ (∀ y ∈ xs', mE y.m = true) ∧
      ((¬ (0 ≤ at0 ∧ at0 < (xs.length : Int)) ∧ e = 1700 ∧ xs' = xs ∧ m = mz) ∨ ∃ (j : Nat) (hj : j < xs.length), at0 = (j : Int) ∧ e = 0 ∧ xs' = xs.eraseIdx j ∧ m = xs[j].m)) := by
    refine (mK g).take_cl g i.q (fun no h' q' f' => ⟨mz, .nils, .nils, _, xs, D, rfl, isL_nil _ _, isL_nil _ _, q', f', i.ok, .inl ⟨no, rfl, rfl, rfl⟩⟩) (fun j hj ej h' q' f' => ⟨xs[j].m, xs[j].a, xs[j].u, _, _, D, rfl, xs[j].ha, xs[j].hu, q', f', fun y hy => i.ok y (List.mem_of_mem_eraseIdx hy), .inr ⟨j, hj, ej, rfl, rfl, rfl⟩⟩)
  refine cS.mono ?_
  rintro _ h3 ⟨m, a1, u1, e, xs', D', rfl, ia1, iu1, q3, f3, ok3, out3⟩
  obtain ⟨r3, nr3, dj3⟩ := i.stepQ q3 f3
  have hlen := i.len
  have gW3 : h3.get ab = some (.cells W e0 v0) := (f3.2.2 ab hab hne.1 hne.2).trans hg
  obtain ⟨C1, hC1⟩ : ∃ C1, C1 = msC m a1 u1 := ⟨_, rfl⟩
  have lC1 : C1.length = 16 := by rw [hC1]; rfl
  have oC1 : C1.all AV.one = true := by rw [hC1]; exact msC_one (isL_one ia1) (isL_one iu1)
  have p1 : part true C1 0 16 = some (.agg C1) := by
    have : VM.cut C1 0 16 = some C1 := by rw [cut_eq, List.drop_zero, List.take_of_length_le (by omega), if_pos lC1]
    simp only [part, this, if_true]
  rw [← hC1]
  have hl3 := f3.1
  have nab3 : ¬ ab = h3.next := by omega
  simp only [t7, t10, gW3, pa, nab3, lC1, oC1, List.append_nil, HN, RW, RX, VOp.fresh, bxC, bsC, un, most, callsOf, seval, Int.reducePow, ↓reduceIte, Nat.reduceEqDiff, reduceCtorEq]
  have x4 := Ext.new (h := h3) (o := .cells z16 63 0) (o' := .cells C1 63 1)
  have n4 : ((h3.mk' h3.next (.cells z16 63 0)).put h3.next (.cells C1 63 1)).next = h3.next + 1 := new_next
  have g4 : ((h3.mk' h3.next (.cells z16 63 0)).put h3.next (.cells C1 63 1)).get h3.next = some (.cells C1 63 1) := by rw [Heap.get_put, if_pos rfl]
  generalize (h3.mk' h3.next (.cells z16 63 0)).put h3.next (.cells C1 63 1) = h4 at *
  have cR : Cl P 38 [.ptr rb 0, .int .i64 at0] h4 (fun r h5 => ∃ a2 u2 ys' E', r = .tup [.agg (msC m a2 u2), .int .i64 e] ∧ IsL 112 ROp a2 m.ops ∧ IsL 40 RFeat u2 m.fs ∧ QS (mK g) h5 rb mo ys' E' ∧ QF h4 h5 rb E E' ∧ xs'.map Mw.m = ys'.map Mw.m) := by
    refine rtake_cl g (r3.ext x4) at0 (fun no h' q' f' => ?_) (fun j hj ej h' E' q' f' => ?_)
    · rcases out3 with ⟨_, rfl, rfl, rfl⟩ | ⟨j, hj, ej, rfl, rfl, rfl⟩
      · exact ⟨.nils, .nils, ys, E, rfl, isL_nil _ _, isL_nil _ _, q', f', i.eq⟩
      · exact absurd ⟨by omega, by omega⟩ no
    · rcases out3 with ⟨no, rfl, rfl, rfl⟩ | ⟨j', hj', ej', rfl, rfl, rfl⟩
      · exact absurd ⟨by omega, by omega⟩ no
      · obtain rfl : j' = j := by omega
        have em : xs[j'].m = ys[j'].m := by
          have : (xs.map Mw.m)[j']? = (ys.map Mw.m)[j']? := by rw [i.eq]
          simpa [List.getElem?_map, List.getElem?_eq_getElem hj, List.getElem?_eq_getElem hj'] using this
        refine ⟨ys[j'].a, ys[j'].u, ys.eraseIdx j', E', by rw [em], by rw [em]; exact ys[j'].ha, by rw [em]; exact ys[j'].hu, q', f', mw_erase i.eq j'⟩
  refine cR.mono ?_
  rintro _ h5 ⟨a2, u2, ys', E', rfl, ia2, iu2, r5, f5, heq⟩
  have a5 : AI g h5 qb rb mo xs' ys' D' E' := AI.stepR (q3.ext x4) (r3.ext x4) i.ne nr3 i.n2 dj3 r5 f5 heq ok3
  obtain ⟨C2, hC2⟩ : ∃ C2, C2 = msC m a2 u2 := ⟨_, rfl⟩
  have lC2 : C2.length = 16 := by rw [hC2]; rfl
  have oC2 : C2.all AV.one = true := by rw [hC2]; exact msC_one (isL_one ia2) (isL_one iu2)
  have p2 : part true C2 0 16 = some (.agg C2) := by
    have : VM.cut C2 0 16 = some C2 := by rw [cut_eq, List.drop_zero, List.take_of_length_le (by omega), if_pos lC2]
    simp only [part, this, if_true]
  rw [← hC2]
  have hrlt := i.r.1
  have g5 : h5.get h3.next = some (.cells C1 63 1) := (f5.2.2 h3.next (by omega) (by omega) (fun c => by have := i.r.lt _ c; omega)).trans g4
  have hl5 := f5.1
  have n35 : ¬ h3.next = h5.next := by omega
  simp only [g5, n35, p1, p2, lC2, oC2, List.append_nil, HN, RW, RX, VOp.fresh, bxC, bsC, un, most, callsOf, seval, Int.reducePow, ↓reduceIte, Nat.reduceEqDiff, reduceCtorEq]
  rw [hC1, hC2]
  have x6 := Ext.new (h := h5) (o := .cells z16 63 0) (o' := .cells C2 63 1)
  rw [hC2] at x6
  generalize (h5.mk' h5.next (.cells z16 63 0)).put h5.next (.cells (msC m a2 u2) 63 1) = h6 at *
  refine (sMsg_pu g ia1 iu1 ia2 iu2).go (by simp [msC, AV.tolds, AV.told, ia1.told tOp, iu1.told tFeat, ia2.told tOp, iu2.told tFeat]) ?_
  rintro _ rfl
  simp only [RX, VOp.fresh, bxC, bsC, un, most, callsOf, seval, Int.reducePow, ↓reduceIte, Nat.reduceEqDiff, reduceCtorEq]
  refine (num_pu g _).go rfl ?_
  rintro _ rfl
  simp only [RX, VOp.fresh, bxC, bsC, un, most, callsOf, seval, Int.reducePow, ↓reduceIte, Nat.reduceEqDiff, reduceCtorEq]
  exact hQ _ h6 xs' ys' D' E' (a5.ext x6) fun j hj => by simp only [sg_set]; repeat rw [if_neg (by omega)]
theorem sw_copy10 (g : Pg P tab) {qb rb : Nat} {mo : Int} {xs ys : List Mw} {D E : List Nat} {s : T AV} {h : Heap} {k : List Fr} {Q : Ex → T AV → Heap → Prop} (i : AI g h qb rb mo xs ys D E) (t5 : sg s 5 = .ptr qb 0) (t7 : sg s 7 = .ptr rb 0)
    {ab e0 v0 : Nat} {kd at0 : Int} (x : Mw) {W : List AV} (hW : W = .int .i64 kd :: (msC x.m x.a x.u ++ [.int .i64 at0])) (hg : h.get ab = some (.cells W e0 v0)) (hab : ab < h.next) (t10 : sg s 10 = .ptr ab 0) (hne : ab ≠ qb ∧ ab ∉ D) (hk : ¬ kd < 4) (hk6 : ¬ kd < 6)
    (hQ : ∀ s' h' xs' ys' D' E', AI g h' qb rb mo xs' ys' D' E' → (∀ j, j < 10 → sg s' j = sg s j) → Un P k Q .normal s' h') : Ev P sw10 s h (Un P k Q) := by
  have pk : part false W 0 1 = some (.int .i64 kd) := by rw [hW]; rfl
  have pa : part false W 17 1 = some (.int .i64 at0) := by rw [hW]; rfl
  simp only [sw10, b10_0, t10, t5, hg, pk, pa, hk, hk6, HN, RW, RX, VOp.fresh, bxC, bsC, un, most, callsOf, seval, Int.reducePow, ↓reduceIte, Nat.reduceEqDiff, reduceCtorEq]
  have cS : Cl P 39 [.ptr qb 0, .int .i64 at0] h (fun r h3 => ∃ e xs' D', r = .int .i64 e ∧ QS (mK g) h3 qb mo xs' D' ∧ QF h h3 qb D D' ∧ (∀ y ∈ xs', mE y.m = true) ∧
      ((¬ (0 ≤ at0 ∧ at0 < (xs.length : Int)) ∧ e = 1700 ∧ xs' = xs) ∨ ∃ (j : Nat) (hj : j < xs.length), at0 = (j : Int) ∧ ((¬ (xs.length : Int) < mo ∧ e = 1701 ∧ xs' = xs) ∨ ((xs.length : Int) < mo ∧ e = 0 ∧ xs'.map Mw.m = xs.map Mw.m ++ [xs[j].m])))) := by
    refine (mK g).copy_cl g i.q (fun no h' q' f' => ⟨_, rfl, _, xs, D, rfl, q', f', i.ok, .inl ⟨no, rfl, rfl⟩⟩) (fun j hj ej hE hl h' q' f' => ⟨_, rfl, _, xs, D, rfl, q', f', i.ok, .inr ⟨j, hj, ej, .inl ⟨hl, rfl, rfl⟩⟩⟩) (fun j hj ej hE hl h' y D' hy q' f' => ⟨_, rfl, _, xs ++ [y], D', rfl, q', f', fun z hz => ?_, .inr ⟨j, hj, ej, .inr ⟨hl, rfl, ?_⟩⟩⟩) i.ok
    · rcases List.mem_append.1 hz with hz | hz
      · exact i.ok z hz
      · rw [List.mem_singleton] at hz
        subst hz
        have e : xs[j].m = z.m := hy
        rw [← e]
        exact hE
    · have e : xs[j].m = y.m := hy
      rw [List.map_append, List.map_cons, List.map_nil, ← e]
  refine cS.mono ?_
  rintro _ h3 ⟨e, xs', D', rfl, q3, f3, ok3, out3⟩
  obtain ⟨r3, nr3, dj3⟩ := i.stepQ q3 f3
  have hlen := i.len
  have gW3 : h3.get ab = some (.cells W e0 v0) := (f3.2.2 ab hab hne.1 hne.2).trans hg
  have cR : Cl P 40 [.ptr rb 0, .int .i64 at0] h3 (fun r h4 => ∃ ys' E', r = .int .i64 e ∧ QS (mK g) h4 rb mo ys' E' ∧ QF h3 h4 rb E E' ∧ xs'.map Mw.m = ys'.map Mw.m) := by
    refine rcopy_cl g r3 at0 (fun no => ?_) (fun j hj ej hl => ?_) (fun j hj ej hl h' E' q' f' => ?_)
    · rcases out3 with ⟨_, rfl, rfl⟩ | ⟨j, hj, ej, _⟩
      · exact ⟨ys, E, rfl, r3, QF.refl, i.eq⟩
      · exact absurd ⟨by omega, by omega⟩ no
    · rcases out3 with ⟨no, _⟩ | ⟨j', hj', ej', ⟨_, rfl, rfl⟩ | ⟨hl', _⟩⟩
      · exact absurd ⟨by omega, by omega⟩ no
      · exact ⟨ys, E, rfl, r3, QF.refl, i.eq⟩
      · exact absurd (by rw [hlen]; exact hl') hl
    · rcases out3 with ⟨no, _⟩ | ⟨j', hj', ej', ⟨hl', _⟩ | ⟨_, rfl, hm⟩⟩
      · exact absurd ⟨by omega, by omega⟩ no
      · exact absurd (by rw [← hlen]; exact hl) hl'
      · obtain rfl : j' = j := by omega
        have em : xs[j'].m = ys[j'].m := by
          have : (xs.map Mw.m)[j']? = (ys.map Mw.m)[j']? := by rw [i.eq]
          simpa [List.getElem?_map, List.getElem?_eq_getElem hj, List.getElem?_eq_getElem hj'] using this
        exact ⟨ys ++ [ys[j']], E', rfl, q', f', by rw [hm, em, i.eq, List.map_append]; rfl⟩
  obtain ⟨_, h4, okR, ys', E', rfl, r4, f4, heq⟩ := cR
  have ok19 : OK P 19 [.int .i64 e] h3 (.int .i64 e) h3 := (num_pu g e).exact rfl
  have a4 : AI g h4 qb rb mo xs' ys' D' E' := AI.stepR q3 r3 i.ne nr3 i.n2 dj3 r4 f4 heq ok3
  simp only [t7, HN, RW, RX, VOp.fresh, bxC, bsC, un, most, callsOf, seval, Int.reducePow, ↓reduceIte, Nat.reduceEqDiff, reduceCtorEq]
  refine EvD.lk (fun f _ hh => if f = 19 then (.int .i64 e, hh) else (.int .i64 e, h4)) ?_
  simp only [ok19, okR, t7, t10, gW3, pa, HN, RW, RX, VOp.fresh, bxC, bsC, un, most, callsOf, seval, Int.reducePow, ↓reduceIte, Nat.reduceEqDiff, reduceCtorEq]
  refine ⟨⟨⟨?_, trivial⟩, trivial⟩, ?_⟩
  · show Lk _ _ _ _
    simp only [Lk, wanted, gW3, pa, RX, VOp.fresh, bxC, bsC, un, most, callsOf, seval, Int.reducePow, ↓reduceIte, Nat.reduceEqDiff, reduceCtorEq]
  exact hQ _ h4 xs' ys' D' E' a4 fun j hj => by simp only [sg_set]; repeat rw [if_neg (by omega)]
end
end Go.Proofs.Ytinonmcnofjeeaa.VM
