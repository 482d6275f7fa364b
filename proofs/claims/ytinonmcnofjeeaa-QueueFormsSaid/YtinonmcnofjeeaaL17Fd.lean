/- Part of a proof: what stands for the program, and its walk. No condition. -/
import Derived.Below
import Derived.ChangeArms
import Derived.ChangeMaps5
import Derived.KernelRfl
import Derived.Laws.Cells
import Derived.Laws.IdiomCopy
import Derived.MapKept
import Derived.Orders
import Derived.SizedLaws
import Derived.WalkKit
import Derived.WalkLawsBesides
import GoSem.Claim
import Derived.Test.YtinonmcnofjeeaaL17Fc
set_option linter.unusedSimpArgs false
set_option linter.unusedVariables false
set_option linter.defProp false
set_option maxHeartbeats 1000000
namespace Go.Proofs.Ytinonmcnofjeeaa.VM
attribute [local irreducible] Af Nx EvO Ev Un Gd Cd EvR EvQ EvC Nc Gc Lp EvM NxM AfM GdM EvMR EvMQ EvMD EvMC Nm Gm
def msB (m : Ms) : List Nat := 77 :: 83 :: (numB m.kind 1 ++ (numB m.frm 1 ++ (numB m.to 1 ++ ((if kTx m.kind = true then txB m.node m.seq else []) ++ ((if kOps m.kind = true then numB (m.base + 1) 4 ++ opsB m.ops else []) ++
  ((if kYes m.kind = true then bitB m.yes else []) ++ ((if kQuery m.kind = true then numB m.query 2 ++ boxB m.box else []) ++ (if kPart m.kind = true then numB m.applied 4 ++ (bitB m.busy ++ fsB m.fs) else []))))))))
theorem By.ms (m : Ms) : By (msB m) := by
  have one : ∀ (b : Bool) (x : List Nat), By x → By (if b = true then x else []) := fun b x h => by split; exact h; exact By.nil
  have h2 : By [77, 83] := fun n hn => by simp at hn; omega
  have := h2.app ((By.num m.kind 1).app ((By.num m.frm 1).app ((By.num m.to 1).app ((one (kTx m.kind) _ ((By.num m.node 1).app (By.num m.seq 2))).app ((one (kOps m.kind) _ ((By.num (m.base + 1) 4).app (By.ops m.ops))).app
    ((one (kYes m.kind) _ (By.num (if m.yes then 1 else 0) 1)).app ((one (kQuery m.kind) _ ((By.num m.query 2).app (By.box m.box))).app (one (kPart m.kind) _ ((By.num m.applied 4).app ((By.num (if m.busy then 1 else 0) 1).app (By.fs m.fs)))))))))))
  exact this
theorem msB_ne (m : Ms) : msB m ≠ [] := by rw [msB]; simp
/-- what is written of a message -/
def msAns (m : Ms) : AV := if (msB m).length ≤ 16384 then .tup [.str (msB m), .int .i64 0] else .tup [.str [], .int .i64 1600]
theorem fsSmall {l : List Feat} (h : featsOk l) : ∀ f ∈ l, featSmall f := by
  intro f hf
  obtain ⟨i, hi, rfl⟩ := List.mem_iff_getElem.1 hf
  rw [← getD_feat hi]
  exact featOk_small (h i hi).1
section
variable {P : Program} {m : Ms} {a u : AV}
theorem msgPut_good (g : Pg P tab) (ha : IsL 112 ROp a m.ops) (hu : IsL 40 RFeat u m.fs) (ok : msOk m) : Pu P 25 [.agg (msC m a u)] (fun v => v = msAns m) := by
  refine g.pu (vf := v25) rfl rfl ?_
  have hm := may_pu g ha hu (t := []) rfl
  rw [List.append_nil] at hm
  have ht := tolds_ms ha hu
  generalize hc : msC m a u = c at hm ht ⊢
  simp only [v25, RX, VOp.fresh, bxC, bsC, un, most, callsOf, seval, Int.reducePow, ↓reduceIte, Nat.reduceEqDiff, reduceCtorEq]
  have hf : Fzs true (({ next := 0, t := T.e } : Heap).mk' 0 (.cells c 63 0)) [.ptr 0 0] [.rp c] := .cons (.ptr (by rw [Heap.get_mk, if_pos rfl]) (Fzs.refl ht)) .nil
  refine hm.cl hf ?_
  rintro x ⟨b, rfl, hb⟩
  cases b
  · exact absurd (hb.2 ok) (by simp)
  clear hm hf hb
  obtain ⟨⟨hk0, hk6⟩, hfr, hto, htx, hy, hops, hq, hpt⟩ := ok

  have head : ∀ {H : Heap} {s : T AV} {k : List Fr} {Q : Ex → T AV → Heap → Prop} {row : List AV}, H.next = 4 → H.get 3 = some (.cells [.sl 2 0 2 2 1] 103 0) → H.get 2 = some (.cells [.int .u8 77, .int .u8 83] 5 0) → H.get 1 = some (.cells row 132 1) → H.get 0 = some (.cells c 63 0) →
      sg s 26 = .agg [.int .i64 m.kind, .int .i64 m.frm, .int .i64 m.to] → sg s 27 = .int .i64 0 → sg s 6 = .ptr 3 0 → sg s 1 = .ptr 0 0 → sg s 4 = .ptr 1 0 →
      (∀ s' h', WR [(1, .cells row 132 1), (0, .cells c 63 0)] h' 3 (77 :: 83 :: (numB m.kind 1 ++ (numB m.frm 1 ++ numB m.to 1))) → sg s' 1 = .ptr 0 0 → sg s' 4 = .ptr 1 0 → sg s' 6 = .ptr 3 0 → Un P k Q (.exit 0) s' h') → Lp P b25_0 s H (Un P k Q) := by
    intro H s k Q row hn g3 g2 g1 g0 a26 a27 a6 a1 a4 hK
    have w0 : WR [(1, .cells row 132 1), (0, .cells c 63 0)] H 3 [77, 83] := by
      refine ⟨by omega, ⟨_, _, _, g3, .inr ⟨2, 5, 0, rfl, by omega, by decide, ?_, g2⟩⟩, ?_⟩
      · intro p hp; simp at hp; rcases hp with rfl | rfl <;> simp
      · intro p hp
        simp only [List.mem_cons, List.not_mem_nil, or_false] at hp
        rcases hp with rfl | rfl
        · exact ⟨by simp only; omega, show (1 : Nat) ≠ 3 by decide, g1⟩
        · exact ⟨by simp only; omega, show (0 : Nat) ≠ 3 by decide, g0⟩
    refine g.lpe b25_0.eq_1 ?_
    simp only [a26, a27, a6, a1, a4, RX, VOp.fresh, bxC, bsC, un, most, callsOf, seval, Int.reducePow, ↓reduceIte, Nat.reduceEqDiff, reduceCtorEq]
    refine wnum (n := 1) g (num1_pu g _) (by decide) w0 (by simp) fun _ h1 w1 => ?_
    simp only [a26, a27, a6, a1, a4, RX, VOp.fresh, bxC, bsC, un, most, callsOf, seval, Int.reducePow, ↓reduceIte, Nat.reduceEqDiff, reduceCtorEq]
    refine g.lpe b25_0.eq_1 ?_
    simp only [a26, a27, a6, a1, a4, RX, VOp.fresh, bxC, bsC, un, most, callsOf, seval, Int.reducePow, ↓reduceIte, Nat.reduceEqDiff, reduceCtorEq]
    refine wnum (n := 1) g (num1_pu g _) (by decide) w1 (by simp [numB_len]) fun _ h2 w2 => ?_
    simp only [a26, a27, a6, a1, a4, RX, VOp.fresh, bxC, bsC, un, most, callsOf, seval, Int.reducePow, ↓reduceIte, Nat.reduceEqDiff, reduceCtorEq]
    refine g.lpe b25_0.eq_1 ?_
    simp only [a26, a27, a6, a1, a4, RX, VOp.fresh, bxC, bsC, un, most, callsOf, seval, Int.reducePow, ↓reduceIte, Nat.reduceEqDiff, reduceCtorEq]
    refine wnum (n := 1) g (num1_pu g _) (by decide) w2 (by simp [numB_len]) fun _ h3 w3 => ?_
    simp only [a26, a27, a6, a1, a4, RX, VOp.fresh, bxC, bsC, un, most, callsOf, seval, Int.reducePow, ↓reduceIte, Nat.reduceEqDiff, reduceCtorEq]
    refine g.lpe b25_0.eq_1 ?_
    simp only [a26, a27, a6, a1, a4, RX, VOp.fresh, bxC, bsC, un, most, callsOf, seval, Int.reducePow, ↓reduceIte, Nat.reduceEqDiff, reduceCtorEq]
    refine hK _ _ (by simpa only [List.append_assoc, List.cons_append, List.nil_append] using w3) ?_ ?_ ?_
    · simp only [a1, sg_set, Nat.reduceEqDiff, ↓reduceIte]
    · simp only [a4, sg_set, Nat.reduceEqDiff, ↓reduceIte]
    · simp only [a6, sg_set, Nat.reduceEqDiff, ↓reduceIte]
  rcases (by omega : m.kind = 0 ∨ m.kind = 1 ∨ m.kind = 2 ∨ m.kind = 3 ∨ m.kind = 4 ∨ m.kind = 5 ∨ m.kind = 6) with ek | ek | ek | ek | ek | ek | ek
  · have hrow : rowV m.kind = .agg [.bool true, .bool true, .bool false, .bool false, .bool false] := by rw [ek]; rfl
    have er : msB m = 77 :: 83 :: (numB m.kind 1 ++ (numB m.frm 1 ++ (numB m.to 1 ++ (txB m.node m.seq ++ (numB (m.base + 1) 4 ++ (opsB m.ops)))))) := by
      have d1 : kTx m.kind = true := by rw [ek]; rfl
      have d2 : kOps m.kind = true := by rw [ek]; rfl
      have d3 : kYes m.kind = false := by rw [ek]; rfl
      have d4 : kQuery m.kind = false := by rw [ek]; rfl
      have d5 : kPart m.kind = false := by rw [ek]; rfl
      rw [msB, d1, d2, d3, d4, d5]
      simp only [if_true, Bool.false_eq_true, if_false, List.nil_append, List.append_nil, List.append_assoc]
    simp only [hrow, RW, ← hc, msC, RX, VOp.fresh, bxC, bsC, un, most, callsOf, seval, Int.reducePow, ↓reduceIte, Nat.reduceEqDiff, reduceCtorEq]
    refine head (row := [.bool true, .bool true, .bool false, .bool false, .bool false]) (by rfl) ?_ ?_ ?_ ?_ ?_ ?_ ?_ ?_ ?_ ?_
    · simp only [RX, VOp.fresh, bxC, bsC, un, most, callsOf, seval, Int.reducePow, ↓reduceIte, Nat.reduceEqDiff, reduceCtorEq]
    · simp only [RX, VOp.fresh, bxC, bsC, un, most, callsOf, seval, Int.reducePow, ↓reduceIte, Nat.reduceEqDiff, reduceCtorEq]
    · simp only [RX, VOp.fresh, bxC, bsC, un, most, callsOf, seval, Int.reducePow, ↓reduceIte, Nat.reduceEqDiff, reduceCtorEq]
    · simp only [← hc, msC, RX, VOp.fresh, bxC, bsC, un, most, callsOf, seval, Int.reducePow, ↓reduceIte, Nat.reduceEqDiff, reduceCtorEq]
    · simp only [sg_set, Nat.reduceEqDiff, ↓reduceIte]
    · simp only [sg_set, Nat.reduceEqDiff, ↓reduceIte]
    · simp only [sg_set, Nat.reduceEqDiff, ↓reduceIte]
    · simp only [sg_set, Nat.reduceEqDiff, ↓reduceIte]
    · simp only [sg_set, Nat.reduceEqDiff, ↓reduceIte]
    intro s' h1 w1 a1 a4 a6
    have hm1 : ((1, .cells [.bool true, .bool true, .bool false, .bool false, .bool false] 132 1) : Nat × Blk) ∈ [((1, .cells [.bool true, .bool true, .bool false, .bool false, .bool false] 132 1) : Nat × Blk), (0, .cells c 63 0)] := List.mem_cons_self
    have hm0 : ((0, .cells c 63 0) : Nat × Blk) ∈ [((1, .cells [.bool true, .bool true, .bool false, .bool false, .bool false] 132 1) : Nat × Blk), (0, .cells c 63 0)] := List.mem_cons_of_mem _ List.mem_cons_self
    rw [← hc] at w1 hm0 hm1
    have k0 := (w1.keep _ hm0).2.2
    have k1 := (w1.keep _ hm1).2.2
    simp only [msC] at k0 k1
    simp only [a1, a4, a6, k0, k1, ha.len, hu.len, RX, VOp.fresh, bxC, bsC, un, most, callsOf, seval, Int.reducePow, ↓reduceIte, Nat.reduceEqDiff, reduceCtorEq]
    refine wname g w1 (by simp only [List.length_cons, List.length_append, numB_len, txB, bitB, boxB_len]; omega) fun _ h2 w2 => ?_
    have k0 := (w2.keep _ hm0).2.2
    have k1 := (w2.keep _ hm1).2.2
    simp only [msC] at k0 k1
    simp only [a1, a4, a6, k0, k1, ha.len, hu.len, RX, VOp.fresh, bxC, bsC, un, most, callsOf, seval, Int.reducePow, ↓reduceIte, Nat.reduceEqDiff, reduceCtorEq]
    have hops' : (-1 ≤ m.base ∧ m.base ≤ 65535) ∧ opsOk 8 m.ops := by simpa only [opsM, ek, kOps, decide_true, if_true] using hops
    refine wops g ha (by have := hops'.2.2.1; omega) ?_ (by omega) (by omega) w2 (by simp only [List.length_cons, List.length_append, numB_len, txB, bitB, boxB_len]; omega) fun _ h3 w3 => ?_
    · intro o ho
      obtain ⟨j, hj, rfl⟩ := List.mem_iff_getElem.1 ho
      rw [← getD_op hj]
      exact opOk_small (hops'.2.2.2 j hj).1
    replace w3 := (show WR _ _ 3 (msB m) from by rw [er]; simpa only [List.append_assoc, List.cons_append, fsB] using w3)
    obtain ⟨v, e0, ver, hb1, ho⟩ := w3.out
    rcases ho with ⟨_, hnil⟩ | ⟨c0, e', ver', rfl, _, _, _, hc6⟩
    · exact absurd hnil (msB_ne _)
    have k1 := (w3.keep _ hm1).2.2
    simp only at k1
    by_cases hlen : (msB m).length ≤ 16384
    · have c8 : ¬ (16384 : Int) < ((msB m).length : Int) := by omega
      simp only [a1, a4, a6, k1, hb1, c8, RX, VOp.fresh, bxC, bsC, un, most, callsOf, seval, Int.reducePow, ↓reduceIte, Nat.reduceEqDiff, reduceCtorEq]
      rw [cvT_sl hc6 (List.length_map _), mb_bytes (By.ms m)]
      simp only [RX, VOp.fresh, bxC, bsC, un, most, callsOf, seval, Int.reducePow, ↓reduceIte, Nat.reduceEqDiff, reduceCtorEq]
      rw [msAns, if_pos hlen]
    · have c8 : (16384 : Int) < ((msB m).length : Int) := by omega
      simp only [a1, a4, a6, k1, hb1, c8, RX, VOp.fresh, bxC, bsC, un, most, callsOf, seval, Int.reducePow, ↓reduceIte, Nat.reduceEqDiff, reduceCtorEq]
      rw [msAns, if_neg hlen]
  · have hrow : rowV m.kind = .agg [.bool true, .bool false, .bool true, .bool false, .bool false] := by rw [ek]; rfl
    have er : msB m = 77 :: 83 :: (numB m.kind 1 ++ (numB m.frm 1 ++ (numB m.to 1 ++ (txB m.node m.seq ++ (bitB m.yes))))) := by
      have d1 : kTx m.kind = true := by rw [ek]; rfl
      have d2 : kOps m.kind = false := by rw [ek]; rfl
      have d3 : kYes m.kind = true := by rw [ek]; rfl
      have d4 : kQuery m.kind = false := by rw [ek]; rfl
      have d5 : kPart m.kind = false := by rw [ek]; rfl
      rw [msB, d1, d2, d3, d4, d5]
      simp only [if_true, Bool.false_eq_true, if_false, List.nil_append, List.append_nil, List.append_assoc]
    simp only [hrow, RW, ← hc, msC, RX, VOp.fresh, bxC, bsC, un, most, callsOf, seval, Int.reducePow, ↓reduceIte, Nat.reduceEqDiff, reduceCtorEq]
    refine head (row := [.bool true, .bool false, .bool true, .bool false, .bool false]) (by rfl) ?_ ?_ ?_ ?_ ?_ ?_ ?_ ?_ ?_ ?_
    · simp only [RX, VOp.fresh, bxC, bsC, un, most, callsOf, seval, Int.reducePow, ↓reduceIte, Nat.reduceEqDiff, reduceCtorEq]
    · simp only [RX, VOp.fresh, bxC, bsC, un, most, callsOf, seval, Int.reducePow, ↓reduceIte, Nat.reduceEqDiff, reduceCtorEq]
    · simp only [RX, VOp.fresh, bxC, bsC, un, most, callsOf, seval, Int.reducePow, ↓reduceIte, Nat.reduceEqDiff, reduceCtorEq]
    · simp only [← hc, msC, RX, VOp.fresh, bxC, bsC, un, most, callsOf, seval, Int.reducePow, ↓reduceIte, Nat.reduceEqDiff, reduceCtorEq]
    · simp only [sg_set, Nat.reduceEqDiff, ↓reduceIte]
    · simp only [sg_set, Nat.reduceEqDiff, ↓reduceIte]
    · simp only [sg_set, Nat.reduceEqDiff, ↓reduceIte]
    · simp only [sg_set, Nat.reduceEqDiff, ↓reduceIte]
    · simp only [sg_set, Nat.reduceEqDiff, ↓reduceIte]
    intro s' h1 w1 a1 a4 a6
    have hm1 : ((1, .cells [.bool true, .bool false, .bool true, .bool false, .bool false] 132 1) : Nat × Blk) ∈ [((1, .cells [.bool true, .bool false, .bool true, .bool false, .bool false] 132 1) : Nat × Blk), (0, .cells c 63 0)] := List.mem_cons_self
    have hm0 : ((0, .cells c 63 0) : Nat × Blk) ∈ [((1, .cells [.bool true, .bool false, .bool true, .bool false, .bool false] 132 1) : Nat × Blk), (0, .cells c 63 0)] := List.mem_cons_of_mem _ List.mem_cons_self
    rw [← hc] at w1 hm0 hm1
    have k0 := (w1.keep _ hm0).2.2
    have k1 := (w1.keep _ hm1).2.2
    simp only [msC] at k0 k1
    simp only [a1, a4, a6, k0, k1, ha.len, hu.len, RX, VOp.fresh, bxC, bsC, un, most, callsOf, seval, Int.reducePow, ↓reduceIte, Nat.reduceEqDiff, reduceCtorEq]
    refine wname g w1 (by simp only [List.length_cons, List.length_append, numB_len, txB, bitB, boxB_len]; omega) fun _ h2 w2 => ?_
    have k0 := (w2.keep _ hm0).2.2
    have k1 := (w2.keep _ hm1).2.2
    simp only [msC] at k0 k1
    simp only [a1, a4, a6, k0, k1, ha.len, hu.len, RX, VOp.fresh, bxC, bsC, un, most, callsOf, seval, Int.reducePow, ↓reduceIte, Nat.reduceEqDiff, reduceCtorEq]
    refine wbool g w2 (by simp only [List.length_cons, List.length_append, numB_len, txB, bitB, boxB_len]; omega) fun _ h3 w3 => ?_
    replace w3 := (show WR _ _ 3 (msB m) from by rw [er]; simpa only [List.append_assoc, List.cons_append, fsB] using w3)
    obtain ⟨v, e0, ver, hb1, ho⟩ := w3.out
    rcases ho with ⟨_, hnil⟩ | ⟨c0, e', ver', rfl, _, _, _, hc6⟩
    · exact absurd hnil (msB_ne _)
    have k1 := (w3.keep _ hm1).2.2
    simp only at k1
    by_cases hlen : (msB m).length ≤ 16384
    · have c8 : ¬ (16384 : Int) < ((msB m).length : Int) := by omega
      simp only [a1, a4, a6, k1, hb1, c8, RX, VOp.fresh, bxC, bsC, un, most, callsOf, seval, Int.reducePow, ↓reduceIte, Nat.reduceEqDiff, reduceCtorEq]
      rw [cvT_sl hc6 (List.length_map _), mb_bytes (By.ms m)]
      simp only [RX, VOp.fresh, bxC, bsC, un, most, callsOf, seval, Int.reducePow, ↓reduceIte, Nat.reduceEqDiff, reduceCtorEq]
      rw [msAns, if_pos hlen]
    · have c8 : (16384 : Int) < ((msB m).length : Int) := by omega
      simp only [a1, a4, a6, k1, hb1, c8, RX, VOp.fresh, bxC, bsC, un, most, callsOf, seval, Int.reducePow, ↓reduceIte, Nat.reduceEqDiff, reduceCtorEq]
      rw [msAns, if_neg hlen]
  · have hrow : rowV m.kind = .agg [.bool true, .bool false, .bool true, .bool false, .bool false] := by rw [ek]; rfl
    have er : msB m = 77 :: 83 :: (numB m.kind 1 ++ (numB m.frm 1 ++ (numB m.to 1 ++ (txB m.node m.seq ++ (bitB m.yes))))) := by
      have d1 : kTx m.kind = true := by rw [ek]; rfl
      have d2 : kOps m.kind = false := by rw [ek]; rfl
      have d3 : kYes m.kind = true := by rw [ek]; rfl
      have d4 : kQuery m.kind = false := by rw [ek]; rfl
      have d5 : kPart m.kind = false := by rw [ek]; rfl
      rw [msB, d1, d2, d3, d4, d5]
      simp only [if_true, Bool.false_eq_true, if_false, List.nil_append, List.append_nil, List.append_assoc]
    simp only [hrow, RW, ← hc, msC, RX, VOp.fresh, bxC, bsC, un, most, callsOf, seval, Int.reducePow, ↓reduceIte, Nat.reduceEqDiff, reduceCtorEq]
    refine head (row := [.bool true, .bool false, .bool true, .bool false, .bool false]) (by rfl) ?_ ?_ ?_ ?_ ?_ ?_ ?_ ?_ ?_ ?_
    · simp only [RX, VOp.fresh, bxC, bsC, un, most, callsOf, seval, Int.reducePow, ↓reduceIte, Nat.reduceEqDiff, reduceCtorEq]
    · simp only [RX, VOp.fresh, bxC, bsC, un, most, callsOf, seval, Int.reducePow, ↓reduceIte, Nat.reduceEqDiff, reduceCtorEq]
    · simp only [RX, VOp.fresh, bxC, bsC, un, most, callsOf, seval, Int.reducePow, ↓reduceIte, Nat.reduceEqDiff, reduceCtorEq]
    · simp only [← hc, msC, RX, VOp.fresh, bxC, bsC, un, most, callsOf, seval, Int.reducePow, ↓reduceIte, Nat.reduceEqDiff, reduceCtorEq]
    · simp only [sg_set, Nat.reduceEqDiff, ↓reduceIte]
    · simp only [sg_set, Nat.reduceEqDiff, ↓reduceIte]
    · simp only [sg_set, Nat.reduceEqDiff, ↓reduceIte]
    · simp only [sg_set, Nat.reduceEqDiff, ↓reduceIte]
    · simp only [sg_set, Nat.reduceEqDiff, ↓reduceIte]
    intro s' h1 w1 a1 a4 a6
    have hm1 : ((1, .cells [.bool true, .bool false, .bool true, .bool false, .bool false] 132 1) : Nat × Blk) ∈ [((1, .cells [.bool true, .bool false, .bool true, .bool false, .bool false] 132 1) : Nat × Blk), (0, .cells c 63 0)] := List.mem_cons_self
    have hm0 : ((0, .cells c 63 0) : Nat × Blk) ∈ [((1, .cells [.bool true, .bool false, .bool true, .bool false, .bool false] 132 1) : Nat × Blk), (0, .cells c 63 0)] := List.mem_cons_of_mem _ List.mem_cons_self
    rw [← hc] at w1 hm0 hm1
    have k0 := (w1.keep _ hm0).2.2
    have k1 := (w1.keep _ hm1).2.2
    simp only [msC] at k0 k1
    simp only [a1, a4, a6, k0, k1, ha.len, hu.len, RX, VOp.fresh, bxC, bsC, un, most, callsOf, seval, Int.reducePow, ↓reduceIte, Nat.reduceEqDiff, reduceCtorEq]
    refine wname g w1 (by simp only [List.length_cons, List.length_append, numB_len, txB, bitB, boxB_len]; omega) fun _ h2 w2 => ?_
    have k0 := (w2.keep _ hm0).2.2
    have k1 := (w2.keep _ hm1).2.2
    simp only [msC] at k0 k1
    simp only [a1, a4, a6, k0, k1, ha.len, hu.len, RX, VOp.fresh, bxC, bsC, un, most, callsOf, seval, Int.reducePow, ↓reduceIte, Nat.reduceEqDiff, reduceCtorEq]
    refine wbool g w2 (by simp only [List.length_cons, List.length_append, numB_len, txB, bitB, boxB_len]; omega) fun _ h3 w3 => ?_
    replace w3 := (show WR _ _ 3 (msB m) from by rw [er]; simpa only [List.append_assoc, List.cons_append, fsB] using w3)
    obtain ⟨v, e0, ver, hb1, ho⟩ := w3.out
    rcases ho with ⟨_, hnil⟩ | ⟨c0, e', ver', rfl, _, _, _, hc6⟩
    · exact absurd hnil (msB_ne _)
    have k1 := (w3.keep _ hm1).2.2
    simp only at k1
    by_cases hlen : (msB m).length ≤ 16384
    · have c8 : ¬ (16384 : Int) < ((msB m).length : Int) := by omega
      simp only [a1, a4, a6, k1, hb1, c8, RX, VOp.fresh, bxC, bsC, un, most, callsOf, seval, Int.reducePow, ↓reduceIte, Nat.reduceEqDiff, reduceCtorEq]
      rw [cvT_sl hc6 (List.length_map _), mb_bytes (By.ms m)]
      simp only [RX, VOp.fresh, bxC, bsC, un, most, callsOf, seval, Int.reducePow, ↓reduceIte, Nat.reduceEqDiff, reduceCtorEq]
      rw [msAns, if_pos hlen]
    · have c8 : (16384 : Int) < ((msB m).length : Int) := by omega
      simp only [a1, a4, a6, k1, hb1, c8, RX, VOp.fresh, bxC, bsC, un, most, callsOf, seval, Int.reducePow, ↓reduceIte, Nat.reduceEqDiff, reduceCtorEq]
      rw [msAns, if_neg hlen]
  · have hrow : rowV m.kind = .agg [.bool true, .bool false, .bool false, .bool false, .bool false] := by rw [ek]; rfl
    have er : msB m = 77 :: 83 :: (numB m.kind 1 ++ (numB m.frm 1 ++ (numB m.to 1 ++ (txB m.node m.seq)))) := by
      have d1 : kTx m.kind = true := by rw [ek]; rfl
      have d2 : kOps m.kind = false := by rw [ek]; rfl
      have d3 : kYes m.kind = false := by rw [ek]; rfl
      have d4 : kQuery m.kind = false := by rw [ek]; rfl
      have d5 : kPart m.kind = false := by rw [ek]; rfl
      rw [msB, d1, d2, d3, d4, d5]
      simp only [if_true, Bool.false_eq_true, if_false, List.nil_append, List.append_nil, List.append_assoc]
    simp only [hrow, RW, ← hc, msC, RX, VOp.fresh, bxC, bsC, un, most, callsOf, seval, Int.reducePow, ↓reduceIte, Nat.reduceEqDiff, reduceCtorEq]
    refine head (row := [.bool true, .bool false, .bool false, .bool false, .bool false]) (by rfl) ?_ ?_ ?_ ?_ ?_ ?_ ?_ ?_ ?_ ?_
    · simp only [RX, VOp.fresh, bxC, bsC, un, most, callsOf, seval, Int.reducePow, ↓reduceIte, Nat.reduceEqDiff, reduceCtorEq]
    · simp only [RX, VOp.fresh, bxC, bsC, un, most, callsOf, seval, Int.reducePow, ↓reduceIte, Nat.reduceEqDiff, reduceCtorEq]
    · simp only [RX, VOp.fresh, bxC, bsC, un, most, callsOf, seval, Int.reducePow, ↓reduceIte, Nat.reduceEqDiff, reduceCtorEq]
    · simp only [← hc, msC, RX, VOp.fresh, bxC, bsC, un, most, callsOf, seval, Int.reducePow, ↓reduceIte, Nat.reduceEqDiff, reduceCtorEq]
    · simp only [sg_set, Nat.reduceEqDiff, ↓reduceIte]
    · simp only [sg_set, Nat.reduceEqDiff, ↓reduceIte]
    · simp only [sg_set, Nat.reduceEqDiff, ↓reduceIte]
    · simp only [sg_set, Nat.reduceEqDiff, ↓reduceIte]
    · simp only [sg_set, Nat.reduceEqDiff, ↓reduceIte]
    intro s' h1 w1 a1 a4 a6
    have hm1 : ((1, .cells [.bool true, .bool false, .bool false, .bool false, .bool false] 132 1) : Nat × Blk) ∈ [((1, .cells [.bool true, .bool false, .bool false, .bool false, .bool false] 132 1) : Nat × Blk), (0, .cells c 63 0)] := List.mem_cons_self
    have hm0 : ((0, .cells c 63 0) : Nat × Blk) ∈ [((1, .cells [.bool true, .bool false, .bool false, .bool false, .bool false] 132 1) : Nat × Blk), (0, .cells c 63 0)] := List.mem_cons_of_mem _ List.mem_cons_self
    rw [← hc] at w1 hm0 hm1
    have k0 := (w1.keep _ hm0).2.2
    have k1 := (w1.keep _ hm1).2.2
    simp only [msC] at k0 k1
    simp only [a1, a4, a6, k0, k1, ha.len, hu.len, RX, VOp.fresh, bxC, bsC, un, most, callsOf, seval, Int.reducePow, ↓reduceIte, Nat.reduceEqDiff, reduceCtorEq]
    refine wname g w1 (by simp only [List.length_cons, List.length_append, numB_len, txB, bitB, boxB_len]; omega) fun _ h2 w2 => ?_
    replace w2 := (show WR _ _ 3 (msB m) from by rw [er]; simpa only [List.append_assoc, List.cons_append, fsB] using w2)
    obtain ⟨v, e0, ver, hb1, ho⟩ := w2.out
    rcases ho with ⟨_, hnil⟩ | ⟨c0, e', ver', rfl, _, _, _, hc6⟩
    · exact absurd hnil (msB_ne _)
    have k1 := (w2.keep _ hm1).2.2
    simp only at k1
    by_cases hlen : (msB m).length ≤ 16384
    · have c8 : ¬ (16384 : Int) < ((msB m).length : Int) := by omega
      simp only [a1, a4, a6, k1, hb1, c8, RX, VOp.fresh, bxC, bsC, un, most, callsOf, seval, Int.reducePow, ↓reduceIte, Nat.reduceEqDiff, reduceCtorEq]
      rw [cvT_sl hc6 (List.length_map _), mb_bytes (By.ms m)]
      simp only [RX, VOp.fresh, bxC, bsC, un, most, callsOf, seval, Int.reducePow, ↓reduceIte, Nat.reduceEqDiff, reduceCtorEq]
      rw [msAns, if_pos hlen]
    · have c8 : (16384 : Int) < ((msB m).length : Int) := by omega
      simp only [a1, a4, a6, k1, hb1, c8, RX, VOp.fresh, bxC, bsC, un, most, callsOf, seval, Int.reducePow, ↓reduceIte, Nat.reduceEqDiff, reduceCtorEq]
      rw [msAns, if_neg hlen]
  · have hrow : rowV m.kind = .agg [.bool true, .bool false, .bool false, .bool false, .bool false] := by rw [ek]; rfl
    have er : msB m = 77 :: 83 :: (numB m.kind 1 ++ (numB m.frm 1 ++ (numB m.to 1 ++ (txB m.node m.seq)))) := by
      have d1 : kTx m.kind = true := by rw [ek]; rfl
      have d2 : kOps m.kind = false := by rw [ek]; rfl
      have d3 : kYes m.kind = false := by rw [ek]; rfl
      have d4 : kQuery m.kind = false := by rw [ek]; rfl
      have d5 : kPart m.kind = false := by rw [ek]; rfl
      rw [msB, d1, d2, d3, d4, d5]
      simp only [if_true, Bool.false_eq_true, if_false, List.nil_append, List.append_nil, List.append_assoc]
    simp only [hrow, RW, ← hc, msC, RX, VOp.fresh, bxC, bsC, un, most, callsOf, seval, Int.reducePow, ↓reduceIte, Nat.reduceEqDiff, reduceCtorEq]
    refine head (row := [.bool true, .bool false, .bool false, .bool false, .bool false]) (by rfl) ?_ ?_ ?_ ?_ ?_ ?_ ?_ ?_ ?_ ?_
    · simp only [RX, VOp.fresh, bxC, bsC, un, most, callsOf, seval, Int.reducePow, ↓reduceIte, Nat.reduceEqDiff, reduceCtorEq]
    · simp only [RX, VOp.fresh, bxC, bsC, un, most, callsOf, seval, Int.reducePow, ↓reduceIte, Nat.reduceEqDiff, reduceCtorEq]
    · simp only [RX, VOp.fresh, bxC, bsC, un, most, callsOf, seval, Int.reducePow, ↓reduceIte, Nat.reduceEqDiff, reduceCtorEq]
    · simp only [← hc, msC, RX, VOp.fresh, bxC, bsC, un, most, callsOf, seval, Int.reducePow, ↓reduceIte, Nat.reduceEqDiff, reduceCtorEq]
    · simp only [sg_set, Nat.reduceEqDiff, ↓reduceIte]
    · simp only [sg_set, Nat.reduceEqDiff, ↓reduceIte]
    · simp only [sg_set, Nat.reduceEqDiff, ↓reduceIte]
    · simp only [sg_set, Nat.reduceEqDiff, ↓reduceIte]
    · simp only [sg_set, Nat.reduceEqDiff, ↓reduceIte]
    intro s' h1 w1 a1 a4 a6
    have hm1 : ((1, .cells [.bool true, .bool false, .bool false, .bool false, .bool false] 132 1) : Nat × Blk) ∈ [((1, .cells [.bool true, .bool false, .bool false, .bool false, .bool false] 132 1) : Nat × Blk), (0, .cells c 63 0)] := List.mem_cons_self
    have hm0 : ((0, .cells c 63 0) : Nat × Blk) ∈ [((1, .cells [.bool true, .bool false, .bool false, .bool false, .bool false] 132 1) : Nat × Blk), (0, .cells c 63 0)] := List.mem_cons_of_mem _ List.mem_cons_self
    rw [← hc] at w1 hm0 hm1
    have k0 := (w1.keep _ hm0).2.2
    have k1 := (w1.keep _ hm1).2.2
    simp only [msC] at k0 k1
    simp only [a1, a4, a6, k0, k1, ha.len, hu.len, RX, VOp.fresh, bxC, bsC, un, most, callsOf, seval, Int.reducePow, ↓reduceIte, Nat.reduceEqDiff, reduceCtorEq]
    refine wname g w1 (by simp only [List.length_cons, List.length_append, numB_len, txB, bitB, boxB_len]; omega) fun _ h2 w2 => ?_
    replace w2 := (show WR _ _ 3 (msB m) from by rw [er]; simpa only [List.append_assoc, List.cons_append, fsB] using w2)
    obtain ⟨v, e0, ver, hb1, ho⟩ := w2.out
    rcases ho with ⟨_, hnil⟩ | ⟨c0, e', ver', rfl, _, _, _, hc6⟩
    · exact absurd hnil (msB_ne _)
    have k1 := (w2.keep _ hm1).2.2
    simp only at k1
    by_cases hlen : (msB m).length ≤ 16384
    · have c8 : ¬ (16384 : Int) < ((msB m).length : Int) := by omega
      simp only [a1, a4, a6, k1, hb1, c8, RX, VOp.fresh, bxC, bsC, un, most, callsOf, seval, Int.reducePow, ↓reduceIte, Nat.reduceEqDiff, reduceCtorEq]
      rw [cvT_sl hc6 (List.length_map _), mb_bytes (By.ms m)]
      simp only [RX, VOp.fresh, bxC, bsC, un, most, callsOf, seval, Int.reducePow, ↓reduceIte, Nat.reduceEqDiff, reduceCtorEq]
      rw [msAns, if_pos hlen]
    · have c8 : (16384 : Int) < ((msB m).length : Int) := by omega
      simp only [a1, a4, a6, k1, hb1, c8, RX, VOp.fresh, bxC, bsC, un, most, callsOf, seval, Int.reducePow, ↓reduceIte, Nat.reduceEqDiff, reduceCtorEq]
      rw [msAns, if_neg hlen]
  · have hrow : rowV m.kind = .agg [.bool false, .bool false, .bool false, .bool true, .bool false] := by rw [ek]; rfl
    have er : msB m = 77 :: 83 :: (numB m.kind 1 ++ (numB m.frm 1 ++ (numB m.to 1 ++ (numB m.query 2 ++ (boxB m.box))))) := by
      have d1 : kTx m.kind = false := by rw [ek]; rfl
      have d2 : kOps m.kind = false := by rw [ek]; rfl
      have d3 : kYes m.kind = false := by rw [ek]; rfl
      have d4 : kQuery m.kind = true := by rw [ek]; rfl
      have d5 : kPart m.kind = false := by rw [ek]; rfl
      rw [msB, d1, d2, d3, d4, d5]
      simp only [if_true, Bool.false_eq_true, if_false, List.nil_append, List.append_nil, List.append_assoc]
    simp only [hrow, RW, ← hc, msC, RX, VOp.fresh, bxC, bsC, un, most, callsOf, seval, Int.reducePow, ↓reduceIte, Nat.reduceEqDiff, reduceCtorEq]
    refine head (row := [.bool false, .bool false, .bool false, .bool true, .bool false]) (by rfl) ?_ ?_ ?_ ?_ ?_ ?_ ?_ ?_ ?_ ?_
    · simp only [RX, VOp.fresh, bxC, bsC, un, most, callsOf, seval, Int.reducePow, ↓reduceIte, Nat.reduceEqDiff, reduceCtorEq]
    · simp only [RX, VOp.fresh, bxC, bsC, un, most, callsOf, seval, Int.reducePow, ↓reduceIte, Nat.reduceEqDiff, reduceCtorEq]
    · simp only [RX, VOp.fresh, bxC, bsC, un, most, callsOf, seval, Int.reducePow, ↓reduceIte, Nat.reduceEqDiff, reduceCtorEq]
    · simp only [← hc, msC, RX, VOp.fresh, bxC, bsC, un, most, callsOf, seval, Int.reducePow, ↓reduceIte, Nat.reduceEqDiff, reduceCtorEq]
    · simp only [sg_set, Nat.reduceEqDiff, ↓reduceIte]
    · simp only [sg_set, Nat.reduceEqDiff, ↓reduceIte]
    · simp only [sg_set, Nat.reduceEqDiff, ↓reduceIte]
    · simp only [sg_set, Nat.reduceEqDiff, ↓reduceIte]
    · simp only [sg_set, Nat.reduceEqDiff, ↓reduceIte]
    intro s' h1 w1 a1 a4 a6
    have hm1 : ((1, .cells [.bool false, .bool false, .bool false, .bool true, .bool false] 132 1) : Nat × Blk) ∈ [((1, .cells [.bool false, .bool false, .bool false, .bool true, .bool false] 132 1) : Nat × Blk), (0, .cells c 63 0)] := List.mem_cons_self
    have hm0 : ((0, .cells c 63 0) : Nat × Blk) ∈ [((1, .cells [.bool false, .bool false, .bool false, .bool true, .bool false] 132 1) : Nat × Blk), (0, .cells c 63 0)] := List.mem_cons_of_mem _ List.mem_cons_self
    rw [← hc] at w1 hm0 hm1
    have k0 := (w1.keep _ hm0).2.2
    have k1 := (w1.keep _ hm1).2.2
    simp only [msC] at k0 k1
    simp only [a1, a4, a6, k0, k1, ha.len, hu.len, RX, VOp.fresh, bxC, bsC, un, most, callsOf, seval, Int.reducePow, ↓reduceIte, Nat.reduceEqDiff, reduceCtorEq]
    refine wnum (n := 2) g (num2_pu g _) (by decide) w1 (by simp only [List.length_cons, List.length_append, numB_len, txB, bitB, boxB_len]; omega) fun _ h2 w2 => ?_
    have k0 := (w2.keep _ hm0).2.2
    have k1 := (w2.keep _ hm1).2.2
    simp only [msC] at k0 k1
    simp only [a1, a4, a6, k0, k1, ha.len, hu.len, RX, VOp.fresh, bxC, bsC, un, most, callsOf, seval, Int.reducePow, ↓reduceIte, Nat.reduceEqDiff, reduceCtorEq]
    refine wbox g m.box w2 (by simp only [List.length_cons, List.length_append, numB_len, txB, bitB, boxB_len]; omega) fun _ h3 w3 => ?_
    replace w3 := (show WR _ _ 3 (msB m) from by rw [er]; simpa only [List.append_assoc, List.cons_append, fsB] using w3)
    obtain ⟨v, e0, ver, hb1, ho⟩ := w3.out
    rcases ho with ⟨_, hnil⟩ | ⟨c0, e', ver', rfl, _, _, _, hc6⟩
    · exact absurd hnil (msB_ne _)
    have k1 := (w3.keep _ hm1).2.2
    simp only at k1
    by_cases hlen : (msB m).length ≤ 16384
    · have c8 : ¬ (16384 : Int) < ((msB m).length : Int) := by omega
      simp only [a1, a4, a6, k1, hb1, c8, RX, VOp.fresh, bxC, bsC, un, most, callsOf, seval, Int.reducePow, ↓reduceIte, Nat.reduceEqDiff, reduceCtorEq]
      rw [cvT_sl hc6 (List.length_map _), mb_bytes (By.ms m)]
      simp only [RX, VOp.fresh, bxC, bsC, un, most, callsOf, seval, Int.reducePow, ↓reduceIte, Nat.reduceEqDiff, reduceCtorEq]
      rw [msAns, if_pos hlen]
    · have c8 : (16384 : Int) < ((msB m).length : Int) := by omega
      simp only [a1, a4, a6, k1, hb1, c8, RX, VOp.fresh, bxC, bsC, un, most, callsOf, seval, Int.reducePow, ↓reduceIte, Nat.reduceEqDiff, reduceCtorEq]
      rw [msAns, if_neg hlen]
  · have hrow : rowV m.kind = .agg [.bool false, .bool false, .bool false, .bool true, .bool true] := by rw [ek]; rfl
    have er : msB m = 77 :: 83 :: (numB m.kind 1 ++ (numB m.frm 1 ++ (numB m.to 1 ++ (numB m.query 2 ++ (boxB m.box ++ (numB m.applied 4 ++ (bitB m.busy ++ (fsB m.fs)))))))) := by
      have d1 : kTx m.kind = false := by rw [ek]; rfl
      have d2 : kOps m.kind = false := by rw [ek]; rfl
      have d3 : kYes m.kind = false := by rw [ek]; rfl
      have d4 : kQuery m.kind = true := by rw [ek]; rfl
      have d5 : kPart m.kind = true := by rw [ek]; rfl
      rw [msB, d1, d2, d3, d4, d5]
      simp only [if_true, Bool.false_eq_true, if_false, List.nil_append, List.append_nil, List.append_assoc]
    simp only [hrow, RW, ← hc, msC, RX, VOp.fresh, bxC, bsC, un, most, callsOf, seval, Int.reducePow, ↓reduceIte, Nat.reduceEqDiff, reduceCtorEq]
    refine head (row := [.bool false, .bool false, .bool false, .bool true, .bool true]) (by rfl) ?_ ?_ ?_ ?_ ?_ ?_ ?_ ?_ ?_ ?_
    · simp only [RX, VOp.fresh, bxC, bsC, un, most, callsOf, seval, Int.reducePow, ↓reduceIte, Nat.reduceEqDiff, reduceCtorEq]
    · simp only [RX, VOp.fresh, bxC, bsC, un, most, callsOf, seval, Int.reducePow, ↓reduceIte, Nat.reduceEqDiff, reduceCtorEq]
    · simp only [RX, VOp.fresh, bxC, bsC, un, most, callsOf, seval, Int.reducePow, ↓reduceIte, Nat.reduceEqDiff, reduceCtorEq]
    · simp only [← hc, msC, RX, VOp.fresh, bxC, bsC, un, most, callsOf, seval, Int.reducePow, ↓reduceIte, Nat.reduceEqDiff, reduceCtorEq]
    · simp only [sg_set, Nat.reduceEqDiff, ↓reduceIte]
    · simp only [sg_set, Nat.reduceEqDiff, ↓reduceIte]
    · simp only [sg_set, Nat.reduceEqDiff, ↓reduceIte]
    · simp only [sg_set, Nat.reduceEqDiff, ↓reduceIte]
    · simp only [sg_set, Nat.reduceEqDiff, ↓reduceIte]
    intro s' h1 w1 a1 a4 a6
    have hm1 : ((1, .cells [.bool false, .bool false, .bool false, .bool true, .bool true] 132 1) : Nat × Blk) ∈ [((1, .cells [.bool false, .bool false, .bool false, .bool true, .bool true] 132 1) : Nat × Blk), (0, .cells c 63 0)] := List.mem_cons_self
    have hm0 : ((0, .cells c 63 0) : Nat × Blk) ∈ [((1, .cells [.bool false, .bool false, .bool false, .bool true, .bool true] 132 1) : Nat × Blk), (0, .cells c 63 0)] := List.mem_cons_of_mem _ List.mem_cons_self
    rw [← hc] at w1 hm0 hm1
    have k0 := (w1.keep _ hm0).2.2
    have k1 := (w1.keep _ hm1).2.2
    simp only [msC] at k0 k1
    simp only [a1, a4, a6, k0, k1, ha.len, hu.len, RX, VOp.fresh, bxC, bsC, un, most, callsOf, seval, Int.reducePow, ↓reduceIte, Nat.reduceEqDiff, reduceCtorEq]
    refine wnum (n := 2) g (num2_pu g _) (by decide) w1 (by simp only [List.length_cons, List.length_append, numB_len, txB, bitB, boxB_len]; omega) fun _ h2 w2 => ?_
    have k0 := (w2.keep _ hm0).2.2
    have k1 := (w2.keep _ hm1).2.2
    simp only [msC] at k0 k1
    simp only [a1, a4, a6, k0, k1, ha.len, hu.len, RX, VOp.fresh, bxC, bsC, un, most, callsOf, seval, Int.reducePow, ↓reduceIte, Nat.reduceEqDiff, reduceCtorEq]
    refine wbox g m.box w2 (by simp only [List.length_cons, List.length_append, numB_len, txB, bitB, boxB_len]; omega) fun _ h3 w3 => ?_
    have k0 := (w3.keep _ hm0).2.2
    have k1 := (w3.keep _ hm1).2.2
    simp only [msC] at k0 k1
    simp only [a1, a4, a6, k0, k1, ha.len, hu.len, RX, VOp.fresh, bxC, bsC, un, most, callsOf, seval, Int.reducePow, ↓reduceIte, Nat.reduceEqDiff, reduceCtorEq]
    refine wnum (n := 4) g (num4_pu g _) (by decide) w3 (by simp only [List.length_cons, List.length_append, numB_len, txB, bitB, boxB_len]; omega) fun _ h4 w4 => ?_
    have k0 := (w4.keep _ hm0).2.2
    have k1 := (w4.keep _ hm1).2.2
    simp only [msC] at k0 k1
    simp only [a1, a4, a6, k0, k1, ha.len, hu.len, RX, VOp.fresh, bxC, bsC, un, most, callsOf, seval, Int.reducePow, ↓reduceIte, Nat.reduceEqDiff, reduceCtorEq]
    refine wbool g w4 (by simp only [List.length_cons, List.length_append, numB_len, txB, bitB, boxB_len]; omega) fun _ h5 w5 => ?_
    have k0 := (w5.keep _ hm0).2.2
    have k1 := (w5.keep _ hm1).2.2
    simp only [msC] at k0 k1
    simp only [a1, a4, a6, k0, k1, ha.len, hu.len, RX, VOp.fresh, bxC, bsC, un, most, callsOf, seval, Int.reducePow, ↓reduceIte, Nat.reduceEqDiff, reduceCtorEq]
    refine wnum (n := 2) g (num2_pu g _) (by decide) w5 (by simp only [List.length_cons, List.length_append, numB_len, txB, bitB, boxB_len]; omega) fun _ h6 w6 => ?_
    have k0 := (w6.keep _ hm0).2.2
    have k1 := (w6.keep _ hm1).2.2
    simp only [msC] at k0 k1
    simp only [a1, a4, a6, k0, k1, ha.len, hu.len, RX, VOp.fresh, bxC, bsC, un, most, callsOf, seval, Int.reducePow, ↓reduceIte, Nat.reduceEqDiff, reduceCtorEq]
    have hpt' : (0 ≤ m.applied ∧ m.applied ≤ 2147483647) ∧ m.fs.length ≤ 256 ∧ (m.busy = true → m.fs = []) ∧ featsOk m.fs := by simpa only [partM, ek, kPart, decide_true, if_true] using hpt
    refine wfs g hu (fsSmall hpt'.2.2.2) (by omega) hm0 _ ?_ m.fs.length 0 _ _ _ _ (by omega) (by simpa using w6) ?_ ?_ ?_ ?_ ?_
    · simp only [List.length_cons, List.length_append, numB_len, bitB, boxB_len]; omega
    · simp only [a1, sg_set, Nat.reduceEqDiff, ↓reduceIte]
    · simp only [a6, sg_set, Nat.reduceEqDiff, ↓reduceIte]
    · simp only [sg_set, Nat.reduceEqDiff, ↓reduceIte]
    · simp only [sg_set, Nat.reduceEqDiff, ↓reduceIte]
      rfl
    intro s'' h7 w7 a6' 
    replace w7 := (show WR _ _ 3 (msB m) from by rw [er]; simpa only [List.append_assoc, List.cons_append, fsB] using w7)
    obtain ⟨v, e0, ver, hb1, ho⟩ := w7.out
    rcases ho with ⟨_, hnil⟩ | ⟨c0, e', ver', rfl, _, _, _, hc6⟩
    · exact absurd hnil (msB_ne _)
    have k1 := (w7.keep _ hm1).2.2
    simp only at k1
    have a6 := a6' 
    by_cases hlen : (msB m).length ≤ 16384
    · have c8 : ¬ (16384 : Int) < ((msB m).length : Int) := by omega
      simp only [a1, a4, a6, k1, hb1, c8, RX, VOp.fresh, bxC, bsC, un, most, callsOf, seval, Int.reducePow, ↓reduceIte, Nat.reduceEqDiff, reduceCtorEq]
      rw [cvT_sl hc6 (List.length_map _), mb_bytes (By.ms m)]
      simp only [RX, VOp.fresh, bxC, bsC, un, most, callsOf, seval, Int.reducePow, ↓reduceIte, Nat.reduceEqDiff, reduceCtorEq]
      rw [msAns, if_pos hlen]
    · have c8 : (16384 : Int) < ((msB m).length : Int) := by omega
      simp only [a1, a4, a6, k1, hb1, c8, RX, VOp.fresh, bxC, bsC, un, most, callsOf, seval, Int.reducePow, ↓reduceIte, Nat.reduceEqDiff, reduceCtorEq]
      rw [msAns, if_neg hlen]
end
end Go.Proofs.Ytinonmcnofjeeaa.VM
namespace Go.Proofs.Ytinonmcnofjeeaa.VM
attribute [local irreducible] Af Nx EvO Ev Un Gd Cd EvR EvQ EvC Nc Gc Lp EvM NxM AfM GdM EvMR EvMQ EvMD EvMC Nm Gm
abbrev z16 : List AV := [.int .i64 0, .int .i64 0, .int .i64 0, .int .i64 0, .int .i64 0, .int .i64 0, .bool false, .int .i64 0, .int .i64 0, .bool false, .int .i64 0, .int .i64 0, .int .i64 0, .int .i64 0, .nils, .nils]
/-- messages of a kind, told: their cells, which may be sent, what a copy is -/
structure MK (P : Program) (α : Type) where
  C : α → List AV
  R : α → α → Prop
  E : α → Bool
  len : ∀ x, (C x).length = 16
  one : ∀ x, (C x).all AV.one = true
  told : ∀ x, AV.tolds (C x) = true
  cp : ∀ x, Pu P 82 [.agg (C x)] (fun v => ∃ y, v = .agg (C y) ∧ R x y)
  pt : ∀ x, Pu P 25 [.agg (C x)] (fun v => ∃ S e, v = .tup [.str S, .int .i64 e] ∧ (e = 0 ↔ E x = true))
section
variable {P : Program} {α : Type} (K : MK P α) {h h' : Heap} {v : AV} {xs : List α} {D : List Nat}
def MK.row (xs : List α) : List AV := (xs.map K.C).flatten
theorem MK.row_len : ∀ (xs : List α), (K.row xs).length = xs.length * 16
  | [] => rfl
  | x :: xs => by
    have := MK.row_len xs
    unfold MK.row at this ⊢
    rw [List.map_cons, List.flatten_cons, List.length_append, this, K.len, List.length_cons]; omega
theorem MK.row_app (xs ys : List α) : K.row (xs ++ ys) = K.row xs ++ K.row ys := by unfold MK.row; rw [List.map_append, List.flatten_append]
theorem MK.row_one (x : α) : K.row [x] = K.C x := by unfold MK.row; simp
theorem MK.row_all : ∀ (xs : List α), (K.row xs).all AV.one = true
  | [] => rfl
  | x :: xs => by
    have := MK.row_all xs
    unfold MK.row at this ⊢
    rw [List.map_cons, List.flatten_cons, List.all_append, this, K.one]; rfl
/-- a queue's row: in its block there may be more behind -/
def QRow (h : Heap) (v : AV) (xs : List α) : Prop := (v = .nils ∧ xs = []) ∨ ∃ b cap e ver z, v = .sl b 0 xs.length cap 16 ∧ b < h.next ∧ h.get b = some (.cells (K.row xs ++ z) e ver) ∧ xs.length * 16 + z.length = cap * 16 ∧ z.all AV.one = true
/-- a queue -/
def QS (h : Heap) (qb : Nat) (mo : Int) (xs : List α) (D : List Nat) : Prop := qb < h.next ∧ qb ∉ D ∧ ((xs.length : Int) ≤ mo ∧ mo ≤ 64) ∧ ∃ e ver v, h.get qb = some (.cells [.int .i64 mo, v] e ver) ∧ QRow K h v xs ∧ D = blkOf v
/-- what a queue's call leaves -/
def QF (h h' : Heap) (qb : Nat) (D D' : List Nat) : Prop := h.next ≤ h'.next ∧ (∀ b ∈ D', b ∈ D ∨ h.next ≤ b) ∧ ∀ b, b < h.next → b ≠ qb → b ∉ D → h'.get b = h.get b
variable {K}
theorem QRow.frame (r : QRow K h v xs) (hn : h.next ≤ h'.next) (k : ∀ b ∈ blkOf v, h'.get b = h.get b) : QRow K h' v xs := by
  rcases r with r | ⟨b, cap, e, ver, z, rfl, hb, hg, hl, hz⟩
  · exact .inl r
  · exact .inr ⟨b, cap, e, ver, z, rfl, by omega, (k b (by simp [blkOf])).trans hg, hl, hz⟩
theorem QRow.lt (r : QRow K h v xs) : ∀ b ∈ blkOf v, b < h.next := by
  rcases r with ⟨rfl, rfl⟩ | ⟨b, cap, e, ver, z, rfl, hb, hg, hl, hz⟩
  · intro b hb; simp [blkOf] at hb
  · intro c hc; simp only [blkOf, List.mem_singleton] at hc; rw [hc]; exact hb
theorem QRow.one (r : QRow K h v xs) : v.one = true := by rcases r with ⟨rfl, rfl⟩ | ⟨b, cap, e, ver, z, rfl, _⟩ <;> rfl
theorem QRow.cells (r : QRow K h v xs) : v.cells = some [v] := by rcases r with ⟨rfl, rfl⟩ | ⟨b, cap, e, ver, z, rfl, _⟩ <;> rfl
theorem QRow.len (r : QRow K h v xs) (hh : Heap) : lnV hh v = .val (.int .i64 xs.length) hh := by rcases r with ⟨rfl, rfl⟩ | ⟨b, cap, e, ver, z, rfl, _⟩ <;> rfl
/-- one more message -/
theorem QRow.push (r : QRow K h v xs) (hx : xs.length ≤ 64) {nb e v0 : Nat} {x : α} (hg : h.get nb = some (.cells (K.C x) e v0)) :
    ∃ v' h', appendV h 16 160 63 v (.sl nb 0 1 1 16) = some (v', h') ∧ QRow K h' v' (xs ++ [x]) ∧ h.next ≤ h'.next ∧ (∀ b ∈ blkOf v', b ∈ blkOf v ∨ h.next ≤ b) ∧ ∀ b, b < h.next → b ∉ blkOf v → h'.get b = h.get b := by
  have hc : cellsOf h 16 1 (.sl nb 0 1 1 16) = some (K.C x) := cells_of hg (by rw [K.len]) 1
  have hl := K.len x
  have ho := K.one x
  rcases r with ⟨rfl, rfl⟩ | ⟨b, cap, eb, vb, z, rfl, hb, hgb, hz, hzo⟩
  · refine ⟨.sl h.next 0 1 1 16, h.mk' h.next (.cells (K.C x) 63 0), ?_, .inr ⟨h.next, 1, 63, 0, [], rfl, by rw [mk_next]; omega, by rw [Heap.get_mk, if_pos rfl, List.append_nil, List.nil_append, K.row_one], rfl, rfl⟩, by rw [mk_next]; omega, fun b hb => .inr (by simp only [blkOf, List.mem_singleton] at hb; omega), fun b hb _ => by rw [Heap.get_mk, if_neg (by omega)]⟩
    have e1 : (1 : Nat) * 160 ≤ most2 := by unfold most2; omega
    simp [appendV, lenV, hc, hl, ho, e1]
  · have e0 : cellsOf h 16 xs.length (.sl b 0 xs.length cap 16) = some (K.row xs) := by
      simp only [cellsOf, Nat.le_refl, if_true, hgb]
      rw [cut_eq, List.drop_zero, List.take_left' (K.row_len xs), if_pos (K.row_len xs)]
    by_cases hcap : xs.length + 1 ≤ cap
    · have hz16 : 16 ≤ z.length := by omega
      have hw : writeAt h b (0 + xs.length * 16) (K.C x) = some (h.put b (.cells (K.row xs ++ K.C x ++ z.drop 16) eb (vb + 1))) := by
        rw [writeAt_go, hgb, wrB_some, if_pos ⟨by rw [List.length_append, K.row_len]; omega, ho⟩]
        rw [Nat.zero_add, List.take_left' (K.row_len xs), hl, ← K.row_len xs, List.drop_append, List.drop_of_length_le (by omega), List.nil_append, show (K.row xs).length + 16 - (K.row xs).length = 16 by omega]
      refine ⟨.sl b 0 (xs.length + 1) cap 16, h.put b (.cells (K.row xs ++ K.C x ++ z.drop 16) eb (vb + 1)), ?_, .inr ⟨b, cap, eb, vb + 1, z.drop 16, by rw [List.length_append, List.length_singleton], by rw [put_next]; exact hb, by rw [Heap.get_put, if_pos rfl, K.row_app, K.row_one], by rw [List.length_append, List.length_singleton, List.length_drop]; omega, List.all_eq_true.2 fun y hy => List.all_eq_true.1 hzo y (List.mem_of_mem_drop hy)⟩, by rw [put_next]; exact Nat.le_refl _, fun c hc => .inl hc, fun c _ hc => by simp only [blkOf, List.mem_singleton] at hc; rw [Heap.get_put, if_neg hc]⟩
      simp only [appendV, lenV, hc, hl, ho, hcap, hw, Nat.one_mul, and_self, if_true, Nat.beq_refl, cond_true]
    · refine ⟨.sl h.next 0 (xs.length + 1) (xs.length + 1) 16, (h.put b .dead).mk' h.next (.cells (K.row xs ++ K.C x) 63 0), ?_, .inr ⟨h.next, xs.length + 1, 63, 0, [], by rw [List.length_append, List.length_singleton], by rw [mk_next]; omega, by rw [Heap.get_mk, if_pos rfl, List.append_nil, K.row_app, K.row_one], by rw [List.length_append, List.length_singleton]; simp, rfl⟩, by rw [mk_next, put_next]; omega, fun c hc => .inr (by simp only [blkOf, List.mem_singleton] at hc; omega), fun c hc hn => by
        simp only [blkOf, List.mem_singleton] at hn
        rw [Heap.get_mk, if_neg (by omega), Heap.get_put, if_neg hn]⟩
      have e1 : (xs.length + 1) * 160 ≤ most2 := by unfold most2; omega
      simp [appendV, lenV, hc, hl, ho, hcap, e1, e0]
theorem MK.new_cl (K : MK P α) (g : Pg P tab) {mo : Int} {Q : AV → Heap → Prop} (q1 : 1 ≤ mo ∧ mo ≤ 64 → ∀ qb h', QS K h' qb mo [] [] → h.next ≤ qb → Ext h h' → Q (.tup [.ptr qb 0, .int .i64 0]) h') (q2 : ¬ (1 ≤ mo ∧ mo ≤ 64) → Q (.tup [.nilp, .int .i64 1700]) h) : Cl P 32 [.int .i64 mo] h Q := by
  refine g.cl (vf := v32) rfl rfl ?_
  by_cases c1 : mo < 1
  · simp only [v32, c1, RX, VOp.fresh, bxC, bsC, un, most, callsOf, seval, Int.reducePow, ↓reduceIte, Nat.reduceEqDiff, reduceCtorEq]
    exact q2 (by omega)
  by_cases c2 : 64 < mo
  · simp only [v32, c1, c2, RX, VOp.fresh, bxC, bsC, un, most, callsOf, seval, Int.reducePow, ↓reduceIte, Nat.reduceEqDiff, reduceCtorEq]
    exact q2 (by omega)
  simp only [v32, c1, c2, RX, VOp.fresh, bxC, bsC, un, most, callsOf, seval, Int.reducePow, ↓reduceIte, Nat.reduceEqDiff, reduceCtorEq]
  exact q1 (by omega) _ _ ⟨by rw [mk_next]; omega, by simp, ⟨by simp; omega, by omega⟩, 149, 0, .nils, by rw [Heap.get_mk, if_pos rfl], .inl ⟨rfl, rfl⟩, rfl⟩ (Nat.le_refl _) (Ext.mk _)
theorem nat_of {k : IntKind} {n y : Nat} (h : n ≤ y) : natOf (.int k (n : Int)) y = some n := by
  show (if 0 ≤ (n : Int) ∧ (n : Int) ≤ (y : Int) then some (n : Int).toNat else none) = some n
  rw [if_pos ⟨by omega, by omega⟩, Int.toNat_natCast]
section
variable {b off len cap sz lo hi mx : Nat} {k1 k2 k3 : IntKind}
theorem slV3 (h1 : lo ≤ hi) (h2 : hi ≤ mx) (h3 : mx ≤ cap) : sliceV sz (.sl b off len cap sz) (some (.int k1 (lo : Int))) (some (.int k2 (hi : Int))) (some (.int k3 (mx : Int))) = some (.sl b (off + lo * sz) (hi - lo) (mx - lo) sz) := by
  simp [sliceV, bounds, nat_of h1, nat_of h2, nat_of h3]
theorem slV2 (h1 : lo ≤ hi) (h2 : hi ≤ cap) : sliceV sz (.sl b off len cap sz) (some (.int k1 (lo : Int))) (some (.int k2 (hi : Int))) none = some (.sl b (off + lo * sz) (hi - lo) (cap - lo) sz) := by
  simp [sliceV, bounds, nat_of h1, nat_of h2]
theorem slVhi (h2 : hi ≤ cap) : sliceV sz (.sl b off len cap sz) none (some (.int k2 (hi : Int))) none = some (.sl b off hi cap sz) := by
  simp [sliceV, bounds, nat_of h2]
theorem slVlo (h1 : lo ≤ len) : sliceV sz (.sl b off len cap sz) (some (.int k1 (lo : Int))) none none = some (.sl b (off + lo * sz) (len - lo) (cap - lo) sz) := by
  simp [sliceV, bounds, nat_of h1]
end
/-- a part of a row goes to the front -/
theorem del_cells {A B C z y : List AV} (hb : B.length = y.length) : (((A ++ B ++ C ++ z).take A.length ++ C ++ (A ++ B ++ C ++ z).drop (A.length + C.length)).take (A.length + C.length) ++ y ++ ((A ++ B ++ C ++ z).take A.length ++ C ++ (A ++ B ++ C ++ z).drop (A.length + C.length)).drop (A.length + C.length + y.length)) = A ++ C ++ (y ++ z) := by
  have e1 : (A ++ B ++ C ++ z).take A.length = A := by rw [List.append_assoc, List.append_assoc, List.take_left' rfl]
  rw [e1]
  have e2 : (A ++ C ++ (A ++ B ++ C ++ z).drop (A.length + C.length)).take (A.length + C.length) = A ++ C := List.take_left' (by rw [List.length_append])
  rw [e2]
  have e3 : (A ++ C ++ (A ++ B ++ C ++ z).drop (A.length + C.length)).drop (A.length + C.length + y.length) = z := by
    rw [← List.drop_drop, List.drop_left' (by rw [List.length_append]), List.drop_drop, show A.length + C.length + y.length = (A ++ B ++ C).length by simp only [List.length_append]; omega, List.drop_left' rfl]
  rw [e3, List.append_assoc]
theorem MK.del_cl (K : MK P α) (g : Pg P tab) {b cap e ver : Nat} {z : List AV} {i : Nat} (hi : i < xs.length) (hx : xs.length ≤ 64) (hb : b < h.next) (hg : h.get b = some (.cells (K.row xs ++ z) e ver)) (hl : xs.length * 16 + z.length = cap * 16) {Q : AV → Heap → Prop}
    (q : ∀ h' ver', h'.next = h.next → (∀ c, c ≠ b → h'.get c = h.get c) → h'.get b = some (.cells (K.row (xs.eraseIdx i) ++ (z16 ++ z)) e ver') → Q (.sl b 0 (xs.length - 1) cap 16) h') : Cl P 83 [.sl b 0 xs.length cap 16, .int .i64 i, .int .i64 ((i + 1 : Nat) : Int)] h Q := by
  refine g.cl (vf := v83) rfl rfl ?_
  have s1 := slV3 (b := b) (off := 0) (len := xs.length) (cap := cap) (sz := 16) (k1 := .i64) (k2 := .i64) (k3 := .i64) (show i ≤ i + 1 by omega) (show i + 1 ≤ xs.length by omega) (show xs.length ≤ cap by omega)
  have s2 := slVhi (b := b) (off := 0) (len := xs.length) (cap := cap) (sz := 16) (k2 := .i64) (hi := i) (by omega)
  have s3 := slVlo (b := b) (off := 0) (len := xs.length) (cap := cap) (sz := 16) (k1 := .i64) (lo := i + 1) (by omega)
  have s4 := slV2 (b := b) (off := 0) (len := xs.length - 1) (cap := cap) (sz := 16) (k1 := .i64) (k2 := .i64) (lo := xs.length - 1) (hi := xs.length) (by omega) (by omega)
  have n1 : ¬ ((i : Int) = ((i + 1 : Nat) : Int)) := by omega
  obtain ⟨A, x, C, rfl, hA⟩ : ∃ A x C, xs = A ++ x :: C ∧ A.length = i := ⟨xs.take i, xs[i], xs.drop (i + 1), by rw [List.getElem_cons_drop, List.take_append_drop], by rw [List.length_take]; omega⟩
  have er : (A ++ x :: C).eraseIdx i = A ++ C := by rw [← hA, List.eraseIdx_append_of_length_le (Nat.le_refl _)]; simp
  have eR : K.row (A ++ x :: C) = K.row A ++ K.C x ++ K.row C := by rw [K.row_app, show x :: C = [x] ++ C from rfl, K.row_app, K.row_one, List.append_assoc]
  have lA := K.row_len A
  have lC := K.row_len C
  have lx := K.len x
  have ll : (A ++ x :: C).length = A.length + C.length + 1 := by simp; omega
  rw [eR] at hg
  have hc : cellsOf h 16 ((A ++ x :: C).length - (i + 1)) (.sl b (0 + (i + 1) * 16) ((A ++ x :: C).length - (i + 1)) (cap - (i + 1)) 16) = some (K.row C) := by
    simp only [cellsOf, Nat.le_refl, if_true, hg]
    have : (K.row A ++ K.C x ++ K.row C ++ z).drop (0 + (i + 1) * 16) = K.row C ++ z := by
      rw [List.append_assoc (K.row A ++ K.C x), List.drop_left' (by rw [List.length_append, lA, lx]; omega)]
    have e2 : ((A ++ x :: C).length - (i + 1)) * 16 = (K.row C).length := by rw [lC, ll]; omega
    rw [cut_eq, this, e2, List.take_left' rfl, if_pos rfl]
  have oC := K.row_all C
  have hw : writeAt h b (0 + i * 16) (K.row C) = some (h.put b (.cells ((K.row A ++ K.C x ++ K.row C ++ z).take (K.row A).length ++ K.row C ++ (K.row A ++ K.C x ++ K.row C ++ z).drop ((K.row A).length + (K.row C).length)) e (ver + 1))) := by
    rw [writeAt_go, hg, wrB_some, if_pos ⟨by simp only [List.length_append]; omega, oC⟩, show 0 + i * 16 = (K.row A).length by omega]
  have ha : appendV h 16 160 63 (.sl b 0 i cap 16) (.sl b (0 + (i + 1) * 16) ((A ++ x :: C).length - (i + 1)) (cap - (i + 1)) 16) = some (.sl b 0 ((A ++ x :: C).length - 1) cap 16, h.put b (.cells ((K.row A ++ K.C x ++ K.row C ++ z).take (K.row A).length ++ K.row C ++ (K.row A ++ K.C x ++ K.row C ++ z).drop ((K.row A).length + (K.row C).length)) e (ver + 1))) := by
    have e1 : (K.row C).length = ((A ++ x :: C).length - (i + 1)) * 16 := by rw [lC, ll]; omega
    have e2 : i + ((A ++ x :: C).length - (i + 1)) ≤ cap := by omega
    have e3 : i + ((A ++ x :: C).length - (i + 1)) = (A ++ x :: C).length - 1 := by omega
    have e4 : (A ++ x :: C).length - 1 ≤ cap := by omega
    simp only [appendV, lenV, hc, e1, oC, and_self, if_true, Nat.beq_refl, cond_true, hw, e3, e4]
  have hw2 : writeAt (h.put b (.cells ((K.row A ++ K.C x ++ K.row C ++ z).take (K.row A).length ++ K.row C ++ (K.row A ++ K.C x ++ K.row C ++ z).drop ((K.row A).length + (K.row C).length)) e (ver + 1))) b (0 + ((A ++ x :: C).length - 1) * 16) z16 = some ((h.put b (.cells ((K.row A ++ K.C x ++ K.row C ++ z).take (K.row A).length ++ K.row C ++ (K.row A ++ K.C x ++ K.row C ++ z).drop ((K.row A).length + (K.row C).length)) e (ver + 1))).put b (.cells (K.row A ++ K.row C ++ (z16 ++ z)) e (ver + 1 + 1))) := by
    rw [writeAt_go, Heap.get_put, if_pos rfl, wrB_some, if_pos ⟨by simp only [List.length_append, List.length_take, List.length_drop]; simp; omega, by rfl⟩, show 0 + ((A ++ x :: C).length - 1) * 16 = (K.row A).length + (K.row C).length by omega, del_cells (by rw [lx]; rfl)]
  have hcl : (A ++ x :: C).length - ((A ++ x :: C).length - 1) = 1 := by omega
  rw [Nat.zero_add] at ha hw2 s1 s3 s4
  rw [hcl] at s4
  have hcs := clS_go (z := z16) (b := b) (off := ((A ++ x :: C).length - 1) * 16) (len := 1) (cap := cap - ((A ++ x :: C).length - 1)) (sz := 16) (by decide) ((by rw [List.replicate_one, List.flatten_singleton]; exact hw2 : writeAt _ b (((A ++ x :: C).length - 1) * 16) (List.replicate 1 z16).flatten = _))
  simp only [v83, s1, s2, s3, s4, n1, ha, vop_clearS, hcs, RX, VOp.fresh, bxC, bsC, un, most, callsOf, seval, Int.reducePow, ↓reduceIte, Nat.reduceEqDiff, reduceCtorEq]
  refine q _ (ver + 1 + 1) rfl (fun c hc => by rw [Heap.get_put, if_neg hc, Heap.get_put, if_neg hc]) ?_
  rw [Heap.get_put, if_pos rfl, er, K.row_app]
  rfl
end
end Go.Proofs.Ytinonmcnofjeeaa.VM
namespace Go.Proofs.Ytinonmcnofjeeaa.VM
attribute [local irreducible] Af Nx EvO Ev Un Gd Cd EvR EvQ EvC Nc Gc Lp EvM NxM AfM GdM EvMR EvMQ EvMD EvMC Nm Gm
section
variable {P : Program} {α : Type} {K : MK P α} {h h' : Heap} {v : AV} {xs : List α} {D D' : List Nat} {qb : Nat} {mo : Int}
theorem QF.refl : QF h h qb D D := ⟨Nat.le_refl _, fun b hb => .inl hb, fun _ _ _ _ => rfl⟩
theorem Ext.qf (x : Ext h h') : QF h h' qb D D := ⟨x.1, fun b hb => .inl hb, fun b hb _ _ => x.2 b hb⟩
theorem QS.ext (q : QS K h qb mo xs D) (x : Ext h h') : QS K h' qb mo xs D := by
  obtain ⟨a, b, c, e, ver, v, g, r, rfl⟩ := q
  exact ⟨Nat.lt_of_lt_of_le a x.1, b, c, e, ver, v, (x.2 _ a).trans g, r.frame x.1 fun d hd => x.2 d (r.lt d hd), rfl⟩
theorem MK.send_cl (K : MK P α) (g : Pg P tab) {x : α} (q : QS K h qb mo xs D) {c : List AV} (lc : ∀ h', Ext h h' → Fzs true h' c (K.C x)) (hc : c.length = 16) (oc : c.all AV.one = true) {Q : AV → Heap → Prop}
    (k0 : K.E x = false → ∀ h', QS K h' qb mo xs D → Ext h h' → ∃ e, e = 1700 ∧ Q (.int .i64 e) h')
    (k1 : K.E x = true → ¬ (xs.length : Int) < mo → ∀ h', QS K h' qb mo xs D → Ext h h' → ∃ e, e = 1701 ∧ Q (.int .i64 e) h')
    (k2 : K.E x = true → (xs.length : Int) < mo → ∀ h' y D', K.R x y → QS K h' qb mo (xs ++ [y]) D' → QF h h' qb D D' → ∃ e, e = 0 ∧ Q (.int .i64 e) h') : Cl P 35 [.ptr qb 0, .agg c] h Q := by
  refine g.cl (vf := v35) rfl rfl ?_
  have x1 := Ext.mk (h := h) (.cells c 63 0)
  have q1 := q.ext x1
  have g1 : (h.mk' h.next (.cells c 63 0)).get h.next = some (.cells c 63 0) := by rw [Heap.get_mk, if_pos rfl]
  have lc1 := lc _ x1
  have n1 : (h.mk' h.next (.cells c 63 0)).next = h.next + 1 := by rw [mk_next]; omega
  have ct : c.take 16 = c := List.take_of_length_le (by omega)
  simp only [v35, HE, RX, VOp.fresh, bxC, bsC, un, most, callsOf, seval, Int.reducePow, ↓reduceIte, Nat.reduceEqDiff, reduceCtorEq]
  clear lc
  generalize hH : h.mk' h.next (.cells c 63 0) = h1 at *
  simp only [g1, hc, ct, RX, VOp.fresh, bxC, bsC, un, most, callsOf, seval, Int.reducePow, ↓reduceIte, Nat.reduceEqDiff, reduceCtorEq]
  refine (K.pt x).cl (.cons (.agg lc1) .nil) ?_
  rintro v ⟨S, e, rfl, he⟩
  by_cases hE : K.E x = true
  · obtain rfl := he.2 hE
    obtain ⟨a, b, ⟨c1, c2⟩, e1, ver1, v1, gq, r, rfl⟩ := q1
    simp only [gq, r.len, RX, VOp.fresh, bxC, bsC, un, most, callsOf, seval, Int.reducePow, ↓reduceIte, Nat.reduceEqDiff, reduceCtorEq]
    by_cases hl : (xs.length : Int) < mo
    · have hl' : ¬ mo ≤ (xs.length : Int) := by omega
      obtain ⟨v2, v2', hz, o, hf, y, rfl, hy⟩ := K.cp x
      have ok : OK P 82 [.agg c] h1 (.agg (K.C y)) h1 := o.pure (.cons (.agg lc1) .nil) hf
      have ly := K.len y
      have ty : (K.C y).take 16 = K.C y := List.take_of_length_le (by omega)
      have x2 := Ext.mk (h := h1) (.cells (K.C y) 63 0)
      have g2 : (h1.mk' h1.next (.cells (K.C y) 63 0)).get h1.next = some (.cells (K.C y) 63 0) := by rw [Heap.get_mk, if_pos rfl]
      have r2 := r.frame x2.1 fun b hb => x2.2 b (r.lt b hb)
      have gq2 := (x2.2 qb a).trans gq
      have n2 : (h1.mk' h1.next (.cells (K.C y) 63 0)).next = h1.next + 1 := by rw [mk_next]; omega
      obtain ⟨v3, h3, ea, r3, n3, d3, k3⟩ := r2.push (by omega) g2
      have gq3 := (k3 qb (by omega) b).trans gq2
      have o3 := r3.one
      have c3 := r3.cells
      simp only [hl', RX, VOp.fresh, bxC, bsC, un, most, callsOf, seval, Int.reducePow, ↓reduceIte, Nat.reduceEqDiff, reduceCtorEq]
      refine EvD.lk (fun _ _ _ => (.agg (K.C y), h1)) ?_
      simp only [gq, g1, hc, ct, ok, ly, ty, ea, gq3, o3, c3, List.append_nil, RW, RX, VOp.fresh, bxC, bsC, un, most, callsOf, seval, Int.reducePow, ↓reduceIte, Nat.reduceEqDiff, reduceCtorEq]
      refine ⟨⟨⟨?_, ?_, trivial⟩, trivial⟩, ?_⟩
      · show Lk _ _ _ _
        simp only [Lk, wanted, gq, RX, VOp.fresh, bxC, bsC, un, most, callsOf, seval, Int.reducePow, ↓reduceIte, Nat.reduceEqDiff, reduceCtorEq]
      · show Lk _ _ _ _
        simp only [Lk, wanted, gq2, RX, VOp.fresh, bxC, bsC, un, most, callsOf, seval, Int.reducePow, ↓reduceIte, Nat.reduceEqDiff, reduceCtorEq]
      obtain ⟨_, rfl, hq⟩ := k2 hE hl (h3.put qb (.cells [.int .i64 mo, v3] e1 (ver1 + 1))) y (blkOf v3) hy
        ⟨by rw [put_next]; omega, fun hb => (d3 qb hb).elim b (fun e => by omega), ⟨by rw [List.length_append, List.length_singleton]; omega, c2⟩, e1, ver1 + 1, v3, by rw [Heap.get_put, if_pos rfl],
          r3.frame (by rw [put_next]; exact Nat.le_refl _) (fun d hd => by rw [Heap.get_put, if_neg]; intro e; exact (d3 d hd).elim (fun f => b (e ▸ f)) (fun f => by omega)), rfl⟩
        ⟨by rw [put_next]; omega, fun d hd => (d3 d hd).imp id (fun e => by omega), fun d hd hn1 hn2 => by
          rw [Heap.get_put, if_neg hn1, k3 d (by omega) hn2, x2.2 d (by omega), x1.2 d hd]⟩
      exact hq
    · have hl' : mo ≤ (xs.length : Int) := by omega
      simp only [hl', RX, VOp.fresh, bxC, bsC, un, most, callsOf, seval, Int.reducePow, ↓reduceIte, Nat.reduceEqDiff, reduceCtorEq]
      obtain ⟨_, rfl, hq⟩ := k1 hE hl h1 ⟨a, b, ⟨c1, c2⟩, e1, ver1, v1, gq, r, rfl⟩ x1
      exact hq
  · have hne : ¬ e = 0 := fun c => hE (he.1 c)
    simp only [hne, RX, VOp.fresh, bxC, bsC, un, most, callsOf, seval, Int.reducePow, ↓reduceIte, Nat.reduceEqDiff, reduceCtorEq]
    obtain ⟨_, rfl, hq⟩ := k0 (by simpa using hE) h1 q1 x1
    exact hq
theorem QRow.look (r : QRow K h v xs) {i : Nat} (hi : i < xs.length) : ∃ b cap e ver L, v = .sl b 0 xs.length cap 16 ∧ b < h.next ∧ h.get b = some (.cells L e ver) ∧ part true L (i * 16) 16 = some (.agg (K.C xs[i])) ∧ (∀ (hh : Heap) (kk : IntKind), iaV hh 16 none v (.int kk (i : Int)) = .val (.ptr b (i * 16)) hh) := by
  rcases r with ⟨rfl, rfl⟩ | ⟨b, cap, e, ver, z, rfl, hb, hg, hl, hz⟩
  · simp at hi
  · refine ⟨b, cap, e, ver, _, rfl, hb, hg, ?_, fun hh kk => ?_⟩
    · have e1 : xs = xs.take i ++ xs[i] :: xs.drop (i + 1) := by rw [List.getElem_cons_drop, List.take_append_drop]
      have e2 : K.row xs = K.row (xs.take i) ++ (K.C xs[i] ++ K.row (xs.drop (i + 1))) := by
        conv => lhs; rw [e1]
        rw [K.row_app, show xs[i] :: xs.drop (i + 1) = [xs[i]] ++ xs.drop (i + 1) from rfl, K.row_app, K.row_one]
      have l1 : (K.row (xs.take i)).length = i * 16 := by rw [K.row_len, List.length_take]; omega
      have l2 := K.len xs[i]
      have e3 : ((K.row xs ++ z).drop (i * 16)).take 16 = K.C xs[i] := by
        rw [e2, List.append_assoc, List.drop_left' l1, List.append_assoc, List.take_left' l2]
      rw [part_eq, e3, if_pos l2]
      rfl
    · have : 0 ≤ (i : Int) ∧ (i : Int) < (xs.length : Int) ∧ 16 = 16 := ⟨by omega, by omega, rfl⟩
      simp only [iaV, this, and_self, if_true, Int.toNat_natCast, Nat.zero_add]
theorem MK.take_cl (K : MK P α) (g : Pg P tab) (q : QS K h qb mo xs D) {i : Int} {Q : AV → Heap → Prop}
    (k0 : ¬ (0 ≤ i ∧ i < (xs.length : Int)) → ∀ h', QS K h' qb mo xs D → QF h h' qb D D → Q (.tup [.agg z16, .int .i64 1700]) h')
    (k1 : ∀ (j : Nat) (hj : j < xs.length), i = (j : Int) → ∀ h', QS K h' qb mo (xs.eraseIdx j) D → QF h h' qb D D → Q (.tup [.agg (K.C xs[j]), .int .i64 0]) h') : Cl P 37 [.ptr qb 0, .int .i64 i] h Q := by
  refine g.cl (vf := v37) rfl rfl ?_
  obtain ⟨a, b, ⟨c1, c2⟩, e1, ver1, v1, gq, r, rfl⟩ := q
  have hne : ¬ qb = h.next := by omega
  have hne' : ¬ h.next = qb := by omega
  have q0 : QS K h qb mo xs (blkOf v1) := ⟨a, b, ⟨c1, c2⟩, e1, ver1, v1, gq, r, rfl⟩
  by_cases i0 : i < 0
  · simp only [v37, HE, i0, RW, RX, VOp.fresh, bxC, bsC, un, most, callsOf, seval, Int.reducePow, ↓reduceIte, Nat.reduceEqDiff, reduceCtorEq]
    have x := Ext.new (h := h) (o := .cells z16 63 0) (o' := .cells z16 63 1)
    exact k0 (by omega) _ (q0.ext x) x.qf
  by_cases i1 : (xs.length : Int) ≤ i
  · simp only [v37, HE, i0, i1, hne, gq, r.len, RW, RX, VOp.fresh, bxC, bsC, un, most, callsOf, seval, Int.reducePow, ↓reduceIte, Nat.reduceEqDiff, reduceCtorEq]
    have x := Ext.new (h := h) (o := .cells z16 63 0) (o' := .cells z16 63 1)
    exact k0 (by omega) _ (q0.ext x) x.qf
  obtain ⟨j, rfl⟩ : ∃ j : Nat, i = (j : Int) := ⟨i.toNat, by omega⟩
  have hj : j < xs.length := by omega
  obtain ⟨bb, cap, e2, ver2, L, rfl, hb2, g2, hp, hia⟩ := r.look hj
  have hbq : ¬ qb = bb := fun e => b (by simp [blkOf, e])
  have w1 : IntKind.i64.wrap ((j : Int) + 1) = ((j + 1 : Nat) : Int) := by rw [w64 (by omega) (by omega)]; push_cast; rfl
  have hbn : ¬ bb = h.next := by omega
  have hbn1 : ¬ bb = h.next + 1 := by omega
  have hqn1 : ¬ qb = h.next + 1 := by omega
  have hqn2 : ¬ h.next + 1 = qb := by omega
  have lC := K.len xs[j]
  have oC := K.one xs[j]
  have tC : (K.C xs[j]).take 16 = K.C xs[j] := List.take_of_length_le (by omega)
  simp only [v37, HE, i0, i1, hne, hbn, hbn1, hqn1, gq, g2, hp, hia, r.len, lC, oC, w1, HN, RW, RX, VOp.fresh, bxC, bsC, un, most, callsOf, seval, Int.reducePow, ↓reduceIte, Nat.reduceEqDiff, reduceCtorEq]
  have x := Ext.mk (h := h) (.cells z16 63 0)
  have nx : (h.mk' h.next (.cells z16 63 0)).next = h.next + 1 := by rw [mk_next]; omega
  have x2 := Ext.new (h := h.mk' h.next (.cells z16 63 0)) (o := .cells z16 63 0) (o' := .cells (K.C xs[j]) 63 1)
  rw [nx] at x2
  have xx := x.trans x2
  have nn : (((h.mk' h.next (.cells z16 63 0)).mk' (h.next + 1) (.cells z16 63 0)).put (h.next + 1) (.cells (K.C xs[j]) 63 1)).next = h.next + 2 := by
    have := new_next (h := h.mk' h.next (.cells z16 63 0)) (o := .cells z16 63 0) (o' := .cells (K.C xs[j]) 63 1)
    rw [nx] at this
    omega
  have gz : (((h.mk' h.next (.cells z16 63 0)).mk' (h.next + 1) (.cells z16 63 0)).put (h.next + 1) (.cells (K.C xs[j]) 63 1)).get h.next = some (.cells z16 63 0) := by
    rw [Heap.get_put, if_neg (by omega), Heap.get_mk, if_neg (by omega), Heap.get_mk, if_pos rfl]
  have gm : (((h.mk' h.next (.cells z16 63 0)).mk' (h.next + 1) (.cells z16 63 0)).put (h.next + 1) (.cells (K.C xs[j]) 63 1)).get (h.next + 1) = some (.cells (K.C xs[j]) 63 1) := by
    rw [Heap.get_put, if_pos rfl]
  have q2 := q0.ext xx
  rw [List.append_nil]
  generalize ((h.mk' h.next (.cells z16 63 0)).mk' (h.next + 1) (.cells z16 63 0)).put (h.next + 1) (.cells (K.C xs[j]) 63 1) = h2 at *
  obtain ⟨_, _, _, e3, ver3, v3, gq3, r3, _⟩ := q2
  obtain rfl : v3 = .sl bb 0 xs.length cap 16 := by
    have := (xx.2 qb a).trans gq
    rw [gq3] at this
    simp only [Option.some.injEq, Blk.cells.injEq, List.cons.injEq, and_true, true_and] at this
    exact this.1
  rcases id r3 with ⟨h0, _⟩ | ⟨b', cap', e4, ver4, z, ev, hb4, g4, hl4, hz4⟩
  · cases h0
  cases ev
  refine K.del_cl g hj (by omega) hb4 g4 hl4 fun h3 v5 n3 k3 g3 => ?_
  have gq4 := (k3 qb hbq).trans gq3
  have gz4 := (k3 h.next (by omega)).trans gz
  have gm4 := (k3 (h.next + 1) (by omega)).trans gm
  simp only [gq4, gz4, gm4, lC, oC, tC, hne, hqn1, hqn2, hne', HN, List.append_nil, RW, RX, VOp.fresh, bxC, bsC, un, most, callsOf, seval, Int.reducePow, ↓reduceIte, Nat.reduceEqDiff, reduceCtorEq]
  refine k1 j hj rfl _ ?_ ?_
  · refine ⟨by rw [put_next, put_next]; omega, b, ⟨by rw [List.length_eraseIdx_of_lt hj]; omega, c2⟩, e3, ver3 + 1, .sl bb 0 (xs.length - 1) cap 16, ?_, .inr ⟨bb, cap, e4, v5, z16 ++ z, ?_, by rw [put_next, put_next]; omega, ?_, ?_, ?_⟩, rfl⟩
    · rw [Heap.get_put, if_neg hne, Heap.get_put, if_pos rfl]
    · rw [List.length_eraseIdx_of_lt hj]
    · rw [Heap.get_put, if_neg hbn, Heap.get_put, if_neg (fun e => hbq e.symm), g3]
    · rw [List.length_append, List.length_eraseIdx_of_lt hj, show z16.length = 16 from rfl]; omega
    · rw [List.all_append, hz4]; rfl
  · refine ⟨by rw [put_next, put_next]; omega, fun c hc => .inl hc, fun c hc h1 h2 => ?_⟩
    simp only [blkOf, List.mem_singleton] at h2
    rw [Heap.get_put, if_neg (by omega), Heap.get_put, if_neg h1, k3 c h2]
    exact xx.2 c hc
theorem MK.copy_cl (K : MK P α) (g : Pg P tab) (q : QS K h qb mo xs D) {i : Int} {Q : AV → Heap → Prop}
    (k0 : ¬ (0 ≤ i ∧ i < (xs.length : Int)) → ∀ h', QS K h' qb mo xs D → QF h h' qb D D → ∃ e, e = 1700 ∧ Q (.int .i64 e) h')
    (k1 : ∀ (j : Nat) (hj : j < xs.length), i = (j : Int) → K.E xs[j] = true → ¬ (xs.length : Int) < mo → ∀ h', QS K h' qb mo xs D → QF h h' qb D D → ∃ e, e = 1701 ∧ Q (.int .i64 e) h')
    (k2 : ∀ (j : Nat) (hj : j < xs.length), i = (j : Int) → K.E xs[j] = true → (xs.length : Int) < mo → ∀ h' y D', K.R xs[j] y → QS K h' qb mo (xs ++ [y]) D' → QF h h' qb D D' → ∃ e, e = 0 ∧ Q (.int .i64 e) h')
    (hE : ∀ x ∈ xs, K.E x = true) : Cl P 39 [.ptr qb 0, .int .i64 i] h Q := by
  refine g.cl (vf := v39) rfl rfl ?_
  obtain ⟨a, b, ⟨c1, c2⟩, e1, ver1, v1, gq, r, rfl⟩ := q
  have q0 : QS K h qb mo xs (blkOf v1) := ⟨a, b, ⟨c1, c2⟩, e1, ver1, v1, gq, r, rfl⟩
  by_cases i0 : i < 0
  · simp only [v39, HE, i0, RW, RX, VOp.fresh, bxC, bsC, un, most, callsOf, seval, Int.reducePow, ↓reduceIte, Nat.reduceEqDiff, reduceCtorEq]
    obtain ⟨_, rfl, hq⟩ := k0 (by omega) _ q0 QF.refl
    exact hq
  by_cases i1 : (xs.length : Int) ≤ i
  · simp only [v39, HE, i0, i1, gq, r.len, RW, RX, VOp.fresh, bxC, bsC, un, most, callsOf, seval, Int.reducePow, ↓reduceIte, Nat.reduceEqDiff, reduceCtorEq]
    obtain ⟨_, rfl, hq⟩ := k0 (by omega) _ q0 QF.refl
    exact hq
  obtain ⟨j, rfl⟩ : ∃ j : Nat, i = (j : Int) := ⟨i.toNat, by omega⟩
  have hj : j < xs.length := by omega
  obtain ⟨bb, cap, e2, ver2, L, rfl, hb2, g2, hp, hia⟩ := r.look hj
  have hEj := hE _ (List.getElem_mem hj)
  simp only [v39, HE, i0, i1, gq, g2, hp, hia, r.len, RX, VOp.fresh, bxC, bsC, un, most, callsOf, seval, Int.reducePow, ↓reduceIte, Nat.reduceEqDiff, reduceCtorEq]
  refine K.send_cl g q0 (fun _ _ => Fzs.refl (K.told xs[j])) (K.len _) (K.one _) (fun c => by rw [hEj] at c; cases c) (fun _ hl h' q' x' => ?_) (fun _ hl h' y D' hy q' f' => ?_)
  · obtain ⟨_, rfl, hq⟩ := k1 j hj rfl hEj hl h' q' x'.qf
    refine ⟨_, rfl, ?_⟩
    simp only [RX, VOp.fresh, bxC, bsC, un, most, callsOf, seval, Int.reducePow, ↓reduceIte, Nat.reduceEqDiff, reduceCtorEq]
    exact hq
  · obtain ⟨_, rfl, hq⟩ := k2 j hj rfl hEj hl h' y D' hy q' f'
    refine ⟨_, rfl, ?_⟩
    simp only [RX, VOp.fresh, bxC, bsC, un, most, callsOf, seval, Int.reducePow, ↓reduceIte, Nat.reduceEqDiff, reduceCtorEq]
    exact hq
end
end Go.Proofs.Ytinonmcnofjeeaa.VM
namespace Go.Proofs.Ytinonmcnofjeeaa.VM
attribute [local irreducible] Af Nx EvO Ev Un Gd Cd EvR EvQ EvC Nc Gc Lp EvM NxM AfM GdM EvMR EvMQ EvMD EvMC Nm Gm
section
variable {P : Program} {α : Type} {K : MK P α} {h0 : Heap} {w : AV} {xs : List α} {D : List Nat} {qb : Nat} {mo : Int}
theorem all_loop (g : Pg P tab) (r0 : QRow K h0 w xs) (hx : xs.length ≤ 64) (n : Nat) : ∀ (i : Nat) (ys : List α) (s : T AV) (h : Heap) (k : List Fr) (Q : Ex → T AV → Heap → Prop), i + n = xs.length → Ext h0 h → Row h (sg s 3) 16 (K.row ys) i → ys.length = i → (∀ j (h1 : j < ys.length) (h2 : j < xs.length), K.R xs[j] ys[j]) →
    (∀ b ∈ blkOf (sg s 3), h0.next ≤ b) → sg s 11 = w → sg s 12 = .int .i64 xs.length → sg s 13 = .int .i64 i →
    (∀ s' h' ys', Ext h0 h' → Row h' (sg s' 3) 16 (K.row ys') xs.length → ys'.length = xs.length → (∀ j (h1 : j < ys'.length) (h2 : j < xs.length), K.R xs[j] ys'[j]) → (∀ b ∈ blkOf (sg s' 3), h0.next ≤ b) → Un P k Q (.exit 0) s' h') → Lp P b41_0 s h (Un P k Q) := by
  induction n with
  | zero =>
    intro i ys s h k Q hi xe r hl hR hb t11 t12 t13 hQ
    refine g.lpe b41_0.eq_1 ?_
    have c1 : ¬ ((i : Int) < (xs.length : Int)) := by omega
    simp only [t12, t13, c1, RX, VOp.fresh, bxC, bsC, un, most, callsOf, seval, Int.reducePow, ↓reduceIte, Nat.reduceEqDiff, reduceCtorEq]
    have hi' : i = xs.length := by omega
    refine hQ _ _ ys xe ?_ (by omega) hR ?_
    · simp only [sg_set, Nat.reduceEqDiff, ↓reduceIte]
      rw [← hi']; exact r
    · simp only [sg_set, Nat.reduceEqDiff, ↓reduceIte]
      exact hb
  | succ n ih =>
    intro i ys s h k Q hi xe r hl hR hb t11 t12 t13 hQ
    refine g.lpe b41_0.eq_1 ?_
    have c1 : (i : Int) < (xs.length : Int) := by omega
    have w1 : IntKind.i64.wrap ((i : Int) + 1) = ((i + 1 : Nat) : Int) := by rw [w64 (by omega) (by omega)]; push_cast; rfl
    have hi' : i < xs.length := by omega
    have rf := r0.frame xe.1 fun b hb => xe.2 b (r0.lt b hb)
    obtain ⟨bb, cap, e2, ver2, L, ew, hb2, g2, hp, hia⟩ := rf.look hi'
    have lC := K.len xs[i]
    have oC := K.one xs[i]
    have tC : (K.C xs[i]).take 16 = K.C xs[i] := List.take_of_length_le (by omega)
    simp only [t11, t12, t13, c1, hia, g2, hp, lC, oC, tC, List.append_nil, RW, RX, VOp.fresh, bxC, bsC, un, most, callsOf, seval, Int.reducePow, ↓reduceIte, Nat.reduceEqDiff, reduceCtorEq]
    have x1 := Ext.new (h := h) (o := .cells z16 63 0) (o' := .cells (K.C xs[i]) 63 1)
    have n1 : ((h.mk' h.next (.cells z16 63 0)).put h.next (.cells (K.C xs[i]) 63 1)).next = h.next + 1 := new_next
    generalize (h.mk' h.next (.cells z16 63 0)).put h.next (.cells (K.C xs[i]) 63 1) = h1 at *
    refine (K.cp xs[i]).go (by simp [AV.tolds, AV.told, K.told]) ?_
    rintro v ⟨y, rfl, hy⟩
    have ly := K.len y
    have x2 := Ext.mk (h := h1) (.cells (K.C y) 63 0)
    have hlt := r.lt
    obtain ⟨h3, ea, r3, n3, k3⟩ := ((r.ext x1).ext x2).push (nb := h1.next) (by rw [Heap.get_mk, if_pos rfl]) ly (K.one y) (bytes := 160) (by unfold most2; omega) 63
    rw [show (h1.mk' h1.next (.cells (K.C y) 63 0)).next = h1.next + 1 by rw [mk_next]; omega] at ea r3 n3 k3
    have ty : (K.C y).take 16 = K.C y := List.take_of_length_le (by omega)
    simp only [t13, w1, ly, ty, ea, List.append_nil, RX, VOp.fresh, bxC, bsC, un, most, callsOf, seval, Int.reducePow, ↓reduceIte, Nat.reduceEqDiff, reduceCtorEq]
    have x3 : ∀ b, b < h0.next → h3.get b = h.get b := fun b hb' => by
      have := xe.1
      rw [k3 b (fun c => by have := hb b c; omega) (by omega), x2.2 b (by omega), x1.2 b (by omega)]
    refine ih (i + 1) (ys ++ [y]) _ h3 k Q (by omega) ⟨by have := xe.1; omega, fun b hb' => (x3 b hb').trans (xe.2 b hb')⟩ ?_ (by rw [List.length_append, List.length_singleton, hl]) ?_ ?_ ?_ ?_ ?_ hQ
    · simp only [sg_set, Nat.reduceEqDiff, ↓reduceIte]
      rw [K.row_app, K.row_one]; exact r3
    · intro j h1 h2
      rw [List.length_append, List.length_singleton] at h1
      by_cases hj : j < ys.length
      · rw [List.getElem_append_left hj]; exact hR j hj h2
      · have : j = i := by omega
        subst this
        rw [List.getElem_append_right (by omega)]
        simp only [hl, Nat.sub_self, List.getElem_singleton]
        exact hy
    · simp only [sg_set, Nat.reduceEqDiff, ↓reduceIte]
      intro b hb'
      simp only [blkOf, List.mem_singleton] at hb'
      have := xe.1
      omega
    · simp only [t11, sg_set, Nat.reduceEqDiff, ↓reduceIte]
    · simp only [t12, sg_set, Nat.reduceEqDiff, ↓reduceIte]
    · simp only [sg_set, Nat.reduceEqDiff, ↓reduceIte]
theorem MK.all_cl (K : MK P α) (g : Pg P tab) {h : Heap} (q : QS K h qb mo xs D) {Q : AV → Heap → Prop}
    (k : ∀ h' v ys, Ext h h' → Row h' v 16 (K.row ys) xs.length → ys.length = xs.length → (∀ j (h1 : j < ys.length) (h2 : j < xs.length), K.R xs[j] ys[j]) → (∀ b ∈ blkOf v, h.next ≤ b) → Q v h') : Cl P 41 [.ptr qb 0] h Q := by
  refine g.cl (vf := v41) rfl rfl ?_
  obtain ⟨a, b, ⟨c1, c2⟩, e1, ver1, v1, gq, r, rfl⟩ := q
  simp only [v41, HE, gq, r.len, RX, VOp.fresh, bxC, bsC, un, most, callsOf, seval, Int.reducePow, ↓reduceIte, Nat.reduceEqDiff, reduceCtorEq]
  refine all_loop (K := K) g r (by omega) xs.length 0 [] _ h _ _ (by omega) (Ext.refl _) ?_ rfl (fun j h1 => by simp at h1) ?_ ?_ ?_ ?_ ?_
  · simp only [sg_set, Nat.reduceEqDiff, ↓reduceIte]
    exact .nil _ _
  · simp only [sg_set, Nat.reduceEqDiff, ↓reduceIte]
    intro b hb; simp [blkOf] at hb
  · simp only [sg_set, Nat.reduceEqDiff, ↓reduceIte]
  · simp only [sg_set, Nat.reduceEqDiff, ↓reduceIte]
  · simp only [sg_set, Nat.reduceEqDiff, ↓reduceIte]
    rfl
  intro s' h' ys x r' hl hR hb
  simp only [RX, VOp.fresh, bxC, bsC, un, most, callsOf, seval, Int.reducePow, ↓reduceIte, Nat.reduceEqDiff, reduceCtorEq]
  exact k h' _ ys x r' hl hR hb
end
end Go.Proofs.Ytinonmcnofjeeaa.VM
namespace Go.Proofs.Ytinonmcnofjeeaa.VM
attribute [local irreducible] Af Nx EvO Ev Un Gd Cd EvR EvQ EvC Nc Gc Lp EvM NxM AfM GdM EvMR EvMQ EvMD EvMC Nm Gm
def nm (m : Ms) : Ms := ⟨m.kind, m.frm, m.to, m.node, m.seq, m.base, m.yes, m.query, m.applied, m.busy, m.box, [], []⟩
def askM (k : Int) : Ms := ⟨4, 0, 1, 0, k, 0, false, 0, 0, false, ⟨0, 0, 0, 0⟩, [], []⟩
open Classical in
noncomputable def plE (m : Ms) : Bool := decide (msOk (nm m) ∧ (msB (nm m)).length ≤ 16384)
theorem askOk (k : Int) : msOk (askM k) ↔ 1 ≤ k ∧ k ≤ 65535 := by
  simp [msOk, askM, nodeOk, txM, opsM, queryM, partM, kTx, kYes, kOps, kQuery, kPart, zeroBox, txOk]
theorem askLen (k : Int) : (msB (askM k)).length ≤ 16384 := by
  simp [msB, askM, kTx, kYes, kOps, kQuery, kPart, numB_len, txB]
theorem plE_ask (k : Int) : plE (askM k) = decide (1 ≤ k ∧ k ≤ 65535) := by
  have : nm (askM k) = askM k := rfl
  unfold plE
  rw [this]
  have := askOk k
  have := askLen k
  by_cases h : 1 ≤ k ∧ k ≤ 65535 <;> simp [*]
section
variable {P : Program}
theorem tl_nils {h : Heap} {R : AV → Prop} : Tl h .nils R = R .nils := propext ⟨fun ⟨_, f, r⟩ => by cases f; exact r, fun r => ⟨_, .nils, r⟩⟩
theorem msFz (h : Heap) (m : Ms) : Fz false h (.agg (msC m .nils .nils)) (.agg (msC m .nils .nils)) := .agg (.cons (.int _ _) (.cons (.int _ _) (.cons (.int _ _) (.cons (.int _ _) (.cons (.int _ _) (.cons (.int _ _) (.cons (.bool _) (.cons (.int _ _) (.cons (.int _ _) (.cons (.bool _) (.cons (.int _ _) (.cons (.int _ _) (.cons (.int _ _) (.cons (.int _ _) (.cons .nils (.cons .nils .nil))))))))))))))))
theorem cl116 (g : Pg P tab) : Pu P 116 [.nils] (fun v => v = .nils) := by
  refine g.pu (vf := v116) rfl rfl ?_
  simp only [v116, HE, tl_nils, RX, VOp.fresh, bxC, bsC, un, most, callsOf, seval, Int.reducePow, ↓reduceIte, Nat.reduceEqDiff, reduceCtorEq]
theorem cp105 (g : Pg P tab) : Pu P 105 [.nils] (fun v => v = .nils) := by
  refine g.pu (vf := v105) rfl rfl ?_
  simp only [v105, RX, VOp.fresh, bxC, bsC, un, most, callsOf, seval, Int.reducePow, ↓reduceIte, Nat.reduceEqDiff, reduceCtorEq]
  refine (cl116 g).go rfl ?_
  rintro v rfl
  simp only [RX, VOp.fresh, bxC, bsC, un, most, callsOf, seval, Int.reducePow, ↓reduceIte, Nat.reduceEqDiff, reduceCtorEq]
  refine g.lpe b105_0.eq_1 ?_
  simp only [tl_nils, RX, VOp.fresh, bxC, bsC, un, most, callsOf, seval, Int.reducePow, ↓reduceIte, Nat.reduceEqDiff, reduceCtorEq]
theorem cp106 (g : Pg P tab) : Pu P 106 [.nils] (fun v => v = .nils) := by
  refine g.pu (vf := v106) rfl rfl ?_
  simp only [v106, RX, VOp.fresh, bxC, bsC, un, most, callsOf, seval, Int.reducePow, ↓reduceIte, Nat.reduceEqDiff, reduceCtorEq]
  refine g.lpe b106_0.eq_1 ?_
  simp only [tl_nils, RX, VOp.fresh, bxC, bsC, un, most, callsOf, seval, Int.reducePow, ↓reduceIte, Nat.reduceEqDiff, reduceCtorEq]
theorem cp82 (g : Pg P tab) (m : Ms) : Pu P 82 [.agg (msC m .nils .nils)] (fun v => v = .agg (msC m .nils .nils)) := by
  refine g.pu (vf := v82) rfl rfl ?_
  have o1 : ∀ h, OK P 105 [.nils] h .nils h := fun h => (cp105 g).exact rfl
  have o2 : ∀ h, OK P 106 [.nils] h .nils h := fun h => (cp106 g).exact rfl
  simp only [v82, msC, RX, VOp.fresh, bxC, bsC, un, most, callsOf, seval, Int.reducePow, ↓reduceIte, Nat.reduceEqDiff, reduceCtorEq]
  refine EvD.lk (fun _ _ h => (.nils, h)) ?_
  simp only [o1, o2, RW, RX, VOp.fresh, bxC, bsC, un, most, callsOf, seval, Int.reducePow, ↓reduceIte, Nat.reduceEqDiff, reduceCtorEq]
  refine ⟨⟨⟨?_, trivial⟩, trivial⟩, ?_⟩
  · show Lk _ _ _ _
    simp only [Lk, wanted, RX, VOp.fresh, bxC, bsC, un, most, callsOf, seval, Int.reducePow, ↓reduceIte, Nat.reduceEqDiff, reduceCtorEq]
  · exact ⟨_, msFz _ m, rfl⟩
theorem msC_told (m : Ms) : AV.tolds (msC m .nils .nils) = true := by simp [msC, AV.tolds, AV.told]
noncomputable def askK (g : Pg P tab) : MK P Ms where
  C m := msC m .nils .nils
  R a b := a = b
  E := plE
  len _ := rfl
  one _ := rfl
  told m := msC_told m
  cp m := (cp82 g m).mono fun v e => ⟨m, e, rfl⟩
  pt m := by
    have ia : IsL 112 ROp .nils (nm m).ops := isL_nil _ _
    have iu : IsL 40 RFeat .nils (nm m).fs := isL_nil _ _
    by_cases ok : msOk (nm m)
    · have pp := msgPut_good g ia iu ok
      refine pp.mono fun v e => ?_
      subst e
      unfold msAns plE
      by_cases hl : (msB (nm m)).length ≤ 16384
      · rw [if_pos hl]; exact ⟨_, _, rfl, by simp [ok, hl]⟩
      · rw [if_neg hl]; exact ⟨_, _, rfl, by simp [hl]⟩
    · refine (msgPut_bad g ia iu ok).mono fun v e => ?_
      subst e
      exact ⟨_, _, rfl, by simp [plE, ok]⟩
theorem ask_pu (g : Pg P tab) (k : Int) : Pu P 43 [.int .i64 k] (fun v => v = .agg (msC (askM k) .nils .nils)) := by
  refine g.pu (vf := v43) rfl rfl ?_
  simp only [v43, RW, RX, VOp.fresh, bxC, bsC, un, most, callsOf, seval, Int.reducePow, ↓reduceIte, Nat.reduceEqDiff, reduceCtorEq]
  exact ⟨_, msFz _ (askM k), rfl⟩
theorem awake17_pu (g : Pg P tab) : Pu P 34 [] (fun v => v = .bool true) := g.run (n := 400) (by kernel_rfl)
end
end Go.Proofs.Ytinonmcnofjeeaa.VM
namespace Go.Proofs.Ytinonmcnofjeeaa.VM
attribute [local irreducible] Af Nx EvO Ev Un Gd Cd EvR EvQ EvC Nc Gc Lp EvM NxM AfM GdM EvMR EvMQ EvMD EvMC Nm Gm
section
variable {P : Program}
theorem plE_bad : plE ⟨4, 8, 0, 0, 1, 0, false, 0, 0, false, ⟨0, 0, 0, 0⟩, [], []⟩ = false := by
  simp [plE, nm, msOk, nodeOk]
theorem forms17_rest (g : Pg P tab) {h : Heap} {s : T AV} {at_ e : Int} {b : Bool} (t1 : sg s 1 = .int .i64 at_) (t6 : sg s 6 = .int .i64 e) (t7 : sg s 7 = .bool b) (he : (b = true ∧ e = 0) ∨ (b = false ∧ e = 1700)) : Ev P (rst 4 v12.body) s h (Un P [] (Fin v12.res fun v h' => Tl h' v fun v => v = .bool true)) := by
  have E3 : (askK g).E (askM 3) = true := (plE_ask 3).trans (by decide)
  have E4 : (askK g).E (askM 4) = true := (plE_ask 4).trans (by decide)
  have rest : ∀ (xs : List Ms) (qb : Nat) (h3 : Heap) (s3 : T AV) (D3 : List Nat) (e2 : Int), (∀ x ∈ xs, (askK g).E x = true) → xs.length ≤ 1 → QS (askK g) h3 qb 5 xs D3 → sg s3 1 = .int .i64 at_ → sg s3 6 = .int .i64 e → sg s3 7 = .bool b → sg s3 8 = .ptr qb 0 → sg s3 9 = .int .i64 0 → sg s3 11 = .int .i64 e2 → ((at_ = 0 ∧ e2 = 0) ∨ (at_ ≠ 0 ∧ e2 = 1700)) → Ev P (rst 7 v12.body) s3 h3 (Un P [] (Fin v12.res fun v h' => Tl h' v fun v => v = .bool true)) := by
    intro xs qb h3 s3 D3 e2 hE hl q3 u1 u6 u7 u8 u9 u11 hat
    simp only [v12, rst, u8, RX, VOp.fresh, bxC, bsC, un, most, callsOf, seval, Int.reducePow, ↓reduceIte, Nat.reduceEqDiff, reduceCtorEq]
    refine (ask_pu g 4).go rfl ?_
    rintro v rfl
    simp only [RX, VOp.fresh, bxC, bsC, un, most, callsOf, seval, Int.reducePow, ↓reduceIte, Nat.reduceEqDiff, reduceCtorEq]
    refine (askK g).send_cl g q3 (x := askM 4) (fun _ _ => Fzs.refl (msC_told _)) rfl rfl (fun c => by rw [E4] at c; cases c) (fun _ c => absurd (by omega) c) (fun _ _ h4 y D4 hy q4 _ => ?_)
    have hy : askM 4 = y := hy
    subst hy
    refine ⟨0, rfl, ?_⟩
    simp only [u8, RX, VOp.fresh, bxC, bsC, un, most, callsOf, seval, Int.reducePow, ↓reduceIte, Nat.reduceEqDiff, reduceCtorEq]
    refine (askK g).all_cl g q4 fun h5 v5 ys x5 r5 hl5 hR5 _ => ?_
    have q5 := q4.ext x5
    have hE5 : ∀ x ∈ xs ++ [askM 4], (askK g).E x = true := fun x hx => by
      rcases List.mem_append.1 hx with c | c
      · exact hE x c
      · rw [List.mem_singleton.1 c]; exact E4
    have ll : (xs ++ [askM 4]).length = xs.length + 1 := by simp
    simp only [r5.len, u8, RX, VOp.fresh, bxC, bsC, un, most, callsOf, seval, Int.reducePow, ↓reduceIte, Nat.reduceEqDiff, reduceCtorEq]
    refine (askK g).copy_cl g q5 (fun _ h6 q6 _ => ?_) (fun j hj c => absurd c (by omega)) (fun j hj c => absurd c (by omega)) hE5
    refine ⟨1700, rfl, ?_⟩
    simp only [u8, RX, VOp.fresh, bxC, bsC, un, most, callsOf, seval, Int.reducePow, ↓reduceIte, Nat.reduceEqDiff, reduceCtorEq]
    refine (askK g).copy_cl g q6 (fun _ h7 q7 _ => ?_) (fun j hj c => absurd c (by omega)) (fun j hj c => absurd c (by omega)) hE5
    refine ⟨1700, rfl, ?_⟩
    simp only [u8, RX, VOp.fresh, bxC, bsC, un, most, callsOf, seval, Int.reducePow, ↓reduceIte, Nat.reduceEqDiff, reduceCtorEq]
    refine (askK g).send_cl g q7 (x := ⟨4, 8, 0, 0, 1, 0, false, 0, 0, false, ⟨0, 0, 0, 0⟩, [], []⟩) (fun _ _ => Fzs.refl (msC_told _)) rfl rfl (fun _ h8 q8 _ => ?_) (fun c => by rw [show (askK g).E _ = plE _ from rfl, plE_bad] at c; cases c) (fun c => by rw [show (askK g).E _ = plE _ from rfl, plE_bad] at c; cases c)
    refine ⟨1700, rfl, ?_⟩
    simp only [u6, RX, VOp.fresh, bxC, bsC, un, most, callsOf, seval, Int.reducePow, ↓reduceIte, Nat.reduceEqDiff, reduceCtorEq]
    refine (num_pu g _).go rfl ?_
    rintro v rfl
    rcases he with ⟨rfl, rfl⟩ | ⟨rfl, rfl⟩ <;> rcases hat with ⟨ha, rfl⟩ | ⟨ha, rfl⟩
    all_goals
      simp only [u1, u6, u7, u8, u9, u11, ha, HE, RX, VOp.fresh, bxC, bsC, un, most, callsOf, seval, Int.reducePow, ↓reduceIte, Nat.reduceEqDiff, reduceCtorEq]
      repeat (refine (num_pu g _).go rfl ?_; rintro v rfl; simp only [u1, u6, u7, u8, u9, u11, ha, HE, RX, VOp.fresh, bxC, bsC, un, most, callsOf, seval, Int.reducePow, ↓reduceIte, Nat.reduceEqDiff, reduceCtorEq])
      refine (askK g).all_cl g q8 fun h9 v9 ys9 x9 r9 hl9 hR9 _ => ?_
      simp only [r9.len, RX, VOp.fresh, bxC, bsC, un, most, callsOf, seval, Int.reducePow, ↓reduceIte, Nat.reduceEqDiff, reduceCtorEq]
  have e0 : rst 4 v12.body = .seq (blk 4 v12.body) (.seq (blk 5 v12.body) (.seq (blk 6 v12.body) (rst 7 v12.body))) := rfl
  rw [e0]
  generalize rst 7 v12.body = R at *
  simp only [v12, blk, t1, RX, VOp.fresh, bxC, bsC, un, most, callsOf, seval, Int.reducePow, ↓reduceIte, Nat.reduceEqDiff, reduceCtorEq]
  refine (askK g).new_cl g (mo := 5) (fun _ qb h1 q1 _ _ => ?_) (fun c => absurd (by decide) c)
  simp only [RX, VOp.fresh, bxC, bsC, un, most, callsOf, seval, Int.reducePow, ↓reduceIte, Nat.reduceEqDiff, reduceCtorEq]
  refine (ask_pu g 3).go rfl ?_
  rintro v rfl
  simp only [RX, VOp.fresh, bxC, bsC, un, most, callsOf, seval, Int.reducePow, ↓reduceIte, Nat.reduceEqDiff, reduceCtorEq]
  refine (askK g).send_cl g q1 (x := askM 3) (fun _ _ => Fzs.refl (msC_told _)) rfl rfl (fun c => by rw [E3] at c; cases c) (fun _ c => absurd (by decide) c) (fun _ _ h2 y D2 hy q2 _ => ?_)
  have hy : askM 3 = y := hy
  subst hy
  refine ⟨0, rfl, ?_⟩
  simp only [t1, RX, VOp.fresh, bxC, bsC, un, most, callsOf, seval, Int.reducePow, ↓reduceIte, Nat.reduceEqDiff, reduceCtorEq]
  refine (askK g).take_cl g q2 (fun hn h3 q3 _ => ?_) (fun j hj hij h3 q3 _ => ?_)
  · simp only [RW, RX, VOp.fresh, bxC, bsC, un, most, callsOf, seval, Int.reducePow, ↓reduceIte, Nat.reduceEqDiff, reduceCtorEq]
    refine rest [askM 3] qb _ _ D2 1700 (fun x hx => by rw [List.mem_singleton.1 hx]; exact E3) (by simp) (q3.ext Ext.new) ?_ ?_ ?_ ?_ ?_ ?_ (.inr ⟨?_, rfl⟩)
    · simp only [t1, sg_set, Nat.reduceEqDiff, ↓reduceIte]
    · simp only [t6, sg_set, Nat.reduceEqDiff, ↓reduceIte]
    · simp only [t7, sg_set, Nat.reduceEqDiff, ↓reduceIte]
    · simp only [sg_set, Nat.reduceEqDiff, ↓reduceIte]
    · simp only [sg_set, Nat.reduceEqDiff, ↓reduceIte]
    · simp only [sg_set, Nat.reduceEqDiff, ↓reduceIte]
    · intro c
      exact hn (by subst c; decide)
  · have hj0 : j = 0 := by simp at hj; omega
    subst hj0
    have eC : ∀ hh, (askK g).C (([] ++ [askM 3])[0]'hh) = msC (askM 3) .nils .nils := fun _ => rfl
    simp only [eC]
    simp only [msC, RW, RX, VOp.fresh, bxC, bsC, un, most, callsOf, seval, Int.reducePow, ↓reduceIte, Nat.reduceEqDiff, reduceCtorEq]
    refine rest [] qb _ _ D2 0 (fun x hx => by simp at hx) (by simp) (q3.ext (Ext.new (o' := .cells (msC (askM 3) .nils .nils) 63 1))) ?_ ?_ ?_ ?_ ?_ ?_ (.inl ⟨by simpa using hij, rfl⟩)
    · simp only [t1, sg_set, Nat.reduceEqDiff, ↓reduceIte]
    · simp only [t6, sg_set, Nat.reduceEqDiff, ↓reduceIte]
    · simp only [t7, sg_set, Nat.reduceEqDiff, ↓reduceIte]
    · simp only [sg_set, Nat.reduceEqDiff, ↓reduceIte]
    · simp only [sg_set, Nat.reduceEqDiff, ↓reduceIte]
    · simp only [sg_set, Nat.reduceEqDiff, ↓reduceIte]
theorem forms17_pu (g : Pg P tab) (mo at_ : Int) : Pu P 12 [.int .i64 mo, .int .i64 at_] (fun v => v = .bool true) := by
  refine g.pu (vf := v12) rfl rfl ?_
  have e0 : v12.body = .seq (blk 0 v12.body) (.seq (blk 1 v12.body) (.seq (blk 2 v12.body) (.seq (blk 3 v12.body) (rst 4 v12.body)))) := rfl
  rw [e0]
  have rest := @forms17_rest P g
  generalize rst 4 v12.body = R at *
  simp only [v12, blk, RX, VOp.fresh, bxC, bsC, un, most, callsOf, seval, Int.reducePow, ↓reduceIte, Nat.reduceEqDiff, reduceCtorEq]
  refine (awake17_pu g).go rfl ?_
  rintro v rfl
  simp only [RX, VOp.fresh, bxC, bsC, un, most, callsOf, seval, Int.reducePow, ↓reduceIte, Nat.reduceEqDiff, reduceCtorEq]
  refine (askK g).new_cl g (fun hm qb h1 q1 _ _ => ?_) (fun hm => ?_)
  · have c1 := hm.1
    have c2 := hm.2
    simp only [c1, c2, RX, VOp.fresh, bxC, bsC, un, most, callsOf, seval, Int.reducePow, ↓reduceIte, Nat.reduceEqDiff, reduceCtorEq]
    refine rest (b := true) (e := 0) (at_ := at_) ?_ ?_ ?_ (.inl ⟨rfl, rfl⟩)
    · simp only [sg_set, Nat.reduceEqDiff, ↓reduceIte]
    · simp only [sg_set, Nat.reduceEqDiff, ↓reduceIte]
    · simp only [sg_set, Nat.reduceEqDiff, ↓reduceIte]
  · by_cases c1 : 1 ≤ mo
    · have c2 : ¬ mo ≤ 64 := fun c => hm ⟨c1, c⟩
      simp only [c1, c2, RX, VOp.fresh, bxC, bsC, un, most, callsOf, seval, Int.reducePow, ↓reduceIte, Nat.reduceEqDiff, reduceCtorEq]
      refine rest (b := false) (e := 1700) (at_ := at_) ?_ ?_ ?_ (.inr ⟨rfl, rfl⟩)
      · simp only [sg_set, Nat.reduceEqDiff, ↓reduceIte]
      · simp only [sg_set, Nat.reduceEqDiff, ↓reduceIte]
      · simp only [sg_set, Nat.reduceEqDiff, ↓reduceIte]
    · simp only [c1, RX, VOp.fresh, bxC, bsC, un, most, callsOf, seval, Int.reducePow, ↓reduceIte, Nat.reduceEqDiff, reduceCtorEq]
      refine rest (b := false) (e := 1700) (at_ := at_) ?_ ?_ ?_ (.inr ⟨rfl, rfl⟩)
      · simp only [sg_set, Nat.reduceEqDiff, ↓reduceIte]
      · simp only [sg_set, Nat.reduceEqDiff, ↓reduceIte]
      · simp only [sg_set, Nat.reduceEqDiff, ↓reduceIte]
end
end Go.Proofs.Ytinonmcnofjeeaa.VM
