/- Part of a proof: what stands for the program, and its walk. No condition. -/
import Derived.Below
import Derived.ChangeArms
import Derived.ChangeMaps5
import Derived.KernelRfl
import Derived.Laws.Cells
import Derived.Laws.IdiomCopy
import Derived.MapKept
import Derived.OrdersIn
import Derived.RangeFuncLeaves
import Derived.RangeFuncRecord
import Derived.SizedLaws
import Derived.WalkKit
import Derived.WalkLawsBesides
import GoSem.Claim
import Derived.Test.YtinonmcnofjeeaaQAd
set_option linter.unusedSimpArgs false
set_option linter.unusedVariables false
set_option linter.defProp false
set_option maxHeartbeats 1000000
namespace Go.Proofs.Ytinonmcnofjeeaa.VM
attribute [local irreducible] Af Nx EvO Ev Un Gd Cd EvR EvQ EvC Nc Gc Lp EvM NxM AfM GdM EvMR EvMQ EvMD EvMC Nm Gm
/-- a number's bytes, the highest first -/
def numB (x : Int) : Nat → List Nat
  | 0 => []
  | n + 1 => (x / (256 ^ n : Nat) % 256).toNat :: numB x n
theorem numB_len (x : Int) : ∀ n, (numB x n).length = n
  | 0 => rfl
  | n + 1 => by rw [numB, List.length_cons, numB_len x n]
theorem mb_nil : ([] : List AV).mapM AV.byte = some [] := rfl
theorem byte_mod (a : Int) : AV.byte (.int .u8 (a % 256)) = some (a % 256).toNat := by
  have h1 := Int.emod_nonneg a (show (256 : Int) ≠ 0 by decide)
  have h2 := Int.emod_lt_of_pos a (show (0 : Int) < 256 by decide)
  simp only [AV.byte]
  rw [if_pos ⟨h1, h2⟩]
theorem mb_cons (a : Int) (l : List AV) : (AV.int .u8 (a % 256) :: l).mapM AV.byte = (l.mapM AV.byte).map ((a % 256).toNat :: ·) := by
  rw [List.mapM_cons, byte_mod]
  cases l.mapM AV.byte <;> rfl
theorem cvT_sl {h : Heap} {b n : Nat} {cap : Nat} {l : List AV} {e : TypeId} {ver : Nat} (hg : h.get b = some (.cells l e ver)) (hl : l.length = n) : cvT h (.sl b 0 n cap 1) = valO h ((l.mapM AV.byte).map .str) := by
  subst hl
  simp only [cvT, lenV, cellsOf, hg, Nat.le_refl, if_true, cut_eq, List.drop_zero, Nat.mul_one, List.take_length]
section
variable {P : Program}
theorem num1_pu (g : Pg P tab) (x : Int) : Pu P 89 [.int .i64 x, .int .i64 1] (fun v => v = .str (numB x 1)) := by
  refine g.pu (vf := v89) rfl rfl ?_
  simp +contextual (maxSteps := 2000000) (disch := omega) only [v89, RW, RS, RX, VOp.fresh, bxC, bsC, un, most, callsOf, seval, Int.reducePow, ↓reduceIte, Nat.reduceEqDiff, reduceCtorEq]
  refine g.lpe b89_0.eq_1 ?_
  simp +contextual (maxSteps := 2000000) (disch := omega) only [RW, RS, RX, VOp.fresh, bxC, bsC, un, most, callsOf, seval, Int.reducePow, ↓reduceIte, Nat.reduceEqDiff, reduceCtorEq]
  refine g.lpe b89_0.eq_1 ?_
  simp +contextual (maxSteps := 2000000) (disch := omega) only [RW, RS, RX, VOp.fresh, bxC, bsC, un, most, callsOf, seval, Int.reducePow, ↓reduceIte, Nat.reduceEqDiff, reduceCtorEq]
  rw [cvT_sl (by rfl) (by rfl)]
  simp +contextual (maxSteps := 2000000) (disch := omega) only [RW, mb_nil, mb_cons, Option.map_some, numB, Nat.pow_zero, RX, VOp.fresh, bxC, bsC, un, most, callsOf, seval, Int.reducePow, ↓reduceIte, Nat.reduceEqDiff, reduceCtorEq]
theorem num2_pu (g : Pg P tab) (x : Int) : Pu P 89 [.int .i64 x, .int .i64 2] (fun v => v = .str (numB x 2)) := by
  refine g.pu (vf := v89) rfl rfl ?_
  simp +contextual (maxSteps := 2000000) (disch := omega) only [v89, RW, RS, RX, VOp.fresh, bxC, bsC, un, most, callsOf, seval, Int.reducePow, ↓reduceIte, Nat.reduceEqDiff, reduceCtorEq]
  refine g.lpe b89_0.eq_1 ?_
  simp +contextual (maxSteps := 2000000) (disch := omega) only [RW, RS, RX, VOp.fresh, bxC, bsC, un, most, callsOf, seval, Int.reducePow, ↓reduceIte, Nat.reduceEqDiff, reduceCtorEq]
  refine g.lpe b89_0.eq_1 ?_
  simp +contextual (maxSteps := 2000000) (disch := omega) only [RW, RS, RX, VOp.fresh, bxC, bsC, un, most, callsOf, seval, Int.reducePow, ↓reduceIte, Nat.reduceEqDiff, reduceCtorEq]
  refine g.lpe b89_0.eq_1 ?_
  simp +contextual (maxSteps := 2000000) (disch := omega) only [RW, RS, RX, VOp.fresh, bxC, bsC, un, most, callsOf, seval, Int.reducePow, ↓reduceIte, Nat.reduceEqDiff, reduceCtorEq]
  rw [cvT_sl (by rfl) (by rfl)]
  simp +contextual (maxSteps := 2000000) (disch := omega) only [RW, mb_nil, mb_cons, Option.map_some, numB, Nat.pow_zero, RX, VOp.fresh, bxC, bsC, un, most, callsOf, seval, Int.reducePow, ↓reduceIte, Nat.reduceEqDiff, reduceCtorEq]
theorem num4_pu (g : Pg P tab) (x : Int) : Pu P 89 [.int .i64 x, .int .i64 4] (fun v => v = .str (numB x 4)) := by
  refine g.pu (vf := v89) rfl rfl ?_
  simp +contextual (maxSteps := 2000000) (disch := omega) only [v89, RW, RS, RX, VOp.fresh, bxC, bsC, un, most, callsOf, seval, Int.reducePow, ↓reduceIte, Nat.reduceEqDiff, reduceCtorEq]
  refine g.lpe b89_0.eq_1 ?_
  simp +contextual (maxSteps := 2000000) (disch := omega) only [RW, RS, RX, VOp.fresh, bxC, bsC, un, most, callsOf, seval, Int.reducePow, ↓reduceIte, Nat.reduceEqDiff, reduceCtorEq]
  refine g.lpe b89_0.eq_1 ?_
  simp +contextual (maxSteps := 2000000) (disch := omega) only [RW, RS, RX, VOp.fresh, bxC, bsC, un, most, callsOf, seval, Int.reducePow, ↓reduceIte, Nat.reduceEqDiff, reduceCtorEq]
  refine g.lpe b89_0.eq_1 ?_
  simp +contextual (maxSteps := 2000000) (disch := omega) only [RW, RS, RX, VOp.fresh, bxC, bsC, un, most, callsOf, seval, Int.reducePow, ↓reduceIte, Nat.reduceEqDiff, reduceCtorEq]
  refine g.lpe b89_0.eq_1 ?_
  simp +contextual (maxSteps := 2000000) (disch := omega) only [RW, RS, RX, VOp.fresh, bxC, bsC, un, most, callsOf, seval, Int.reducePow, ↓reduceIte, Nat.reduceEqDiff, reduceCtorEq]
  refine g.lpe b89_0.eq_1 ?_
  simp +contextual (maxSteps := 2000000) (disch := omega) only [RW, RS, RX, VOp.fresh, bxC, bsC, un, most, callsOf, seval, Int.reducePow, ↓reduceIte, Nat.reduceEqDiff, reduceCtorEq]
  rw [cvT_sl (by rfl) (by rfl)]
  simp +contextual (maxSteps := 2000000) (disch := omega) only [RW, mb_nil, mb_cons, Option.map_some, numB, Nat.pow_zero, RX, VOp.fresh, bxC, bsC, un, most, callsOf, seval, Int.reducePow, ↓reduceIte, Nat.reduceEqDiff, reduceCtorEq]
theorem and255 (x : Int) : bitsOf .and .i64 x 255 = x % 256 := by
  have h := and_any x (n := 8) (by decide)
  have e : (((2 ^ 8 : Nat) : Int) - 1) = 255 := rfl
  rw [e] at h
  rw [h]
  omega
theorem be1_pu (g : Pg P tab) (x : Int) : Pu P 52 [.int .i64 x, .int .i64 1] (fun v => v = .str (numB x 1)) := by
  refine g.pu (vf := v52) rfl rfl ?_
  simp +contextual (maxSteps := 2000000) (disch := omega) only [v52, RW, RS, and255, RX, VOp.fresh, bxC, bsC, un, most, callsOf, seval, Int.reducePow, ↓reduceIte, Nat.reduceEqDiff, reduceCtorEq]
  refine g.lpe b52_0.eq_1 ?_
  simp +contextual (maxSteps := 2000000) (disch := omega) only [RW, RS, and255, Int.emod_emod_of_dvd, RX, VOp.fresh, bxC, bsC, un, most, callsOf, seval, Int.reducePow, ↓reduceIte, Nat.reduceEqDiff, reduceCtorEq]
  refine g.lpe b52_0.eq_1 ?_
  simp +contextual (maxSteps := 2000000) (disch := omega) only [RW, RS, and255, Int.emod_emod_of_dvd, RX, VOp.fresh, bxC, bsC, un, most, callsOf, seval, Int.reducePow, ↓reduceIte, Nat.reduceEqDiff, reduceCtorEq]
  rw [cvT_sl (by rfl) (by rfl)]
  simp +contextual (maxSteps := 2000000) (disch := omega) only [RW, mb_nil, mb_cons, Option.map_some, numB, Nat.pow_zero, RX, VOp.fresh, bxC, bsC, un, most, callsOf, seval, Int.reducePow, ↓reduceIte, Nat.reduceEqDiff, reduceCtorEq]
  simp only [Int.ediv_one, (show x / 256 / 256 = x / 65536 by omega), (show x / 65536 / 256 = x / 16777216 by omega)]
theorem be2_pu (g : Pg P tab) (x : Int) : Pu P 52 [.int .i64 x, .int .i64 2] (fun v => v = .str (numB x 2)) := by
  refine g.pu (vf := v52) rfl rfl ?_
  simp +contextual (maxSteps := 2000000) (disch := omega) only [v52, RW, RS, and255, RX, VOp.fresh, bxC, bsC, un, most, callsOf, seval, Int.reducePow, ↓reduceIte, Nat.reduceEqDiff, reduceCtorEq]
  refine g.lpe b52_0.eq_1 ?_
  simp +contextual (maxSteps := 2000000) (disch := omega) only [RW, RS, and255, Int.emod_emod_of_dvd, RX, VOp.fresh, bxC, bsC, un, most, callsOf, seval, Int.reducePow, ↓reduceIte, Nat.reduceEqDiff, reduceCtorEq]
  refine g.lpe b52_0.eq_1 ?_
  simp +contextual (maxSteps := 2000000) (disch := omega) only [RW, RS, and255, Int.emod_emod_of_dvd, RX, VOp.fresh, bxC, bsC, un, most, callsOf, seval, Int.reducePow, ↓reduceIte, Nat.reduceEqDiff, reduceCtorEq]
  refine g.lpe b52_0.eq_1 ?_
  simp +contextual (maxSteps := 2000000) (disch := omega) only [RW, RS, and255, Int.emod_emod_of_dvd, RX, VOp.fresh, bxC, bsC, un, most, callsOf, seval, Int.reducePow, ↓reduceIte, Nat.reduceEqDiff, reduceCtorEq]
  rw [cvT_sl (by rfl) (by rfl)]
  simp +contextual (maxSteps := 2000000) (disch := omega) only [RW, mb_nil, mb_cons, Option.map_some, numB, Nat.pow_zero, RX, VOp.fresh, bxC, bsC, un, most, callsOf, seval, Int.reducePow, ↓reduceIte, Nat.reduceEqDiff, reduceCtorEq]
  simp only [Int.ediv_one, (show x / 256 / 256 = x / 65536 by omega), (show x / 65536 / 256 = x / 16777216 by omega)]
theorem be4_pu (g : Pg P tab) (x : Int) : Pu P 52 [.int .i64 x, .int .i64 4] (fun v => v = .str (numB x 4)) := by
  refine g.pu (vf := v52) rfl rfl ?_
  simp +contextual (maxSteps := 2000000) (disch := omega) only [v52, RW, RS, and255, RX, VOp.fresh, bxC, bsC, un, most, callsOf, seval, Int.reducePow, ↓reduceIte, Nat.reduceEqDiff, reduceCtorEq]
  refine g.lpe b52_0.eq_1 ?_
  simp +contextual (maxSteps := 2000000) (disch := omega) only [RW, RS, and255, Int.emod_emod_of_dvd, RX, VOp.fresh, bxC, bsC, un, most, callsOf, seval, Int.reducePow, ↓reduceIte, Nat.reduceEqDiff, reduceCtorEq]
  refine g.lpe b52_0.eq_1 ?_
  simp +contextual (maxSteps := 2000000) (disch := omega) only [RW, RS, and255, Int.emod_emod_of_dvd, RX, VOp.fresh, bxC, bsC, un, most, callsOf, seval, Int.reducePow, ↓reduceIte, Nat.reduceEqDiff, reduceCtorEq]
  refine g.lpe b52_0.eq_1 ?_
  simp +contextual (maxSteps := 2000000) (disch := omega) only [RW, RS, and255, Int.emod_emod_of_dvd, RX, VOp.fresh, bxC, bsC, un, most, callsOf, seval, Int.reducePow, ↓reduceIte, Nat.reduceEqDiff, reduceCtorEq]
  refine g.lpe b52_0.eq_1 ?_
  simp +contextual (maxSteps := 2000000) (disch := omega) only [RW, RS, and255, Int.emod_emod_of_dvd, RX, VOp.fresh, bxC, bsC, un, most, callsOf, seval, Int.reducePow, ↓reduceIte, Nat.reduceEqDiff, reduceCtorEq]
  refine g.lpe b52_0.eq_1 ?_
  simp +contextual (maxSteps := 2000000) (disch := omega) only [RW, RS, and255, Int.emod_emod_of_dvd, RX, VOp.fresh, bxC, bsC, un, most, callsOf, seval, Int.reducePow, ↓reduceIte, Nat.reduceEqDiff, reduceCtorEq]
  rw [cvT_sl (by rfl) (by rfl)]
  simp +contextual (maxSteps := 2000000) (disch := omega) only [RW, mb_nil, mb_cons, Option.map_some, numB, Nat.pow_zero, RX, VOp.fresh, bxC, bsC, un, most, callsOf, seval, Int.reducePow, ↓reduceIte, Nat.reduceEqDiff, reduceCtorEq]
  simp only [Int.ediv_one, (show x / 256 / 256 = x / 65536 by omega), (show x / 65536 / 256 = x / 16777216 by omega)]
end
def byteV (n : Nat) : AV := .int .u8 n
theorem cells_str {h : Heap} {bs : List Nat} : cellsOf h 1 bs.length (.str bs) = some (bs.map byteV) := by
  simp only [cellsOf, List.take_length]; rfl
theorem one_bytes : ∀ l : List Nat, (l.map byteV).all AV.one = true
  | [] => rfl
  | _ :: l => by rw [List.map_cons, List.all_cons, one_bytes l]; rfl
theorem app_nils {h : Heap} {bs : List Nat} (h0 : 0 < bs.length) (h1 : bs.length ≤ 140737488355328) :
    appendV h 1 1 5 .nils (.str bs) = some (.sl h.next 0 bs.length bs.length 1, h.mk' h.next (.cells (bs.map byteV) 5 0)) := by
  simp only [appendV, lenV, cells_str, List.length_map, Nat.mul_one, one_bytes, and_self, if_true]
  rw [if_neg (by omega), if_pos h1]
theorem app_sl {h : Heap} {c ver : Nat} {e : TypeId} {s bs : List Nat} (hg : h.get c = some (.cells (s.map byteV) e ver)) (h0 : 0 < bs.length) (h1 : s.length + bs.length ≤ 140737488355328) :
    appendV h 1 1 5 (.sl c 0 s.length s.length 1) (.str bs) = some (.sl h.next 0 (s ++ bs).length (s ++ bs).length 1, (h.put c .dead).mk' h.next (.cells ((s ++ bs).map byteV) 5 0)) := by
  have hc : cellsOf h 1 s.length (.sl c 0 s.length s.length 1) = some (s.map byteV) := by
    have e : (s.map byteV).length = s.length := List.length_map _
    simp only [cellsOf, Nat.le_refl, if_true, hg, cut_eq, List.drop_zero, Nat.mul_one]
    rw [← e, List.take_length, if_pos rfl]
  have hb : Nat.beq 1 1 = true := rfl
  simp only [appendV, lenV, cells_str, List.length_map, Nat.mul_one, one_bytes, and_self, if_true, hb, cond_true, hc]
  rw [if_neg (by omega), if_pos h1, List.map_append, List.length_append]
/-- the writer at block b has written s; the blocks k stand -/
structure WR (k : List (Nat × Blk)) (h : Heap) (b : Nat) (s : List Nat) : Prop where
  lt : b < h.next
  out : ∃ v e ver, h.get b = some (.cells [v] e ver) ∧ ((v = .nils ∧ s = []) ∨ ∃ c e' ver', v = .sl c 0 s.length s.length 1 ∧ c < h.next ∧ c ≠ b ∧ (∀ p ∈ k, p.1 ≠ c) ∧ h.get c = some (.cells (s.map byteV) e' ver'))
  keep : ∀ p ∈ k, p.1 < h.next ∧ p.1 ≠ b ∧ h.get p.1 = some p.2
theorem WR.add {k : List (Nat × Blk)} {h : Heap} {b : Nat} {s : List Nat} (w : WR k h b s) (x : Blk) : WR ((h.next, x) :: k) (h.mk' h.next x) b s := by
  have hn : (h.mk' h.next x).next = h.next + 1 := by rw [mk_next]; omega
  refine ⟨by rw [hn]; have := w.lt; omega, ?_, ?_⟩
  · obtain ⟨v, e, ver, h1, h2⟩ := w.out
    have hb := w.lt
    refine ⟨v, e, ver, by rw [Heap.get_mk, if_neg (by omega)]; exact h1, ?_⟩
    rcases h2 with h2 | ⟨c, e', ver', rfl, h3, h4, h5, h6⟩
    · exact .inl h2
    · refine .inr ⟨c, e', ver', rfl, by rw [hn]; omega, h4, ?_, by rw [Heap.get_mk, if_neg (by omega)]; exact h6⟩
      intro p hp
      rcases List.mem_cons.1 hp with rfl | hp
      · simp only; omega
      · exact h5 p hp
  · intro p hp
    rcases List.mem_cons.1 hp with rfl | hp
    · refine ⟨by rw [hn]; simp only; omega, by have := w.lt; simp only; omega, by simp only [Heap.get_mk, if_true]⟩
    · obtain ⟨h1, h2, h3⟩ := w.keep p hp
      exact ⟨by rw [hn]; omega, h2, by rw [Heap.get_mk, if_neg (by omega)]; exact h3⟩
theorem WR.upd {k : List (Nat × Blk)} {h : Heap} {b d : Nat} {B : Blk} {s : List Nat} (w : WR ((d, B) :: k) h b s) (hd : ∀ p ∈ k, p.1 ≠ d) (x : Blk) : WR ((d, x) :: k) (h.put d x) b s := by
  have hb : d ≠ b := (w.keep (d, B) List.mem_cons_self).2.1
  have hl : d < h.next := (w.keep (d, B) List.mem_cons_self).1
  refine ⟨w.lt, ?_, ?_⟩
  · obtain ⟨v, e, ver, h1, h2⟩ := w.out
    refine ⟨v, e, ver, by rw [Heap.get_put, if_neg (fun e => hb e.symm)]; exact h1, ?_⟩
    rcases h2 with h2 | ⟨c, e', ver', rfl, h3, h4, h5, h6⟩
    · exact .inl h2
    · have hc : d ≠ c := h5 (d, B) List.mem_cons_self
      refine .inr ⟨c, e', ver', rfl, h3, h4, ?_, by rw [Heap.get_put, if_neg (fun e => hc e.symm)]; exact h6⟩
      intro p hp
      rcases List.mem_cons.1 hp with rfl | hp
      · exact hc
      · exact h5 p (List.mem_cons_of_mem _ hp)
  · intro p hp
    rcases List.mem_cons.1 hp with rfl | hp
    · exact ⟨hl, hb, by simp only [Heap.get_put, if_true]⟩
    · obtain ⟨h1, h2, h3⟩ := w.keep p (List.mem_cons_of_mem _ hp)
      exact ⟨h1, h2, by rw [Heap.get_put, if_neg (hd p hp)]; exact h3⟩
theorem WR.fresh {k : List (Nat × Blk)} {h : Heap} {b : Nat} {s : List Nat} (w : WR k h b s) : ∀ p ∈ k, p.1 ≠ h.next := fun p hp e => by have := (w.keep p hp).1; omega
theorem WR.less {p : Nat × Blk} {k : List (Nat × Blk)} {h : Heap} {b : Nat} {s : List Nat} (w : WR (p :: k) h b s) : WR k h b s := by
  refine ⟨w.lt, ?_, fun q hq => w.keep q (List.mem_cons_of_mem _ hq)⟩
  obtain ⟨v, e, ver, h1, h2⟩ := w.out
  refine ⟨v, e, ver, h1, ?_⟩
  rcases h2 with h2 | ⟨c, e', ver', rfl, h3, h4, h5, h6⟩
  · exact .inl h2
  · exact .inr ⟨c, e', ver', rfl, h3, h4, fun q hq => h5 q (List.mem_cons_of_mem _ hq), h6⟩
theorem WR.next {k : List (Nat × Blk)} {h h0 : Heap} {b : Nat} {s t : List Nat} (w : WR k h b s) (hn : h0.next = h.next) (hg : ∀ p ∈ k, h0.get p.1 = h.get p.1) {e e' : TypeId} {ver v' : Nat} :
    WR k ((h0.mk' h.next (.cells (t.map byteV) e' v')).put b (.cells [.sl h.next 0 t.length t.length 1] e ver)) b t := by
  have hb := w.lt
  have hnx : ((h0.mk' h.next (.cells (t.map byteV) e' v')).put b (.cells [.sl h.next 0 t.length t.length 1] e ver)).next = h.next + 1 := by
    rw [put_next, mk_next]; omega
  refine ⟨by rw [hnx]; omega, ⟨_, e, ver, by rw [Heap.get_put, if_pos rfl], .inr ⟨h.next, e', v', rfl, by rw [hnx]; omega, by omega, ?_, ?_⟩⟩, ?_⟩
  · intro p hp; have := (w.keep p hp).1; omega
  · rw [Heap.get_put, if_neg (by omega), Heap.get_mk, if_pos rfl]
  · intro p hp
    obtain ⟨h1, h2, h3⟩ := w.keep p hp
    exact ⟨by rw [hnx]; omega, h2, by rw [Heap.get_put, if_neg h2, Heap.get_mk, if_neg (by omega), hg p hp, h3]⟩
section
variable {P : Program}
theorem wnum (g : Pg P tab) {x : Int} {n : Nat} (hp : Pu P 89 [.int .i64 x, .int .i64 n] (fun v => v = .str (numB x n))) (hn : 0 < n) {k : List (Nat × Blk)} {h : Heap} {b : Nat} {s : List Nat} (w : WR k h b s)
    (hl : s.length + n ≤ 140737488355328) {Q : AV → Heap → Prop} (q : ∀ v h', WR k h' b (s ++ numB x n) → Q v h') : Cl P 46 [.ptr b 0, .int .i64 x, .int .i64 n] h Q := by
  refine g.cl (vf := v46) rfl rfl ?_
  obtain ⟨v, e, ver, hb, ho⟩ := w.out
  have hlt := w.lt
  simp +contextual (maxSteps := 2000000) only [v46, RW, RX, VOp.fresh, bxC, bsC, un, most, callsOf, seval, Int.reducePow, ↓reduceIte, Nat.reduceEqDiff, reduceCtorEq]
  refine EvD.lk (fun f args h => (.str (numB x n), h)) ?_
  have hc : ∀ h, OK P 89 [.int .i64 x, .int .i64 n] h (.str (numB x n)) h := fun h => hp.exact rfl
  have hne : ¬ b = h.next := by omega
  rcases ho with ⟨rfl, rfl⟩ | ⟨c, e', ver', rfl, h3, h4, h5, h6⟩
  · have ha : ∀ h, appendV h 1 1 5 .nils (.str (numB x n)) = _ := fun h => app_nils (bs := numB x n) (by rw [numB_len]; omega) (by rw [numB_len]; simp at hl; omega)
    simp +contextual (maxSteps := 2000000) only [RW, hc, hb, ha, hne, RX, VOp.fresh, bxC, bsC, un, most, callsOf, seval, Int.reducePow, ↓reduceIte, Nat.reduceEqDiff, reduceCtorEq]
    refine ⟨⟨⟨?_, trivial⟩, trivial⟩, q _ _ (w.next rfl fun _ _ => rfl)⟩
    · show Lk _ _ _ _
      simp +contextual (maxSteps := 2000000) only [Lk, wanted, hb, RX, VOp.fresh, bxC, bsC, un, most, callsOf, seval, Int.reducePow, ↓reduceIte, Nat.reduceEqDiff, reduceCtorEq]
  · have ha := app_sl (bs := numB x n) h6 (by rw [numB_len]; omega) (by rw [numB_len]; omega)
    have h4' : ¬ b = c := fun e => h4 e.symm
    simp +contextual (maxSteps := 2000000) only [RW, hc, hb, ha, hne, h4', RX, VOp.fresh, bxC, bsC, un, most, callsOf, seval, Int.reducePow, ↓reduceIte, Nat.reduceEqDiff, reduceCtorEq]
    refine ⟨⟨⟨?_, trivial⟩, trivial⟩, q _ _ (w.next (h0 := h.put c .dead) rfl fun p hp => by rw [Heap.get_put, if_neg (h5 p hp)])⟩
    · show Lk _ _ _ _
      simp +contextual (maxSteps := 2000000) only [Lk, wanted, hb, RX, VOp.fresh, bxC, bsC, un, most, callsOf, seval, Int.reducePow, ↓reduceIte, Nat.reduceEqDiff, reduceCtorEq]
end
end Go.Proofs.Ytinonmcnofjeeaa.VM
namespace Go.Proofs.Ytinonmcnofjeeaa.VM
attribute [local irreducible] Af Nx EvO Ev Un Gd Cd EvR EvQ EvC Nc Gc Lp EvM NxM AfM GdM EvMR EvMQ EvMD EvMC Nm Gm
def ptB (p : Pt) : List Nat := numB p.x 4 ++ numB p.y 4
def ringB (r : List Pt) : List Nat := numB r.length 1 ++ (r.map ptB).flatten
def featB (f : Feat) : List Nat := numB f.id 2 ++ (numB f.shape 1 ++ (numB f.rings.length 1 ++ (f.rings.map ringB).flatten))
def mpB (m : Mp) : List Nat := numB m.epoch 2 ++ (numB m.starts.length 1 ++ ((m.starts.map (numB · 4)).flatten ++ (m.owners.map (numB · 1)).flatten))
def opB (o : Op) : List Nat := numB o.kind 1 ++ (if o.kind = 0 then featB o.f else if o.kind = 1 then numB o.id 2 else mpB o.m)
def opsB (l : List Op) : List Nat := numB l.length 1 ++ (l.map opB).flatten
def txB (a b : Int) : List Nat := numB a 1 ++ numB b 2
def bitB (b : Bool) : List Nat := numB (if b then 1 else 0) 1
theorem flat_take {α : Type} (F : α → List Nat) (l : List α) (i : Nat) (hi : i < l.length) : ((l.take i).map F).flatten ++ F l[i] = ((l.take (i + 1)).map F).flatten := by
  rw [List.take_add_one, List.getElem?_eq_getElem hi, List.map_append, List.flatten_append]; simp
theorem getD_int {l : List Int} {i : Nat} (hi : i < l.length) : l.getD i 0 = l[i] := by simp [List.getD_eq_getElem?_getD, List.getElem?_eq_getElem hi]
theorem flatB_len {α : Type} {F : α → List Nat} {B : Nat} : ∀ {l : List α}, (∀ x ∈ l, (F x).length ≤ B) → (l.map F).flatten.length ≤ l.length * B
  | [], _ => by simp
  | a :: l, h => by
    have h1 := flatB_len (F := F) (B := B) (l := l) fun x hx => h x (List.mem_cons_of_mem _ hx)
    have h2 := h a (by simp)
    rw [List.map_cons, List.flatten_cons, List.length_append, List.length_cons, Nat.add_mul]; omega
theorem flat_lenT {α : Type} {F : α → List Nat} {B : Nat} {l : List α} (h : ∀ x ∈ l, (F x).length ≤ B) (i : Nat) : ((l.take i).map F).flatten.length ≤ l.length * B := by
  have h1 := flatB_len (F := F) (B := B) (l := l.take i) fun x hx => h x (List.mem_of_mem_take hx)
  have h2 : (l.take i).length ≤ l.length := by rw [List.length_take]; omega
  exact Nat.le_trans h1 (Nat.mul_le_mul_right _ h2)
/-- what the reference's number comes to -/
def cBe (args : List AV) (h : Heap) : AV × Heap := match args with
  | [.int _ x, .int _ n] => (.str (numB x n.toNat), h)
  | _ => (.undef, h)
theorem cBe_eq {h : Heap} {x n : Int} {k k' : IntKind} : cBe [.int k x, .int k' n] h = (.str (numB x n.toNat), h) := rfl
section
variable {P : Program}
theorem be1 (g : Pg P tab) {x : Int} (h : Heap) : OK P 52 [.int .i64 x, .int .i64 1] h (.str (numB x 1)) h := (be1_pu g x).exact rfl
theorem be2 (g : Pg P tab) {x : Int} (h : Heap) : OK P 52 [.int .i64 x, .int .i64 2] h (.str (numB x 2)) h := (be2_pu g x).exact rfl
theorem be4 (g : Pg P tab) {x : Int} (h : Heap) : OK P 52 [.int .i64 x, .int .i64 4] h (.str (numB x 4)) h := (be4_pu g x).exact rfl
theorem putTx_pu (g : Pg P tab) (a b : Int) : Pu P 54 [.agg [.int .i64 a, .int .i64 b]] (fun v => v = .str (txB a b)) := by
  refine g.pu (vf := v54) rfl rfl ?_
  simp +contextual (maxSteps := 2000000) only [v54, RX, VOp.fresh, bxC, bsC, un, most, callsOf, seval, Int.reducePow, ↓reduceIte, Nat.reduceEqDiff, reduceCtorEq]
  refine EvD.same (fun _ => cBe) (by rfl) ?_
  simp +contextual (maxSteps := 2000000) only [cBe_eq, be1 g, be2 g, numB_len, txB, (show Int.toNat 1 = 1 from rfl), (show Int.toNat 2 = 2 from rfl), RX, VOp.fresh, bxC, bsC, un, most, callsOf, seval, Int.reducePow, ↓reduceIte, Nat.reduceEqDiff, reduceCtorEq]
theorem bit_pu (g : Pg P tab) (b : Bool) : Pu P 56 [.bool b] (fun v => v = .str (bitB b)) := by
  refine g.pu (vf := v56) rfl rfl ?_
  cases b
  · simp +contextual (maxSteps := 2000000) only [v56, bitB, numB, RX, VOp.fresh, bxC, bsC, un, most, callsOf, seval, Int.reducePow, ↓reduceIte, Nat.reduceEqDiff, reduceCtorEq]
  · simp +contextual (maxSteps := 2000000) only [v56, bitB, numB, RX, VOp.fresh, bxC, bsC, un, most, callsOf, seval, Int.reducePow, ↓reduceIte, Nat.reduceEqDiff, reduceCtorEq]
theorem starts_loop (g : Pg P tab) {ep : Int} {l : List Int} {a u : AV} (ha : IsL 8 RInt a l) (hh : Heap) {e : TypeId} {ver : Nat} (hg : hh.get 0 = some (.cells [.int .i64 ep, a, u] e ver)) (acc : List Nat) (hacc : acc.length + l.length * 4 ≤ 140737488000000) (n : Nat) :
    ∀ (i : Nat) (s : T AV) (k : List Fr) (Q : Ex → T AV → Heap → Prop), i + n = l.length → sg s 1 = .ptr 0 0 → sg s 3 = .str (acc ++ ((l.take i).map (numB · 4)).flatten) → sg s 4 = .int .i64 i →
      (∀ s', sg s' 1 = .ptr 0 0 → sg s' 3 = .str (acc ++ (l.map (numB · 4)).flatten) → Un P k Q (.exit 0) s' hh) → Lp P b53_0 s hh (Un P k Q) := by
  have hb := ha.bound (by decide)
  induction n with
  | zero =>
    intro i s k Q hi h1 h3 h4 hK
    refine g.lpe b53_0.eq_1 ?_
    have c1 : ¬ ((i : Int) < (l.length : Int)) := by omega
    simp only [h1, h3, h4, hg, ha.len, c1, RX, VOp.fresh, bxC, bsC, un, most, callsOf, seval, Int.reducePow, ↓reduceIte, Nat.reduceEqDiff, reduceCtorEq]
    refine hK _ ?_ ?_
    · simp only [h1, sg_set, Nat.reduceEqDiff, ↓reduceIte]
    · have : l.take i = l := List.take_of_length_le (by omega)
      rw [this] at h3
      simp only [h3, sg_set, Nat.reduceEqDiff, ↓reduceIte]
  | succ n ih =>
    intro i s k Q hi h1 h3 h4 hK
    refine g.lpe b53_0.eq_1 ?_
    have c1 : (i : Int) < (l.length : Int) := by omega
    obtain ⟨r1, _, g1⟩ := getInt ha i (by omega)
    have w1 : IntKind.i64.wrap ((i : Int) + 1) = ((i + 1 : Nat) : Int) := by rw [w64 (by omega) (by omega)]; push_cast; rfl
    have hlt : (acc ++ ((l.take i).map (numB · 4)).flatten).length + (numB (l.getD i 0) 4).length < 140737488355328 := by
      have := flat_lenT (F := (numB · 4)) (B := 4) (l := l) (fun x _ => by simp only [numB_len]; omega) i
      rw [List.length_append, numB_len]; omega
    simp only [h1, h3, h4, hg, ha.len, c1, g1, RX, VOp.fresh, bxC, bsC, un, most, callsOf, seval, Int.reducePow, ↓reduceIte, Nat.reduceEqDiff, reduceCtorEq]
    refine (be4_pu g _).go rfl ?_
    rintro v rfl
    simp only [h1, h3, h4, hg, ha.len, c1, g1, w1, hlt, RX, VOp.fresh, bxC, bsC, un, most, callsOf, seval, Int.reducePow, ↓reduceIte, Nat.reduceEqDiff, reduceCtorEq]
    refine ih (i + 1) _ k Q (by omega) ?_ ?_ ?_ hK
    · simp only [h1, sg_set, Nat.reduceEqDiff, ↓reduceIte]
    · simp only [sg_set, Nat.reduceEqDiff, ↓reduceIte]
      rw [List.append_assoc, getD_int (by omega), flat_take (numB · 4) l i (by omega)]
    · simp only [sg_set, Nat.reduceEqDiff, ↓reduceIte]
theorem owners_loop (g : Pg P tab) {ep : Int} {l : List Int} {a u : AV} (ha : IsL 8 RInt a l) (hh : Heap) {e : TypeId} {ver : Nat} (hg : hh.get 0 = some (.cells [.int .i64 ep, u, a] e ver)) (acc : List Nat) (hacc : acc.length + l.length * 1 ≤ 140737488000000) (n : Nat) :
    ∀ (i : Nat) (s : T AV) (k : List Fr) (Q : Ex → T AV → Heap → Prop), i + n = l.length → sg s 1 = .ptr 0 0 → sg s 3 = .str (acc ++ ((l.take i).map (numB · 1)).flatten) → sg s 5 = .int .i64 i →
      (∀ s', sg s' 1 = .ptr 0 0 → sg s' 3 = .str (acc ++ (l.map (numB · 1)).flatten) → Un P k Q (.exit 2) s' hh) → Lp P b53_1 s hh (Un P k Q) := by
  have hb := ha.bound (by decide)
  induction n with
  | zero =>
    intro i s k Q hi h1 h3 h4 hK
    refine g.lpe b53_1.eq_1 ?_
    have c1 : ¬ ((i : Int) < (l.length : Int)) := by omega
    simp only [h1, h3, h4, hg, ha.len, c1, RX, VOp.fresh, bxC, bsC, un, most, callsOf, seval, Int.reducePow, ↓reduceIte, Nat.reduceEqDiff, reduceCtorEq]
    refine hK _ ?_ ?_
    · simp only [h1, sg_set, Nat.reduceEqDiff, ↓reduceIte]
    · have : l.take i = l := List.take_of_length_le (by omega)
      rw [this] at h3
      simp only [h3, sg_set, Nat.reduceEqDiff, ↓reduceIte]
  | succ n ih =>
    intro i s k Q hi h1 h3 h4 hK
    refine g.lpe b53_1.eq_1 ?_
    have c1 : (i : Int) < (l.length : Int) := by omega
    obtain ⟨r1, _, g1⟩ := getInt ha i (by omega)
    have w1 : IntKind.i64.wrap ((i : Int) + 1) = ((i + 1 : Nat) : Int) := by rw [w64 (by omega) (by omega)]; push_cast; rfl
    have hlt : (acc ++ ((l.take i).map (numB · 1)).flatten).length + (numB (l.getD i 0) 1).length < 140737488355328 := by
      have := flat_lenT (F := (numB · 1)) (B := 1) (l := l) (fun x _ => by simp only [numB_len]; omega) i
      rw [List.length_append, numB_len]; omega
    simp only [h1, h3, h4, hg, ha.len, c1, g1, RX, VOp.fresh, bxC, bsC, un, most, callsOf, seval, Int.reducePow, ↓reduceIte, Nat.reduceEqDiff, reduceCtorEq]
    refine (be1_pu g _).go rfl ?_
    rintro v rfl
    simp only [h1, h3, h4, hg, ha.len, c1, g1, w1, hlt, RX, VOp.fresh, bxC, bsC, un, most, callsOf, seval, Int.reducePow, ↓reduceIte, Nat.reduceEqDiff, reduceCtorEq]
    refine ih (i + 1) _ k Q (by omega) ?_ ?_ ?_ hK
    · simp only [h1, sg_set, Nat.reduceEqDiff, ↓reduceIte]
    · simp only [sg_set, Nat.reduceEqDiff, ↓reduceIte]
      rw [List.append_assoc, getD_int (by omega), flat_take (numB · 1) l i (by omega)]
    · simp only [sg_set, Nat.reduceEqDiff, ↓reduceIte]
theorem putMap_pu (g : Pg P tab) {m : Mp} {v u : AV} (hv : IsL 8 RInt v m.starts) (hu : IsL 8 RInt u m.owners) (hs : m.starts.length ≤ 1000) (ho : m.owners.length ≤ 1000) : Pu P 53 [.agg [.int .i64 m.epoch, v, u]] (fun v => v = .str (mpB m)) := by
  refine g.pu (vf := v53) rfl rfl ?_
  simp +contextual (maxSteps := 2000000) only [v53, RX, VOp.fresh, bxC, bsC, un, most, callsOf, seval, Int.reducePow, ↓reduceIte, Nat.reduceEqDiff, reduceCtorEq]
  refine EvD.same (fun _ => cBe) (by rfl) ?_
  simp +contextual (maxSteps := 2000000) only [cBe_eq, be1 g, be2 g, numB_len, hv.len, (show Int.toNat 1 = 1 from rfl), (show Int.toNat 2 = 2 from rfl), RX, VOp.fresh, bxC, bsC, un, most, callsOf, seval, Int.reducePow, ↓reduceIte, Nat.reduceEqDiff, reduceCtorEq]
  refine starts_loop g hv _ (ep := m.epoch) (u := u) (e := 26) (ver := 0) ?_ (numB m.epoch 2 ++ numB m.starts.length 1) ?_ m.starts.length 0 _ _ _ (by omega) ?_ ?_ ?_ ?_
  · rw [Heap.get_mk, if_pos rfl]
  · rw [List.length_append, numB_len, numB_len]; omega
  · simp only [sg_set, Nat.reduceEqDiff, ↓reduceIte]
  · simp only [sg_set, Nat.reduceEqDiff, ↓reduceIte]
    simp
  · simp only [sg_set, Nat.reduceEqDiff, ↓reduceIte]
    rfl
  · intro s' h1 h3
    simp +contextual (maxSteps := 2000000) only [h1, h3, RX, VOp.fresh, bxC, bsC, un, most, callsOf, seval, Int.reducePow, ↓reduceIte, Nat.reduceEqDiff, reduceCtorEq]
    refine owners_loop g hu _ (ep := m.epoch) (u := v) (e := 26) (ver := 0) ?_ (numB m.epoch 2 ++ numB m.starts.length 1 ++ (m.starts.map (numB · 4)).flatten) ?_ m.owners.length 0 _ _ _ (by omega) ?_ ?_ ?_ ?_
    · rw [Heap.get_mk, if_pos rfl]
    · have := flatB_len (F := (numB · 4)) (B := 4) (l := m.starts) (fun x _ => by simp only [numB_len]; omega)
      rw [List.length_append, List.length_append, numB_len, numB_len]; omega
    · simp only [h1, sg_set, Nat.reduceEqDiff, ↓reduceIte]
    · simp only [h3, sg_set, Nat.reduceEqDiff, ↓reduceIte]
      simp
    · simp only [sg_set, Nat.reduceEqDiff, ↓reduceIte]
      rfl
    · intro s' h1 h3
      simp +contextual (maxSteps := 2000000) only [h1, h3, RX, VOp.fresh, bxC, bsC, un, most, callsOf, seval, Int.reducePow, ↓reduceIte, Nat.reduceEqDiff, reduceCtorEq]
      simp [mpB]
end
theorem getD_pt {l : List Pt} {i : Nat} (hi : i < l.length) : l.getD i ⟨0, 0⟩ = l[i] := by simp [List.getD_eq_getElem?_getD, List.getElem?_eq_getElem hi]
theorem getD_ring {l : List (List Pt)} {i : Nat} (hi : i < l.length) : l.getD i [] = l[i] := by simp [List.getD_eq_getElem?_getD, List.getElem?_eq_getElem hi]
theorem getD_op {l : List Op} {i : Nat} (hi : i < l.length) : l.getD i op0 = l[i] := by simp [List.getD_eq_getElem?_getD, List.getElem?_eq_getElem hi]
theorem ptB_len (p : Pt) : (ptB p).length = 8 := by rw [ptB, List.length_append, numB_len, numB_len]
theorem ringB_len {r : List Pt} (h : r.length ≤ 1000) : (ringB r).length ≤ 8001 := by
  have := flatB_len (F := ptB) (B := 8) (l := r) fun x _ => by rw [ptB_len]; omega
  rw [ringB, List.length_append, numB_len]; omega
section
variable {P : Program}
theorem pts_loop (g : Pg P tab) {a b : Int} {v rv : AV} {j : Nat} {l : List Pt} (hv : IsL 16 RPt rv l) {r : List AV} (g0 : ∀ (hh : Heap) (kk : IntKind), iaV hh 1 none v (.int kk (j : Int)) = .val (.rp (rv :: r)) hh)
    (hh : Heap) {e : TypeId} {ver : Nat} (hg : hh.get 0 = some (.cells [.int .i64 a, .int .i64 b, v] e ver)) (acc : List Nat) (hacc : acc.length + l.length * 8 ≤ 140737488000000) (n : Nat) :
    ∀ (i : Nat) (s : T AV) (k : List Fr) (Q : Ex → T AV → Heap → Prop), i + n = l.length → sg s 1 = .ptr 0 0 → sg s 3 = .str (acc ++ ((l.take i).map ptB).flatten) → sg s 4 = .int .i64 j → sg s 5 = .int .i64 i →
      (∀ s', sg s' 1 = .ptr 0 0 → sg s' 3 = .str (acc ++ (l.map ptB).flatten) → sg s' 4 = .int .i64 j → Un P k Q (.exit 2) s' hh) → Lp P b76_0 s hh (Un P k Q) := by
  have hb := hv.bound (by decide)
  induction n with
  | zero =>
    intro i s k Q hi h1 h3 h4 h5 hK
    refine g.lpe b76_0.eq_1 ?_
    have c1 : ¬ ((i : Int) < (l.length : Int)) := by omega
    simp only [h1, h3, h4, h5, hg, hv.len, c1, g0, RX, VOp.fresh, bxC, bsC, un, most, callsOf, seval, Int.reducePow, ↓reduceIte, Nat.reduceEqDiff, reduceCtorEq]
    refine hK _ ?_ ?_ ?_
    · simp only [h1, sg_set, Nat.reduceEqDiff, ↓reduceIte]
    · have : l.take i = l := List.take_of_length_le (by omega)
      rw [this] at h3
      simp only [h3, sg_set, Nat.reduceEqDiff, ↓reduceIte]
    · simp only [h4, sg_set, Nat.reduceEqDiff, ↓reduceIte]
  | succ n ih =>
    intro i s k Q hi h1 h3 h4 h5 hK
    refine g.lpe b76_0.eq_1 ?_
    have c1 : (i : Int) < (l.length : Int) := by omega
    obtain ⟨r1, _, g1⟩ := getPt hv i (by omega)
    have w1 : IntKind.i64.wrap ((i : Int) + 1) = ((i + 1 : Nat) : Int) := by rw [w64 (by omega) (by omega)]; push_cast; rfl
    have hl0 : (acc ++ ((l.take i).map ptB).flatten).length + 8 < 140737488355328 := by
      have := flat_lenT (F := ptB) (B := 8) (l := l) (fun x _ => by rw [ptB_len]; omega) i
      rw [List.length_append]; omega
    have hlt : (acc ++ ((l.take i).map ptB).flatten).length + 4 < 140737488355328 := by omega
    have hlt2 : (acc ++ ((l.take i).map ptB).flatten).length + 4 + 4 < 140737488355328 := by omega
    generalize hA : acc ++ ((l.take i).map ptB).flatten = A at *
    simp only [h1, h3, h4, h5, hg, hv.len, c1, g0, g1, RX, VOp.fresh, bxC, bsC, un, most, callsOf, seval, Int.reducePow, ↓reduceIte, Nat.reduceEqDiff, reduceCtorEq]
    refine EvD.same (fun _ => cBe) (by rfl) ?_
    simp +contextual (maxSteps := 2000000) only [h1, h3, h4, h5, hg, hv.len, g0, g1, cBe_eq, be4 g, (show Int.toNat 4 = 4 from rfl), List.length_append, numB_len, hlt, hlt2, w1, RX, VOp.fresh, bxC, bsC, un, most, callsOf, seval, Int.reducePow, ↓reduceIte, Nat.reduceEqDiff, reduceCtorEq]
    refine ih (i + 1) _ k Q (by omega) ?_ ?_ ?_ ?_ hK
    · simp only [h1, sg_set, Nat.reduceEqDiff, ↓reduceIte]
    · simp only [sg_set, Nat.reduceEqDiff, ↓reduceIte]
      rw [← hA, List.append_assoc, List.append_assoc, ← List.append_assoc _ (numB _ 4), getD_pt (by omega), List.append_assoc, ← flat_take ptB l i (by omega), ptB]
    · simp only [h4, sg_set, Nat.reduceEqDiff, ↓reduceIte]
    · simp only [sg_set, Nat.reduceEqDiff, ↓reduceIte]
theorem rings_loop (g : Pg P tab) {a b : Int} {v : AV} {l : List (List Pt)} (hv : IsL 24 RRing v l) (hl : l.length ≤ 1000) (hl2 : ∀ r ∈ l, r.length ≤ 1000)
    (hh : Heap) {e : TypeId} {ver : Nat} (hg : hh.get 0 = some (.cells [.int .i64 a, .int .i64 b, v] e ver)) (acc : List Nat) (hacc : acc.length ≤ 1000) (n : Nat) :
    ∀ (i : Nat) (s : T AV) (k : List Fr) (Q : Ex → T AV → Heap → Prop), i + n = l.length → sg s 1 = .ptr 0 0 → sg s 3 = .str (acc ++ ((l.take i).map ringB).flatten) → sg s 4 = .int .i64 i →
      (∀ s', sg s' 1 = .ptr 0 0 → sg s' 3 = .str (acc ++ (l.map ringB).flatten) → Un P k Q (.exit 0) s' hh) → Lp P b76_1 s hh (Un P k Q) := by
  have hb := hv.bound (by decide)
  induction n with
  | zero =>
    intro i s k Q hi h1 h3 h4 hK
    refine g.lpe b76_1.eq_1 ?_
    have c1 : ¬ ((i : Int) < (l.length : Int)) := by omega
    simp only [h1, h3, h4, hg, hv.len, c1, RX, VOp.fresh, bxC, bsC, un, most, callsOf, seval, Int.reducePow, ↓reduceIte, Nat.reduceEqDiff, reduceCtorEq]
    refine hK _ ?_ ?_
    · simp only [h1, sg_set, Nat.reduceEqDiff, ↓reduceIte]
    · have : l.take i = l := List.take_of_length_le (by omega)
      rw [this] at h3
      simp only [h3, sg_set, Nat.reduceEqDiff, ↓reduceIte]
  | succ n ih =>
    intro i s k Q hi h1 h3 h4 hK
    refine g.lpe b76_1.eq_1 ?_
    have c1 : (i : Int) < (l.length : Int) := by omega
    obtain ⟨rv, r1, hrv, _, g1⟩ := getRing hv i (by omega)
    have hrl : (l.getD i []).length ≤ 1000 := by rw [getD_ring (by omega)]; exact hl2 _ (List.getElem_mem _)
    have w1 : IntKind.i64.wrap ((i : Int) + 1) = ((i + 1 : Nat) : Int) := by rw [w64 (by omega) (by omega)]; push_cast; rfl
    have hA0 : (acc ++ ((l.take i).map ringB).flatten).length ≤ 10000000 := by
      have := flat_lenT (F := ringB) (B := 8001) (l := l) (fun x hx => ringB_len (hl2 x hx)) i
      rw [List.length_append]; omega
    have hA1 : acc ++ ((l.take i).map ringB).flatten ++ ringB (l.getD i []) = acc ++ ((l.take (i + 1)).map ringB).flatten := by
      rw [getD_ring (by omega), List.append_assoc, flat_take ringB l i (by omega)]
    generalize acc ++ ((l.take i).map ringB).flatten = A at *
    have hlt : A.length + 1 < 140737488355328 := by omega
    simp only [h1, h3, h4, hg, hv.len, c1, g1, hrv.len, RX, VOp.fresh, bxC, bsC, un, most, callsOf, seval, Int.reducePow, ↓reduceIte, Nat.reduceEqDiff, reduceCtorEq]
    refine (be1_pu g _).go rfl ?_
    rintro v rfl
    simp only [h1, h3, h4, numB_len, hlt, RX, VOp.fresh, bxC, bsC, un, most, callsOf, seval, Int.reducePow, ↓reduceIte, Nat.reduceEqDiff, reduceCtorEq]
    refine pts_loop g hrv g1 hh hg (A ++ numB (l.getD i []).length 1) (by rw [List.length_append, numB_len]; omega) (l.getD i []).length 0 _ _ _ (by omega) ?_ ?_ ?_ ?_ ?_
    · simp only [h1, sg_set, Nat.reduceEqDiff, ↓reduceIte]
    · simp only [h3, sg_set, Nat.reduceEqDiff, ↓reduceIte]
      simp
    · simp only [h4, sg_set, Nat.reduceEqDiff, ↓reduceIte]
    · simp only [sg_set, Nat.reduceEqDiff, ↓reduceIte]
      rfl
    · intro s' h1 h3 h4
      simp only [h1, h3, h4, w1, RX, VOp.fresh, bxC, bsC, un, most, callsOf, seval, Int.reducePow, ↓reduceIte, Nat.reduceEqDiff, reduceCtorEq]
      refine ih (i + 1) _ k Q (by omega) ?_ ?_ ?_ hK
      · simp only [h1, sg_set, Nat.reduceEqDiff, ↓reduceIte]
      · simp only [h3, sg_set, Nat.reduceEqDiff, ↓reduceIte]
        rw [← hA1, ringB, List.append_assoc]
      · simp only [sg_set, Nat.reduceEqDiff, ↓reduceIte]
def featSmall (f : Feat) : Prop := f.rings.length ≤ 1000 ∧ ∀ r ∈ f.rings, r.length ≤ 1000
theorem featB_len {f : Feat} (h : featSmall f) : (featB f).length ≤ 9000000 := by
  have h1 := h.1
  have := flatB_len (F := ringB) (B := 8001) (l := f.rings) (fun x hx => ringB_len (h.2 x hx))
  rw [featB, List.length_append, List.length_append, List.length_append, numB_len, numB_len, numB_len]; omega
theorem mpB_len {m : Mp} (h : m.starts.length ≤ 1000) (h' : m.owners.length ≤ 1000) : (mpB m).length ≤ 6000 := by
  have h1 := flatB_len (F := (numB · 4)) (B := 4) (l := m.starts) (fun x _ => by simp only [numB_len]; omega)
  have h2 := flatB_len (F := (numB · 1)) (B := 1) (l := m.owners) (fun x _ => by simp only [numB_len]; omega)
  rw [mpB, List.length_append, List.length_append, List.length_append, numB_len, numB_len]; omega
theorem putFeat_pu (g : Pg P tab) {f : Feat} {v : AV} (hv : IsL 24 RRing v f.rings) (hs : featSmall f) : Pu P 76 [.agg [.int .i64 f.id, .int .i64 f.shape, v]] (fun v => v = .str (featB f)) := by
  refine g.pu (vf := v76) rfl rfl ?_
  simp +contextual (maxSteps := 2000000) only [v76, RX, VOp.fresh, bxC, bsC, un, most, callsOf, seval, Int.reducePow, ↓reduceIte, Nat.reduceEqDiff, reduceCtorEq]
  refine EvD.same (fun _ => cBe) (by rfl) ?_
  simp +contextual (maxSteps := 2000000) only [cBe_eq, be1 g, be2 g, List.length_append, numB_len, hv.len, (show Int.toNat 1 = 1 from rfl), (show Int.toNat 2 = 2 from rfl), RX, VOp.fresh, bxC, bsC, un, most, callsOf, seval, Int.reducePow, ↓reduceIte, Nat.reduceEqDiff, reduceCtorEq]
  refine rings_loop g hv hs.1 hs.2 _ (a := f.id) (b := f.shape) (e := 52) (ver := 0) ?_ (numB f.id 2 ++ numB f.shape 1 ++ numB f.rings.length 1) ?_ f.rings.length 0 _ _ _ (by omega) ?_ ?_ ?_ ?_
  · rw [Heap.get_mk, if_pos rfl]
  · rw [List.length_append, List.length_append, numB_len, numB_len, numB_len]; omega
  · simp only [sg_set, Nat.reduceEqDiff, ↓reduceIte]
  · simp only [sg_set, Nat.reduceEqDiff, ↓reduceIte]
    simp
  · simp only [sg_set, Nat.reduceEqDiff, ↓reduceIte]
    rfl
  · intro s' h1 h3
    simp +contextual (maxSteps := 2000000) only [h1, h3, RX, VOp.fresh, bxC, bsC, un, most, callsOf, seval, Int.reducePow, ↓reduceIte, Nat.reduceEqDiff, reduceCtorEq]
    simp [featB]
end
def opSmall (o : Op) : Prop := featSmall o.f ∧ o.m.starts.length ≤ 1000 ∧ o.m.owners.length ≤ 1000
theorem featOk_small {f : Feat} (h : featOk f) : featSmall f := by
  obtain ⟨_, _, h1, h2, h3⟩ := h
  refine ⟨by omega, fun r hr => ?_⟩
  obtain ⟨i, hi, rfl⟩ := List.mem_iff_getElem.1 hr
  rw [← getD_ring hi]
  rcases h3 with ⟨_, a, b, _⟩ | ⟨_, a, _, b, _⟩ | ⟨_, a⟩
  · have : i = 0 := by omega
    subst this; omega
  · have : i = 0 := by omega
    subst this; omega
  · have := (a i hi).2.1
    omega
theorem ftZero_small {f : Feat} (h : ftZero f) : featSmall f := by
  obtain ⟨_, _, h⟩ := h
  exact ⟨by rw [h]; simp, fun r hr => by rw [h] at hr; simp at hr⟩
theorem opOk_small {o : Op} (h : opOk 8 o) : opSmall o := by
  rcases h with ⟨_, h1, _, _, h2, h3⟩ | ⟨_, _, _, h1, _, h2, h3⟩ | ⟨_, h2, _, h1⟩
  · exact ⟨featOk_small h1, by rw [h2]; simp, by rw [h3]; simp⟩
  · exact ⟨ftZero_small h1, by rw [h2]; simp, by rw [h3]; simp⟩
  · obtain ⟨_, _, _, _, _, a, b, _⟩ := h2
    exact ⟨ftZero_small h1, by omega, by omega⟩
theorem opB_len {o : Op} (h : opSmall o) : (opB o).length ≤ 9000001 := by
  have h1 := featB_len h.1
  have h2 := mpB_len h.2.1 h.2.2
  rw [opB, List.length_append, numB_len]
  split
  · omega
  · split
    · rw [numB_len]; omega
    · omega
section
variable {P : Program}
theorem ops_loop (g : Pg P tab) {v : AV} {l : List Op} (hv : IsL 112 ROp v l) (hl : l.length ≤ 1000) (hs : ∀ o ∈ l, opSmall o) (hh : Heap) (acc : List Nat) (hacc : acc.length ≤ 1000) (n : Nat) :
    ∀ (i : Nat) (s : T AV) (k : List Fr) (Q : Ex → T AV → Heap → Prop), i + n = l.length → sg s 0 = v → sg s 3 = .str (acc ++ ((l.take i).map opB).flatten) → sg s 4 = .int .i64 i →
      (∀ s', sg s' 3 = .str (acc ++ (l.map opB).flatten) → Un P k Q (.exit 0) s' hh) → Lp P b55_0 s hh (Un P k Q) := by
  have hb := hv.bound (by decide)
  induction n with
  | zero =>
    intro i s k Q hi h0 h3 h4 hK
    refine g.lpe b55_0.eq_1 ?_
    have c1 : ¬ ((i : Int) < (l.length : Int)) := by omega
    simp only [h0, h3, h4, hv.len, c1, RX, VOp.fresh, bxC, bsC, un, most, callsOf, seval, Int.reducePow, ↓reduceIte, Nat.reduceEqDiff, reduceCtorEq]
    refine hK _ ?_
    have : l.take i = l := List.take_of_length_le (by omega)
    rw [this] at h3
    simp only [h3, sg_set, Nat.reduceEqDiff, ↓reduceIte]
  | succ n ih =>
    intro i s k Q hi h0 h3 h4 hK
    refine g.lpe b55_0.eq_1 ?_
    have c1 : (i : Int) < (l.length : Int) := by omega
    obtain ⟨c, r, hc, tc, tr, g1⟩ := getOp hv i (by omega)
    have hos : opSmall (l.getD i op0) := by rw [getD_op (by omega)]; exact hs _ (List.getElem_mem _)
    have w1 : IntKind.i64.wrap ((i : Int) + 1) = ((i + 1 : Nat) : Int) := by rw [w64 (by omega) (by omega)]; push_cast; rfl
    have hA0 : (acc ++ ((l.take i).map opB).flatten).length ≤ 10000000000 := by
      have := flat_lenT (F := opB) (B := 9000001) (l := l) (fun x hx => opB_len (hs x hx)) i
      rw [List.length_append]; omega
    have hA1 : acc ++ ((l.take i).map opB).flatten ++ opB (l.getD i op0) = acc ++ ((l.take (i + 1)).map opB).flatten := by
      rw [getD_op (by omega), List.append_assoc, flat_take opB l i (by omega)]
    generalize acc ++ ((l.take i).map opB).flatten = A at *
    generalize l.getD i op0 = o at *
    have hlt : A.length + 1 < 140737488355328 := by omega
    have hlt2 : A.length + 1 + 2 < 140737488355328 := by omega
    have hlf : A.length + 1 + (featB o.f).length < 140737488355328 := by have := featB_len hos.1; omega
    have hlm : A.length + 1 + (mpB o.m).length < 140737488355328 := by have := mpB_len hos.2.1 hos.2.2; omega
    obtain ⟨fv, sv, uv, rfl, _, _, _, hfv, _, _, hsv, huv⟩ := hc
    simp only [h0, h3, h4, hv.len, c1, g1, List.cons_append, List.nil_append, RX, VOp.fresh, bxC, bsC, un, most, callsOf, seval, Int.reducePow, ↓reduceIte, Nat.reduceEqDiff, reduceCtorEq]
    refine (be1_pu g _).go rfl ?_
    rintro v rfl
    have next : ∀ s', sg s' 0 = v → sg s' 3 = .str (A ++ opB o) → sg s' 4 = .int .i64 ((i + 1 : Nat) : Int) → Lp P b55_0 s' hh (Un P k Q) := by
      intro s' a1 a2 a3
      exact ih (i + 1) s' k Q (by omega) a1 (by rw [a2, hA1]) a3 hK
    by_cases e0 : o.kind = 0
    · simp only [h0, h3, h4, numB_len, hlt, g1, List.cons_append, List.nil_append, e0, RX, VOp.fresh, bxC, bsC, un, most, callsOf, seval, Int.reducePow, ↓reduceIte, Nat.reduceEqDiff, reduceCtorEq]
      refine (putFeat_pu g hfv hos.1).go (by simp [AV.tolds, AV.told, hfv.told tRing]) ?_
      rintro v rfl
      simp only [h0, h3, h4, List.length_append, numB_len, hlf, w1, RX, VOp.fresh, bxC, bsC, un, most, callsOf, seval, Int.reducePow, ↓reduceIte, Nat.reduceEqDiff, reduceCtorEq]
      refine next _ ?_ ?_ ?_
      · simp only [h0, sg_set, Nat.reduceEqDiff, ↓reduceIte]
      · simp only [sg_set, Nat.reduceEqDiff, ↓reduceIte]
        rw [opB, e0, if_pos rfl, List.append_assoc]
      · simp only [sg_set, Nat.reduceEqDiff, ↓reduceIte]
    · by_cases e1 : o.kind = 1
      · simp only [h0, h3, h4, numB_len, hlt, g1, List.cons_append, List.nil_append, e1, RX, VOp.fresh, bxC, bsC, un, most, callsOf, seval, Int.reducePow, ↓reduceIte, Nat.reduceEqDiff, reduceCtorEq]
        refine (be2_pu g _).go rfl ?_
        rintro v rfl
        simp only [h0, h3, h4, List.length_append, numB_len, hlt2, w1, RX, VOp.fresh, bxC, bsC, un, most, callsOf, seval, Int.reducePow, ↓reduceIte, Nat.reduceEqDiff, reduceCtorEq]
        refine next _ ?_ ?_ ?_
        · simp only [h0, sg_set, Nat.reduceEqDiff, ↓reduceIte]
        · simp only [sg_set, Nat.reduceEqDiff, ↓reduceIte]
          rw [opB, e1, if_neg (by decide), if_pos rfl, List.append_assoc]
        · simp only [sg_set, Nat.reduceEqDiff, ↓reduceIte]
      · simp only [h0, h3, h4, numB_len, hlt, g1, List.cons_append, List.nil_append, e0, e1, RX, VOp.fresh, bxC, bsC, un, most, callsOf, seval, Int.reducePow, ↓reduceIte, Nat.reduceEqDiff, reduceCtorEq]
        refine (putMap_pu g hsv huv hos.2.1 hos.2.2).go (by simp [AV.tolds, AV.told, hsv.told tInt, huv.told tInt]) ?_
        rintro v rfl
        simp only [h0, h3, h4, List.length_append, numB_len, hlm, w1, RX, VOp.fresh, bxC, bsC, un, most, callsOf, seval, Int.reducePow, ↓reduceIte, Nat.reduceEqDiff, reduceCtorEq]
        refine next _ ?_ ?_ ?_
        · simp only [h0, sg_set, Nat.reduceEqDiff, ↓reduceIte]
        · simp only [sg_set, Nat.reduceEqDiff, ↓reduceIte]
          rw [opB, if_neg e0, if_neg e1, List.append_assoc]
        · simp only [sg_set, Nat.reduceEqDiff, ↓reduceIte]
theorem putOps_pu (g : Pg P tab) {v : AV} {l : List Op} (hv : IsL 112 ROp v l) (hl : l.length ≤ 1000) (hs : ∀ o ∈ l, opSmall o) : Pu P 55 [v] (fun x => x = .str (opsB l)) := by
  refine g.pu (vf := v55) rfl rfl ?_
  simp only [v55, hv.len, RX, VOp.fresh, bxC, bsC, un, most, callsOf, seval, Int.reducePow, ↓reduceIte, Nat.reduceEqDiff, reduceCtorEq]
  refine (be1_pu g _).go rfl ?_
  rintro x rfl
  simp only [RX, VOp.fresh, bxC, bsC, un, most, callsOf, seval, Int.reducePow, ↓reduceIte, Nat.reduceEqDiff, reduceCtorEq]
  refine ops_loop g hv hl hs _ (numB l.length 1) (by rw [numB_len]; omega) l.length 0 _ _ _ (by omega) ?_ ?_ ?_ ?_
  · simp only [sg_set, Nat.reduceEqDiff, ↓reduceIte]
  · simp only [sg_set, Nat.reduceEqDiff, ↓reduceIte]
    simp
  · simp only [sg_set, Nat.reduceEqDiff, ↓reduceIte]
    rfl
  · intro s' h3
    simp only [h3, RX, VOp.fresh, bxC, bsC, un, most, callsOf, seval, Int.reducePow, ↓reduceIte, Nat.reduceEqDiff, reduceCtorEq]
    rfl
end
end Go.Proofs.Ytinonmcnofjeeaa.VM
namespace Go.Proofs.Ytinonmcnofjeeaa.VM
attribute [local irreducible] Af Nx EvO Ev Un Gd Cd EvR EvQ EvC Nc Gc Lp EvM NxM AfM GdM EvMR EvMQ EvMD EvMC Nm Gm
section
variable {P : Program}
theorem wname (g : Pg P tab) {x y : Int} {k : List (Nat × Blk)} {h : Heap} {b : Nat} {s : List Nat} (w : WR k h b s)
    (hl : s.length + 3 ≤ 140737488355328) {Q : AV → Heap → Prop} (q : ∀ v h', WR k h' b (s ++ txB x y) → Q v h') : Cl P 48 [.ptr b 0, .agg [.int .i64 x, .int .i64 y]] h Q := by
  refine g.cl (vf := v48) rfl rfl ?_
  simp only [v48, RX, VOp.fresh, bxC, bsC, un, most, callsOf, seval, Int.reducePow, ↓reduceIte, Nat.reduceEqDiff, reduceCtorEq]
  refine wnum (n := 1) g (num1_pu g x) (by decide) (w.add _) (by omega) fun v h1 w1 => ?_
  have hk := (w1.keep _ List.mem_cons_self).2.2
  simp only at hk
  simp only [hk, RX, VOp.fresh, bxC, bsC, un, most, callsOf, seval, Int.reducePow, ↓reduceIte, Nat.reduceEqDiff, reduceCtorEq]
  refine wnum (n := 2) g (num2_pu g y) (by decide) w1 (by rw [List.length_append, numB_len]; omega) fun v h2 w2 => ?_
  simp only [RX, VOp.fresh, bxC, bsC, un, most, callsOf, seval, Int.reducePow, ↓reduceIte, Nat.reduceEqDiff, reduceCtorEq]
  exact q _ _ (by rw [txB, ← List.append_assoc]; exact w2.less)
theorem wbool (g : Pg P tab) {t : Bool} {k : List (Nat × Blk)} {h : Heap} {b : Nat} {s : List Nat} (w : WR k h b s)
    (hl : s.length + 1 ≤ 140737488355328) {Q : AV → Heap → Prop} (q : ∀ v h', WR k h' b (s ++ bitB t) → Q v h') : Cl P 50 [.ptr b 0, .bool t] h Q := by
  refine g.cl (vf := v50) rfl rfl ?_
  cases t
  · simp only [v50, RX, VOp.fresh, bxC, bsC, un, most, callsOf, seval, Int.reducePow, ↓reduceIte, Nat.reduceEqDiff, reduceCtorEq]
    refine wnum (n := 1) g (num1_pu g 0) (by decide) w (by omega) fun v h1 w1 => ?_
    simp only [RX, VOp.fresh, bxC, bsC, un, most, callsOf, seval, Int.reducePow, ↓reduceIte, Nat.reduceEqDiff, reduceCtorEq]
    exact q _ _ w1
  · simp only [v50, RX, VOp.fresh, bxC, bsC, un, most, callsOf, seval, Int.reducePow, ↓reduceIte, Nat.reduceEqDiff, reduceCtorEq]
    refine wnum (n := 1) g (num1_pu g 1) (by decide) w (by omega) fun v h1 w1 => ?_
    simp only [RX, VOp.fresh, bxC, bsC, un, most, callsOf, seval, Int.reducePow, ↓reduceIte, Nat.reduceEqDiff, reduceCtorEq]
    exact q _ _ w1
theorem wstarts (g : Pg P tab) {l : List Int} {a : AV} (ha : IsL 8 RInt a l) {K : List (Nat × Blk)} {b : Nat} {p : AV} (acc : List Nat) (hacc : acc.length + l.length * 4 ≤ 140737488000000) (n : Nat) :
    ∀ (i : Nat) (s : T AV) (h : Heap) (k : List Fr) (Q : Ex → T AV → Heap → Prop), i + n = l.length → WR K h b (acc ++ ((l.take i).map (numB · 4)).flatten) → sg s 0 = .ptr b 0 → sg s 1 = p → sg s 24 = a → sg s 25 = .int .i64 l.length → sg s 26 = .int .i64 i →
      (∀ s' h', WR K h' b (acc ++ (l.map (numB · 4)).flatten) → sg s' 0 = .ptr b 0 → sg s' 1 = p → Un P k Q (.exit 0) s' h') → Lp P b47_0 s h (Un P k Q) := by
  have hb := ha.bound (by decide)
  induction n with
  | zero =>
    intro i s h k Q hi w h0 h1 h24 h25 h26 hK
    refine g.lpe b47_0.eq_1 ?_
    have c1 : ¬ ((i : Int) < (l.length : Int)) := by omega
    simp only [h0, h1, h24, h25, h26, c1, RX, VOp.fresh, bxC, bsC, un, most, callsOf, seval, Int.reducePow, ↓reduceIte, Nat.reduceEqDiff, reduceCtorEq]
    have : l.take i = l := List.take_of_length_le (by omega)
    rw [this] at w
    refine hK _ _ w ?_ ?_
    · simp only [h0, sg_set, Nat.reduceEqDiff, ↓reduceIte]
    · simp only [h1, sg_set, Nat.reduceEqDiff, ↓reduceIte]
  | succ n ih =>
    intro i s h k Q hi w h0 h1 h24 h25 h26 hK
    refine g.lpe b47_0.eq_1 ?_
    have c1 : (i : Int) < (l.length : Int) := by omega
    obtain ⟨r1, _, g1⟩ := getInt ha i (by omega)
    have w1 : IntKind.i64.wrap ((i : Int) + 1) = ((i + 1 : Nat) : Int) := by rw [w64 (by omega) (by omega)]; push_cast; rfl
    have hlt : (acc ++ ((l.take i).map (numB · 4)).flatten).length + 4 ≤ 140737488355328 := by
      have := flat_lenT (F := (numB · 4)) (B := 4) (l := l) (fun x _ => by simp only [numB_len]; omega) i
      rw [List.length_append]; omega
    simp only [h0, h1, h24, h25, h26, c1, g1, RX, VOp.fresh, bxC, bsC, un, most, callsOf, seval, Int.reducePow, ↓reduceIte, Nat.reduceEqDiff, reduceCtorEq]
    refine wnum (n := 4) g (num4_pu g _) (by decide) w hlt fun v h' w' => ?_
    simp only [h0, h1, h24, h25, h26, w1, RX, VOp.fresh, bxC, bsC, un, most, callsOf, seval, Int.reducePow, ↓reduceIte, Nat.reduceEqDiff, reduceCtorEq]
    rw [List.append_assoc, getD_int (by omega), flat_take (numB · 4) l i (by omega)] at w'
    refine ih (i + 1) _ h' k Q (by omega) w' ?_ ?_ ?_ ?_ ?_ hK
    · simp only [h0, sg_set, Nat.reduceEqDiff, ↓reduceIte]
    · simp only [h1, sg_set, Nat.reduceEqDiff, ↓reduceIte]
    · simp only [h24, sg_set, Nat.reduceEqDiff, ↓reduceIte]
    · simp only [h25, sg_set, Nat.reduceEqDiff, ↓reduceIte]
    · simp only [sg_set, Nat.reduceEqDiff, ↓reduceIte]
theorem wowners (g : Pg P tab) {l : List Int} {a : AV} (ha : IsL 8 RInt a l) {K : List (Nat × Blk)} {b : Nat} (acc : List Nat) (hacc : acc.length + l.length * 1 ≤ 140737488000000) (n : Nat) :
    ∀ (i : Nat) (s : T AV) (h : Heap) (k : List Fr) (Q : Ex → T AV → Heap → Prop), i + n = l.length → WR K h b (acc ++ ((l.take i).map (numB · 1)).flatten) → sg s 0 = .ptr b 0 → sg s 37 = a → sg s 38 = .int .i64 l.length → sg s 39 = .int .i64 i →
      (∀ s' h', WR K h' b (acc ++ (l.map (numB · 1)).flatten) → sg s' 0 = .ptr b 0 → Un P k Q (.exit 2) s' h') → Lp P b47_1 s h (Un P k Q) := by
  have hb := ha.bound (by decide)
  induction n with
  | zero =>
    intro i s h k Q hi w h0 h24 h25 h26 hK
    refine g.lpe b47_1.eq_1 ?_
    have c1 : ¬ ((i : Int) < (l.length : Int)) := by omega
    simp only [h0, h24, h25, h26, c1, RX, VOp.fresh, bxC, bsC, un, most, callsOf, seval, Int.reducePow, ↓reduceIte, Nat.reduceEqDiff, reduceCtorEq]
    have : l.take i = l := List.take_of_length_le (by omega)
    rw [this] at w
    refine hK _ _ w ?_
    · simp only [h0, sg_set, Nat.reduceEqDiff, ↓reduceIte]
  | succ n ih =>
    intro i s h k Q hi w h0 h24 h25 h26 hK
    refine g.lpe b47_1.eq_1 ?_
    have c1 : (i : Int) < (l.length : Int) := by omega
    obtain ⟨r1, _, g1⟩ := getInt ha i (by omega)
    have w1 : IntKind.i64.wrap ((i : Int) + 1) = ((i + 1 : Nat) : Int) := by rw [w64 (by omega) (by omega)]; push_cast; rfl
    have hlt : (acc ++ ((l.take i).map (numB · 1)).flatten).length + 1 ≤ 140737488355328 := by
      have := flat_lenT (F := (numB · 1)) (B := 1) (l := l) (fun x _ => by simp only [numB_len]; omega) i
      rw [List.length_append]; omega
    simp only [h0, h24, h25, h26, c1, g1, RX, VOp.fresh, bxC, bsC, un, most, callsOf, seval, Int.reducePow, ↓reduceIte, Nat.reduceEqDiff, reduceCtorEq]
    refine wnum (n := 1) g (num1_pu g _) (by decide) w hlt fun v h' w' => ?_
    simp only [h0, h24, h25, h26, w1, RX, VOp.fresh, bxC, bsC, un, most, callsOf, seval, Int.reducePow, ↓reduceIte, Nat.reduceEqDiff, reduceCtorEq]
    rw [List.append_assoc, getD_int (by omega), flat_take (numB · 1) l i (by omega)] at w'
    refine ih (i + 1) _ h' k Q (by omega) w' ?_ ?_ ?_ ?_ hK
    · simp only [h0, sg_set, Nat.reduceEqDiff, ↓reduceIte]
    · simp only [h24, sg_set, Nat.reduceEqDiff, ↓reduceIte]
    · simp only [h25, sg_set, Nat.reduceEqDiff, ↓reduceIte]
    · simp only [sg_set, Nat.reduceEqDiff, ↓reduceIte]
def mapArg (K : List (Nat × Blk)) (m : Mp) (a u p : AV) : Prop := (∃ r, p = .rp (.int .i64 m.epoch :: a :: u :: r)) ∨ ∃ c0 c1 c2 c3 c4 r e ver, p = .ptr 0 5 ∧ ((0, .cells (c0 :: c1 :: c2 :: c3 :: c4 :: .int .i64 m.epoch :: a :: u :: r) e ver) : Nat × Blk) ∈ K
theorem wmap (g : Pg P tab) {m : Mp} {a u p : AV} (ha : IsL 8 RInt a m.starts) (hu : IsL 8 RInt u m.owners) (hs : m.starts.length ≤ 1000) (ho : m.owners.length ≤ 1000) {K : List (Nat × Blk)} (hp : mapArg K m a u p) {h : Heap} {b : Nat} {s : List Nat} (w : WR K h b s)
    (hl : s.length ≤ 100000000000) {Q : AV → Heap → Prop} (q : ∀ v h', WR K h' b (s ++ mpB m) → Q v h') : Cl P 47 [.ptr b 0, p] h Q := by
  refine g.cl (vf := v47) rfl rfl ?_
  rcases hp with ⟨r, rfl⟩ | ⟨c0, c1, c2, c3, c4, r, e, ver, rfl, hm⟩
  · skip
    simp only [v47, RX, VOp.fresh, bxC, bsC, un, most, callsOf, seval, Int.reducePow, ↓reduceIte, Nat.reduceEqDiff, reduceCtorEq]
    refine wnum (n := 2) g (num2_pu g _) (by decide) w (by omega) fun v h1 w1 => ?_
    simp only [ha.len, RX, VOp.fresh, bxC, bsC, un, most, callsOf, seval, Int.reducePow, ↓reduceIte, Nat.reduceEqDiff, reduceCtorEq]
    refine wnum (n := 1) g (num1_pu g _) (by decide) w1 (by rw [List.length_append, numB_len]; omega) fun v h2 w2 => ?_
    simp only [ha.len, RX, VOp.fresh, bxC, bsC, un, most, callsOf, seval, Int.reducePow, ↓reduceIte, Nat.reduceEqDiff, reduceCtorEq]
    refine wstarts g ha (p := .rp (.int .i64 m.epoch :: a :: u :: r)) (s ++ numB m.epoch 2 ++ numB m.starts.length 1) (by rw [List.length_append, List.length_append, numB_len, numB_len]; omega) m.starts.length 0 _ _ _ _ (by omega) (by simpa using w2) ?_ ?_ ?_ ?_ ?_ ?_
    · simp only [sg_set, Nat.reduceEqDiff, ↓reduceIte]
    · simp only [sg_set, Nat.reduceEqDiff, ↓reduceIte]
    · simp only [sg_set, Nat.reduceEqDiff, ↓reduceIte]
    · simp only [sg_set, Nat.reduceEqDiff, ↓reduceIte]
    · simp only [sg_set, Nat.reduceEqDiff, ↓reduceIte]
      rfl
    · intro s' h3 w3 a0 a1
      simp only [a0, a1, hu.len, RX, VOp.fresh, bxC, bsC, un, most, callsOf, seval, Int.reducePow, ↓reduceIte, Nat.reduceEqDiff, reduceCtorEq]
      refine wowners g hu (s ++ numB m.epoch 2 ++ numB m.starts.length 1 ++ (m.starts.map (numB · 4)).flatten) ?_ m.owners.length 0 _ _ _ _ (by omega) (by simpa using w3) ?_ ?_ ?_ ?_ ?_
      · have := flatB_len (F := (numB · 4)) (B := 4) (l := m.starts) (fun x _ => by simp only [numB_len]; omega)
        rw [List.length_append, List.length_append, List.length_append, numB_len, numB_len]; omega
      · simp only [a0, sg_set, Nat.reduceEqDiff, ↓reduceIte]
      · simp only [sg_set, Nat.reduceEqDiff, ↓reduceIte]
      · simp only [sg_set, Nat.reduceEqDiff, ↓reduceIte]
      · simp only [sg_set, Nat.reduceEqDiff, ↓reduceIte]
        rfl
      · intro s' h4 w4 a0
        simp only [RX, VOp.fresh, bxC, bsC, un, most, callsOf, seval, Int.reducePow, ↓reduceIte, Nat.reduceEqDiff, reduceCtorEq]
        refine q _ _ ?_
        simpa only [mpB, List.append_assoc] using w4
  · skip
    have k0 := (w.keep _ hm).2.2
    simp only at k0
    simp only [v47, k0, RX, VOp.fresh, bxC, bsC, un, most, callsOf, seval, Int.reducePow, ↓reduceIte, Nat.reduceEqDiff, reduceCtorEq]
    refine wnum (n := 2) g (num2_pu g _) (by decide) w (by omega) fun v h1 w1 => ?_
    have k1 := (w1.keep _ hm).2.2
    simp only at k1
    simp only [k1, ha.len, RX, VOp.fresh, bxC, bsC, un, most, callsOf, seval, Int.reducePow, ↓reduceIte, Nat.reduceEqDiff, reduceCtorEq]
    refine wnum (n := 1) g (num1_pu g _) (by decide) w1 (by rw [List.length_append, numB_len]; omega) fun v h2 w2 => ?_
    have k2 := (w2.keep _ hm).2.2
    simp only at k2
    simp only [k2, ha.len, RX, VOp.fresh, bxC, bsC, un, most, callsOf, seval, Int.reducePow, ↓reduceIte, Nat.reduceEqDiff, reduceCtorEq]
    refine wstarts g ha (p := .ptr 0 5) (s ++ numB m.epoch 2 ++ numB m.starts.length 1) (by rw [List.length_append, List.length_append, numB_len, numB_len]; omega) m.starts.length 0 _ _ _ _ (by omega) (by simpa using w2) ?_ ?_ ?_ ?_ ?_ ?_
    · simp only [sg_set, Nat.reduceEqDiff, ↓reduceIte]
    · simp only [sg_set, Nat.reduceEqDiff, ↓reduceIte]
    · simp only [sg_set, Nat.reduceEqDiff, ↓reduceIte]
    · simp only [sg_set, Nat.reduceEqDiff, ↓reduceIte]
    · simp only [sg_set, Nat.reduceEqDiff, ↓reduceIte]
      rfl
    · intro s' h3 w3 a0 a1
      have k3 := (w3.keep _ hm).2.2
      simp only at k3
      simp only [a0, a1, k3, hu.len, RX, VOp.fresh, bxC, bsC, un, most, callsOf, seval, Int.reducePow, ↓reduceIte, Nat.reduceEqDiff, reduceCtorEq]
      refine wowners g hu (s ++ numB m.epoch 2 ++ numB m.starts.length 1 ++ (m.starts.map (numB · 4)).flatten) ?_ m.owners.length 0 _ _ _ _ (by omega) (by simpa using w3) ?_ ?_ ?_ ?_ ?_
      · have := flatB_len (F := (numB · 4)) (B := 4) (l := m.starts) (fun x _ => by simp only [numB_len]; omega)
        rw [List.length_append, List.length_append, List.length_append, numB_len, numB_len]; omega
      · simp only [a0, sg_set, Nat.reduceEqDiff, ↓reduceIte]
      · simp only [sg_set, Nat.reduceEqDiff, ↓reduceIte]
      · simp only [sg_set, Nat.reduceEqDiff, ↓reduceIte]
      · simp only [sg_set, Nat.reduceEqDiff, ↓reduceIte]
        rfl
      · intro s' h4 w4 a0
        simp only [RX, VOp.fresh, bxC, bsC, un, most, callsOf, seval, Int.reducePow, ↓reduceIte, Nat.reduceEqDiff, reduceCtorEq]
        refine q _ _ ?_
        simpa only [mpB, List.append_assoc] using w4
end
section
variable {P : Program}
theorem wpts (g : Pg P tab) {l : List Pt} {a : AV} (ha : IsL 16 RPt a l) {K : List (Nat × Blk)} {b : Nat} {x30 x31 x32 : AV} (acc : List Nat) (hacc : acc.length + l.length * 8 ≤ 140737488000000) (n : Nat) :
    ∀ (i : Nat) (s : T AV) (h : Heap) (k : List Fr) (Q : Ex → T AV → Heap → Prop), i + n = l.length → WR K h b (acc ++ ((l.take i).map ptB).flatten) → sg s 0 = .ptr b 0 → sg s 30 = x30 → sg s 31 = x31 → sg s 32 = x32 → sg s 40 = a → sg s 41 = .int .i64 l.length → sg s 42 = .int .i64 i →
      (∀ s' h', WR K h' b (acc ++ (l.map ptB).flatten) → sg s' 0 = .ptr b 0 → sg s' 30 = x30 → sg s' 31 = x31 → sg s' 32 = x32 → Un P k Q (.exit 2) s' h') → Lp P b73_0 s h (Un P k Q) := by
  have hb := ha.bound (by decide)
  induction n with
  | zero =>
    intro i s h k Q hi w h0 h30 h31 h32 h40 h41 h42 hK
    refine g.lpe b73_0.eq_1 ?_
    have c1 : ¬ ((i : Int) < (l.length : Int)) := by omega
    simp only [h0, h30, h31, h32, h40, h41, h42, c1, RX, VOp.fresh, bxC, bsC, un, most, callsOf, seval, Int.reducePow, ↓reduceIte, Nat.reduceEqDiff, reduceCtorEq]
    have : l.take i = l := List.take_of_length_le (by omega)
    rw [this] at w
    refine hK _ _ w ?_ ?_ ?_ ?_
    · simp only [h0, sg_set, Nat.reduceEqDiff, ↓reduceIte]
    · simp only [h30, sg_set, Nat.reduceEqDiff, ↓reduceIte]
    · simp only [h31, sg_set, Nat.reduceEqDiff, ↓reduceIte]
    · simp only [h32, sg_set, Nat.reduceEqDiff, ↓reduceIte]
  | succ n ih =>
    intro i s h k Q hi w h0 h30 h31 h32 h40 h41 h42 hK
    refine g.lpe b73_0.eq_1 ?_
    have c1 : (i : Int) < (l.length : Int) := by omega
    obtain ⟨r1, _, g1⟩ := getPt ha i (by omega)
    have w1 : IntKind.i64.wrap ((i : Int) + 1) = ((i + 1 : Nat) : Int) := by rw [w64 (by omega) (by omega)]; push_cast; rfl
    have hA0 : (acc ++ ((l.take i).map ptB).flatten).length + 8 ≤ 140737488355328 := by
      have := flat_lenT (F := ptB) (B := 8) (l := l) (fun x _ => by rw [ptB_len]; omega) i
      rw [List.length_append]; omega
    have hA1 : acc ++ ((l.take i).map ptB).flatten ++ ptB (l.getD i ⟨0, 0⟩) = acc ++ ((l.take (i + 1)).map ptB).flatten := by
      rw [getD_pt (by omega), List.append_assoc, flat_take ptB l i (by omega)]
    generalize acc ++ ((l.take i).map ptB).flatten = A at *
    generalize l.getD i ⟨0, 0⟩ = pt at *
    simp only [RW, h0, h30, h31, h32, h40, h41, h42, c1, g1, RX, VOp.fresh, bxC, bsC, un, most, callsOf, seval, Int.reducePow, ↓reduceIte, Nat.reduceEqDiff, reduceCtorEq]
    refine wnum (n := 4) g (num4_pu g _) (by decide) ((w.add _).upd w.fresh _) (by omega) fun v h1 w2 => ?_
    have hk := (w2.keep _ List.mem_cons_self).2.2
    simp only at hk
    simp only [h0, h30, h31, h32, h40, h41, h42, hk, RX, VOp.fresh, bxC, bsC, un, most, callsOf, seval, Int.reducePow, ↓reduceIte, Nat.reduceEqDiff, reduceCtorEq]
    refine wnum (n := 4) g (num4_pu g _) (by decide) w2 (by rw [List.length_append, numB_len]; omega) fun v h1 w3 => ?_
    simp only [h0, h30, h31, h32, h40, h41, h42, w1, RX, VOp.fresh, bxC, bsC, un, most, callsOf, seval, Int.reducePow, ↓reduceIte, Nat.reduceEqDiff, reduceCtorEq]
    have w4 := w3.less
    rw [List.append_assoc, ← ptB, hA1] at w4
    refine ih (i + 1) _ _ k Q (by omega) w4 ?_ ?_ ?_ ?_ ?_ ?_ ?_ hK
    · simp only [h0, sg_set, Nat.reduceEqDiff, ↓reduceIte]
    · simp only [h30, sg_set, Nat.reduceEqDiff, ↓reduceIte]
    · simp only [h31, sg_set, Nat.reduceEqDiff, ↓reduceIte]
    · simp only [h32, sg_set, Nat.reduceEqDiff, ↓reduceIte]
    · simp only [h40, sg_set, Nat.reduceEqDiff, ↓reduceIte]
    · simp only [h41, sg_set, Nat.reduceEqDiff, ↓reduceIte]
    · simp only [sg_set, Nat.reduceEqDiff, ↓reduceIte]
theorem wrings (g : Pg P tab) {l : List (List Pt)} {a : AV} (ha : IsL 24 RRing a l) (hl2 : ∀ r ∈ l, r.length ≤ 1000) {K : List (Nat × Blk)} {b : Nat} (acc : List Nat) (hacc : acc.length + l.length * 8001 ≤ 140737400000000) (n : Nat) :
    ∀ (i : Nat) (s : T AV) (h : Heap) (k : List Fr) (Q : Ex → T AV → Heap → Prop), i + n = l.length → WR K h b (acc ++ ((l.take i).map ringB).flatten) → sg s 0 = .ptr b 0 → sg s 30 = a → sg s 31 = .int .i64 l.length → sg s 32 = .int .i64 i →
      (∀ s' h', WR K h' b (acc ++ (l.map ringB).flatten) → Un P k Q (.exit 0) s' h') → Lp P b73_1 s h (Un P k Q) := by
  have hb := ha.bound (by decide)
  induction n with
  | zero =>
    intro i s h k Q hi w h0 h30 h31 h32 hK
    refine g.lpe b73_1.eq_1 ?_
    have c1 : ¬ ((i : Int) < (l.length : Int)) := by omega
    simp only [h0, h30, h31, h32, c1, RX, VOp.fresh, bxC, bsC, un, most, callsOf, seval, Int.reducePow, ↓reduceIte, Nat.reduceEqDiff, reduceCtorEq]
    have : l.take i = l := List.take_of_length_le (by omega)
    rw [this] at w
    exact hK _ _ w
  | succ n ih =>
    intro i s h k Q hi w h0 h30 h31 h32 hK
    refine g.lpe b73_1.eq_1 ?_
    have c1 : (i : Int) < (l.length : Int) := by omega
    obtain ⟨rv, r1, hrv, _, g1⟩ := getRing ha i (by omega)
    have hrl : (l.getD i []).length ≤ 1000 := by rw [getD_ring (by omega)]; exact hl2 _ (List.getElem_mem _)
    have w1 : IntKind.i64.wrap ((i : Int) + 1) = ((i + 1 : Nat) : Int) := by rw [w64 (by omega) (by omega)]; push_cast; rfl
    have hA0 : (acc ++ ((l.take i).map ringB).flatten).length ≤ 140737400000000 := by
      have := flat_lenT (F := ringB) (B := 8001) (l := l) (fun x hx => ringB_len (hl2 x hx)) i
      rw [List.length_append]; omega
    have hA1 : acc ++ ((l.take i).map ringB).flatten ++ ringB (l.getD i []) = acc ++ ((l.take (i + 1)).map ringB).flatten := by
      rw [getD_ring (by omega), List.append_assoc, flat_take ringB l i (by omega)]
    generalize acc ++ ((l.take i).map ringB).flatten = A at *
    generalize l.getD i [] = ring at *
    simp only [h0, h30, h31, h32, c1, g1, hrv.len, RX, VOp.fresh, bxC, bsC, un, most, callsOf, seval, Int.reducePow, ↓reduceIte, Nat.reduceEqDiff, reduceCtorEq]
    refine wnum (n := 1) g (num1_pu g _) (by decide) w (by omega) fun v h1 w2 => ?_
    simp only [h0, h30, h31, h32, hrv.len, RX, VOp.fresh, bxC, bsC, un, most, callsOf, seval, Int.reducePow, ↓reduceIte, Nat.reduceEqDiff, reduceCtorEq]
    refine wpts g hrv (x30 := a) (x31 := .int .i64 l.length) (x32 := .int .i64 i) (A ++ numB ring.length 1) (by rw [List.length_append, numB_len]; omega) ring.length 0 _ _ _ _ (by omega) (by simpa using w2) ?_ ?_ ?_ ?_ ?_ ?_ ?_ ?_
    · simp only [h0, sg_set, Nat.reduceEqDiff, ↓reduceIte]
    · simp only [h30, sg_set, Nat.reduceEqDiff, ↓reduceIte]
    · simp only [h31, sg_set, Nat.reduceEqDiff, ↓reduceIte]
    · simp only [h32, sg_set, Nat.reduceEqDiff, ↓reduceIte]
    · simp only [sg_set, Nat.reduceEqDiff, ↓reduceIte]
    · simp only [sg_set, Nat.reduceEqDiff, ↓reduceIte]
    · simp only [sg_set, Nat.reduceEqDiff, ↓reduceIte]
      rfl
    · intro s' h' w3 a0 a30 a31 a32
      simp only [a0, a30, a31, a32, w1, RX, VOp.fresh, bxC, bsC, un, most, callsOf, seval, Int.reducePow, ↓reduceIte, Nat.reduceEqDiff, reduceCtorEq]
      rw [List.append_assoc, ← ringB, hA1] at w3
      refine ih (i + 1) _ _ k Q (by omega) w3 ?_ ?_ ?_ ?_ hK
      · simp only [a0, sg_set, Nat.reduceEqDiff, ↓reduceIte]
      · simp only [a30, sg_set, Nat.reduceEqDiff, ↓reduceIte]
      · simp only [a31, sg_set, Nat.reduceEqDiff, ↓reduceIte]
      · simp only [sg_set, Nat.reduceEqDiff, ↓reduceIte]
theorem wfeat (g : Pg P tab) {f : Feat} {v : AV} (hv : IsL 24 RRing v f.rings) (hs : featSmall f) {r : List AV} {K : List (Nat × Blk)} {h : Heap} {b : Nat} {s : List Nat} (w : WR K h b s)
    (hl : s.length ≤ 100000000000) {Q : AV → Heap → Prop} (q : ∀ v h', WR K h' b (s ++ featB f) → Q v h') : Cl P 73 [.ptr b 0, .rp (.int .i64 f.id :: .int .i64 f.shape :: v :: r)] h Q := by
  refine g.cl (vf := v73) rfl rfl ?_
  simp only [v73, RX, VOp.fresh, bxC, bsC, un, most, callsOf, seval, Int.reducePow, ↓reduceIte, Nat.reduceEqDiff, reduceCtorEq]
  refine wnum (n := 2) g (num2_pu g _) (by decide) w (by omega) fun _ h1 w1 => ?_
  simp only [RX, VOp.fresh, bxC, bsC, un, most, callsOf, seval, Int.reducePow, ↓reduceIte, Nat.reduceEqDiff, reduceCtorEq]
  refine wnum (n := 1) g (num1_pu g _) (by decide) w1 (by rw [List.length_append, numB_len]; omega) fun _ h2 w2 => ?_
  simp only [hv.len, RX, VOp.fresh, bxC, bsC, un, most, callsOf, seval, Int.reducePow, ↓reduceIte, Nat.reduceEqDiff, reduceCtorEq]
  refine wnum (n := 1) g (num1_pu g _) (by decide) w2 (by rw [List.length_append, List.length_append, numB_len, numB_len]; omega) fun _ h3 w3 => ?_
  simp only [hv.len, RX, VOp.fresh, bxC, bsC, un, most, callsOf, seval, Int.reducePow, ↓reduceIte, Nat.reduceEqDiff, reduceCtorEq]
  refine wrings g hv hs.2 (s ++ numB f.id 2 ++ numB f.shape 1 ++ numB f.rings.length 1) ?_ f.rings.length 0 _ _ _ _ (by omega) (by simpa using w3) ?_ ?_ ?_ ?_ ?_
  · have := hs.1
    simp only [List.length_append, numB_len]; omega
  · simp only [sg_set, Nat.reduceEqDiff, ↓reduceIte]
  · simp only [sg_set, Nat.reduceEqDiff, ↓reduceIte]
  · simp only [sg_set, Nat.reduceEqDiff, ↓reduceIte]
  · simp only [sg_set, Nat.reduceEqDiff, ↓reduceIte]
    rfl
  · intro s' h4 w4
    simp only [RX, VOp.fresh, bxC, bsC, un, most, callsOf, seval, Int.reducePow, ↓reduceIte, Nat.reduceEqDiff, reduceCtorEq]
    refine q _ _ ?_
    simpa only [featB, List.append_assoc] using w4
end
section
variable {P : Program}
theorem wopsl (g : Pg P tab) {l : List Op} {a : AV} (ha : IsL 112 ROp a l) (hl : l.length ≤ 1000) (hs : ∀ o ∈ l, opSmall o) {K : List (Nat × Blk)} {b : Nat} (acc : List Nat) (hacc : acc.length ≤ 10000) (n : Nat) :
    ∀ (i : Nat) (s : T AV) (h : Heap) (k : List Fr) (Q : Ex → T AV → Heap → Prop), i + n = l.length → WR K h b (acc ++ ((l.take i).map opB).flatten) → sg s 0 = .ptr b 0 → sg s 2 = a → sg s 17 = .int .i64 l.length → sg s 18 = .int .i64 i →
      (∀ s' h', WR K h' b (acc ++ (l.map opB).flatten) → Un P k Q (.exit 0) s' h') → Lp P b49_0 s h (Un P k Q) := by
  have hb := ha.bound (by decide)
  induction n with
  | zero =>
    intro i s h k Q hi w h0 h2 h17 h18 hK
    refine g.lpe b49_0.eq_1 ?_
    have c1 : ¬ ((i : Int) < (l.length : Int)) := by omega
    simp only [h0, h2, h17, h18, c1, RX, VOp.fresh, bxC, bsC, un, most, callsOf, seval, Int.reducePow, ↓reduceIte, Nat.reduceEqDiff, reduceCtorEq]
    have : l.take i = l := List.take_of_length_le (by omega)
    rw [this] at w
    exact hK _ _ w
  | succ n ih =>
    intro i s h k Q hi w h0 h2 h17 h18 hK
    refine g.lpe b49_0.eq_1 ?_
    have c1 : (i : Int) < (l.length : Int) := by omega
    obtain ⟨c, r, hc, tc, tr, g1⟩ := getOp ha i (by omega)
    have hos : opSmall (l.getD i op0) := by rw [getD_op (by omega)]; exact hs _ (List.getElem_mem _)
    have w1 : IntKind.i64.wrap ((i : Int) + 1) = ((i + 1 : Nat) : Int) := by rw [w64 (by omega) (by omega)]; push_cast; rfl
    have hA0 : (acc ++ ((l.take i).map opB).flatten).length ≤ 10000000000 := by
      have := flat_lenT (F := opB) (B := 9000001) (l := l) (fun x hx => opB_len (hs x hx)) i
      rw [List.length_append]; omega
    have hA1 : acc ++ ((l.take i).map opB).flatten ++ opB (l.getD i op0) = acc ++ ((l.take (i + 1)).map opB).flatten := by
      rw [getD_op (by omega), List.append_assoc, flat_take opB l i (by omega)]
    generalize acc ++ ((l.take i).map opB).flatten = A at *
    generalize l.getD i op0 = o at *
    obtain ⟨fv, sv, uv, rfl, _, _, _, hfv, _, _, hsv, huv⟩ := hc
    simp only [h0, h2, h17, h18, c1, g1, List.cons_append, List.nil_append, RX, VOp.fresh, bxC, bsC, un, most, callsOf, seval, Int.reducePow, ↓reduceIte, Nat.reduceEqDiff, reduceCtorEq]
    refine wnum (n := 1) g (num1_pu g _) (by decide) w (by omega) fun _ h1 w2 => ?_
    have next : ∀ s' h', WR K h' b (A ++ opB o) → sg s' 0 = .ptr b 0 → sg s' 2 = a → sg s' 17 = .int .i64 l.length → sg s' 18 = .int .i64 ((i + 1 : Nat) : Int) → Lp P b49_0 s' h' (Un P k Q) := by
      intro s' h' w' a1 a2 a3 a4
      exact ih (i + 1) s' h' k Q (by omega) (by rw [← hA1]; exact w') a1 a2 a3 a4 hK
    by_cases e0 : o.kind = 0
    · simp only [h0, h2, h17, h18, e0, RX, VOp.fresh, bxC, bsC, un, most, callsOf, seval, Int.reducePow, ↓reduceIte, Nat.reduceEqDiff, reduceCtorEq]
      refine wfeat g hfv hos.1 w2 (by rw [List.length_append, numB_len]; omega) fun _ h3 w3 => ?_
      simp only [h0, h2, h17, h18, w1, RX, VOp.fresh, bxC, bsC, un, most, callsOf, seval, Int.reducePow, ↓reduceIte, Nat.reduceEqDiff, reduceCtorEq]
      refine next _ _ ?_ ?_ ?_ ?_ ?_
      · rw [opB, e0, if_pos rfl, ← List.append_assoc, ← e0]; exact w3
      · simp only [h0, sg_set, Nat.reduceEqDiff, ↓reduceIte]
      · simp only [h2, sg_set, Nat.reduceEqDiff, ↓reduceIte]
      · simp only [h17, sg_set, Nat.reduceEqDiff, ↓reduceIte]
      · simp only [sg_set, Nat.reduceEqDiff, ↓reduceIte]
    · by_cases e1 : o.kind = 1
      · simp only [h0, h2, h17, h18, e1, RX, VOp.fresh, bxC, bsC, un, most, callsOf, seval, Int.reducePow, ↓reduceIte, Nat.reduceEqDiff, reduceCtorEq]
        refine wnum (n := 2) g (num2_pu g _) (by decide) w2 (by rw [List.length_append, numB_len]; omega) fun _ h3 w3 => ?_
        simp only [h0, h2, h17, h18, w1, RX, VOp.fresh, bxC, bsC, un, most, callsOf, seval, Int.reducePow, ↓reduceIte, Nat.reduceEqDiff, reduceCtorEq]
        refine next _ _ ?_ ?_ ?_ ?_ ?_
        · rw [opB, if_neg e0, if_pos e1, ← List.append_assoc]; exact w3
        · simp only [h0, sg_set, Nat.reduceEqDiff, ↓reduceIte]
        · simp only [h2, sg_set, Nat.reduceEqDiff, ↓reduceIte]
        · simp only [h17, sg_set, Nat.reduceEqDiff, ↓reduceIte]
        · simp only [sg_set, Nat.reduceEqDiff, ↓reduceIte]
      · simp only [h0, h2, h17, h18, e0, e1, RX, VOp.fresh, bxC, bsC, un, most, callsOf, seval, Int.reducePow, ↓reduceIte, Nat.reduceEqDiff, reduceCtorEq]
        refine wmap g hsv huv hos.2.1 hos.2.2 (.inl ⟨_, rfl⟩) w2 (by rw [List.length_append, numB_len]; omega) fun _ h3 w3 => ?_
        simp only [h0, h2, h17, h18, w1, RX, VOp.fresh, bxC, bsC, un, most, callsOf, seval, Int.reducePow, ↓reduceIte, Nat.reduceEqDiff, reduceCtorEq]
        refine next _ _ ?_ ?_ ?_ ?_ ?_
        · rw [opB, if_neg e0, if_neg e1, ← List.append_assoc]; exact w3
        · simp only [h0, sg_set, Nat.reduceEqDiff, ↓reduceIte]
        · simp only [h2, sg_set, Nat.reduceEqDiff, ↓reduceIte]
        · simp only [h17, sg_set, Nat.reduceEqDiff, ↓reduceIte]
        · simp only [sg_set, Nat.reduceEqDiff, ↓reduceIte]
theorem wops (g : Pg P tab) {l : List Op} {a : AV} (ha : IsL 112 ROp a l) (hl : l.length ≤ 1000) (hs : ∀ o ∈ l, opSmall o) {base : Int} (hb1 : -100000 ≤ base) (hb2 : base ≤ 100000) {K : List (Nat × Blk)} {h : Heap} {b : Nat} {s : List Nat} (w : WR K h b s)
    (hsl : s.length ≤ 1000) {Q : AV → Heap → Prop} (q : ∀ v h', WR K h' b (s ++ (numB (base + 1) 4 ++ opsB l)) → Q v h') : Cl P 49 [.ptr b 0, .int .i64 base, a] h Q := by
  refine g.cl (vf := v49) rfl rfl ?_
  have w0 : IntKind.i64.wrap (base + 1) = base + 1 := w64 (by omega) (by omega)
  simp only [v49, w0, RX, VOp.fresh, bxC, bsC, un, most, callsOf, seval, Int.reducePow, ↓reduceIte, Nat.reduceEqDiff, reduceCtorEq]
  refine wnum (n := 4) g (num4_pu g _) (by decide) w (by omega) fun _ h1 w1 => ?_
  simp only [ha.len, RX, VOp.fresh, bxC, bsC, un, most, callsOf, seval, Int.reducePow, ↓reduceIte, Nat.reduceEqDiff, reduceCtorEq]
  refine wnum (n := 1) g (num1_pu g _) (by decide) w1 (by rw [List.length_append, numB_len]; omega) fun _ h2 w2 => ?_
  simp only [ha.len, RX, VOp.fresh, bxC, bsC, un, most, callsOf, seval, Int.reducePow, ↓reduceIte, Nat.reduceEqDiff, reduceCtorEq]
  refine wopsl g ha hl hs (s ++ numB (base + 1) 4 ++ numB l.length 1) ?_ l.length 0 _ _ _ _ (by omega) (by simpa using w2) ?_ ?_ ?_ ?_ ?_
  · simp only [List.length_append, numB_len]; omega
  · simp only [sg_set, Nat.reduceEqDiff, ↓reduceIte]
  · simp only [sg_set, Nat.reduceEqDiff, ↓reduceIte]
  · simp only [sg_set, Nat.reduceEqDiff, ↓reduceIte]
  · simp only [sg_set, Nat.reduceEqDiff, ↓reduceIte]
    rfl
  · intro s' h4 w4
    simp only [RX, VOp.fresh, bxC, bsC, un, most, callsOf, seval, Int.reducePow, ↓reduceIte, Nat.reduceEqDiff, reduceCtorEq]
    refine q _ _ ?_
    simpa only [opsB, List.append_assoc] using w4
def By (l : List Nat) : Prop := ∀ n ∈ l, n < 256
theorem By.app {l k : List Nat} (a : By l) (b : By k) : By (l ++ k) := fun n h => (List.mem_append.1 h).elim (a n) (b n)
theorem By.nil : By [] := fun n h => by simp at h
theorem By.flat {α : Type} {F : α → List Nat} {l : List α} (h : ∀ x, By (F x)) : By (l.map F).flatten := by
  intro n hn
  obtain ⟨x, hx, hn⟩ := List.mem_flatten.1 hn
  obtain ⟨a, _, rfl⟩ := List.mem_map.1 hx
  exact h a n hn
theorem By.num (x : Int) : ∀ n, By (numB x n)
  | 0 => By.nil
  | n + 1 => by
    intro k hk
    rw [numB] at hk
    rcases List.mem_cons.1 hk with rfl | hk
    · have h1 := Int.emod_lt_of_pos (x / (256 ^ n : Nat)) (show (0 : Int) < 256 by decide)
      have h2 := Int.emod_nonneg (x / (256 ^ n : Nat)) (show (256 : Int) ≠ 0 by decide)
      omega
    · exact By.num x n k hk
theorem By.mp (m : Mp) : By (mpB m) := (By.num _ _).app ((By.num _ _).app ((By.flat fun x => By.num x 4).app (By.flat fun x => By.num x 1)))
theorem By.pt (p : Pt) : By (ptB p) := (By.num _ _).app (By.num _ _)
theorem By.ring (p : List Pt) : By (ringB p) := (By.num _ _).app (By.flat By.pt)
theorem By.feat (f : Feat) : By (featB f) := (By.num _ _).app ((By.num _ _).app ((By.num _ _).app (By.flat By.ring)))
theorem By.op (o : Op) : By (opB o) := (By.num _ _).app (by split; exact By.feat _; split; exact By.num _ _; exact By.mp _)
theorem By.ops (l : List Op) : By (opsB l) := (By.num _ _).app (By.flat By.op)
theorem mb_bytes : ∀ {l : List Nat}, By l → (l.map byteV).mapM AV.byte = some l
  | [], _ => rfl
  | n :: l, h => by
    have h1 : n < 256 := h n (by simp)
    have h2 : AV.byte (byteV n) = some n := by
      simp only [byteV, AV.byte]
      rw [if_pos ⟨by omega, by omega⟩]
      rfl
    rw [List.map_cons, List.mapM_cons, h2, mb_bytes fun k hk => h k (List.mem_cons_of_mem _ hk)]
    rfl
end
end Go.Proofs.Ytinonmcnofjeeaa.VM
namespace Go.Proofs.Ytinonmcnofjeeaa.VM
attribute [local irreducible] Af Nx EvO Ev Un Gd Cd EvR EvQ EvC Nc Gc Lp EvM NxM AfM GdM EvMR EvMQ EvMD EvMC Nm Gm
theorem By.drop {s : List Nat} (h : By s) (n : Nat) : By (s.drop n) := fun x hx => h x (List.mem_of_mem_drop hx)
theorem By.take {s : List Nat} (h : By s) (n : Nat) : By (s.take n) := fun x hx => h x (List.mem_of_mem_take hx)
end Go.Proofs.Ytinonmcnofjeeaa.VM
namespace Go.Proofs.Ytinonmcnofjeeaa.VM
attribute [local irreducible] Af Nx EvO Ev Un Gd Cd EvR EvQ EvC Nc Gc Lp EvM NxM AfM GdM EvMR EvMQ EvMD EvMC Nm Gm
def cPt (p : Pt) : List AV := [.int .i64 p.x, .int .i64 p.y]
def cRing (r : List Pt) : AV := cRow ((r.map cPt).flatten) r.length
def cRings (rs : List (List Pt)) : AV := cRow (rs.map cRing) rs.length
def cFeat (f : Feat) : List AV := [.int .i64 f.id, .int .i64 f.shape, cRings f.rings]
def cInts (l : List Int) : AV := cRow (l.map (AV.int .i64)) l.length
def cOpL (o : Op) : List AV := [.int .i64 o.kind, .int .i64 o.f.id, .int .i64 o.f.shape, cRings o.f.rings, .int .i64 o.id, .int .i64 o.m.epoch, cInts o.m.starts, cInts o.m.owners]
def cOpsL (l : List Op) : AV := cRow ((l.map cOpL).flatten) l.length
/-- sizes of data that stay small -/
def ringSm (r : List Pt) : Prop := r.length ≤ 1000000 ∧ ∀ p ∈ r, I64 p.x ∧ I64 p.y
def featSm (f : Feat) : Prop := I64 f.id ∧ I64 f.shape ∧ f.rings.length ≤ 1000000 ∧ ∀ r ∈ f.rings, ringSm r
def intsSm (l : List Int) : Prop := l.length ≤ 1000000 ∧ ∀ x ∈ l, I64 x
def mpSm (m : Mp) : Prop := I64 m.epoch ∧ intsSm m.starts ∧ intsSm m.owners
def opSm (o : Op) : Prop := I64 o.kind ∧ featSm o.f ∧ I64 o.id ∧ mpSm o.m
def opsSm (l : List Op) : Prop := l.length ≤ 1000000 ∧ ∀ o ∈ l, opSm o
theorem row_isL {α : Type} {b : Nat} {R : α → List AV → Prop} {l : List α} {c : List AV} (hb : l.length * b ≤ reachBytes) (h : Cat R l c) : IsL b R (cRow c l.length) l := by
  cases l with
  | nil => exact isL_nil b R
  | cons x l => rw [cRow_s _ (by simp)]; exact isL_rs h hb
theorem reach_eq : reachBytes = 140737488351232 := rfl
end Go.Proofs.Ytinonmcnofjeeaa.VM
namespace Go.Proofs.Ytinonmcnofjeeaa.VM
attribute [local irreducible] Af Nx EvO Ev Un Gd Cd EvR EvQ EvC Nc Gc Lp EvM NxM AfM GdM EvMR EvMQ EvMD EvMC Nm Gm
section
variable {P : Program}
theorem ExtX.le {x : Nat} {a b : Heap} (p : ExtX x a b) : a.next ≤ b.next := p.1
end
end Go.Proofs.Ytinonmcnofjeeaa.VM
namespace Go.Proofs.Ytinonmcnofjeeaa.VM
attribute [local irreducible] Af Nx EvO Ev Un Gd Cd EvR EvQ EvC Nc Gc Lp EvM NxM AfM GdM EvMR EvMQ EvMD EvMC Nm Gm
theorem Lv.put {h : Heap} {B : Nat → Prop} {x y : AV} (l : Lv h B x y) {b : Nat} (hb : ¬ B b) (o : Blk) : Lv (h.put b o) B x y := l.frame (by rw [put_next]; exact Nat.le_refl _) fun c hc _ => by rw [Heap.get_put, if_neg (show ¬ c = b from fun e => hb (e ▸ hc))]
theorem Lvs.put {h : Heap} {B : Nat → Prop} {x y : List AV} (l : Lvs h B x y) {b : Nat} (hb : ¬ B b) (o : Blk) : Lvs (h.put b o) B x y := l.frame (by rw [put_next]; exact Nat.le_refl _) fun c hc _ => by rw [Heap.get_put, if_neg (show ¬ c = b from fun e => hb (e ▸ hc))]
end Go.Proofs.Ytinonmcnofjeeaa.VM
namespace Go.Proofs.Ytinonmcnofjeeaa.VM
attribute [local irreducible] Af Nx EvO Ev Un Gd Cd EvR EvQ EvC Nc Gc Lp EvM NxM AfM GdM EvMR EvMQ EvMD EvMC Nm Gm
section
variable {P : Program}
theorem rPoint_pu (g : Pg P tab) (p : Pt) : Pu P 114 [.agg [.int .i64 p.x, .int .i64 p.y]] (IsB (ptOk p)) := by
  refine g.pu (vf := v114) rfl rfl ?_
  simp +contextual (maxSteps := 2000000) (disch := omega) only [v114, ptOk, coordOk, and_assoc, RX, VOp.fresh, bxC, bsC, un, most, callsOf, seval, Int.reducePow, ↓reduceIte, Nat.reduceEqDiff, reduceCtorEq]
theorem rTx_pu (g : Pg P tab) (a b : Int) : Pu P 91 [.agg [.int .i64 a, .int .i64 b]] (IsB (txOk a b)) := by
  refine g.pu (vf := v91) rfl rfl ?_
  simp +contextual (maxSteps := 2000000) (disch := omega) only [v91, txOk, RX, VOp.fresh, bxC, bsC, un, most, callsOf, seval, Int.reducePow, ↓reduceIte, Nat.reduceEqDiff, reduceCtorEq]
theorem rBase_pu (g : Pg P tab) (a : Int) : Pu P 93 [.int .i64 a] (fun v => v = .bool (decide (-1 ≤ a ∧ a ≤ 65535))) := by
  refine g.pu (vf := v93) rfl rfl ?_
  simp +contextual (maxSteps := 2000000) (disch := omega) only [v93, RX, VOp.fresh, bxC, bsC, un, most, callsOf, seval, Int.reducePow, ↓reduceIte, Nat.reduceEqDiff, reduceCtorEq]
theorem rZeroMap_pu (g : Pg P tab) {m : Mp} {v u : AV} (hv : IsL 8 RInt v m.starts) (hu : IsL 8 RInt u m.owners) : Pu P 92 [.agg [.int .i64 m.epoch, v, u]] (IsB (mpZero m)) := by
  refine g.pu (vf := v92) rfl rfl ?_
  simp +contextual (maxSteps := 2000000) (disch := omega) only [v92, hv.len, hu.len, mpZero, len0, RX, VOp.fresh, bxC, bsC, un, most, callsOf, seval, Int.reducePow, ↓reduceIte, Nat.reduceEqDiff, reduceCtorEq]
theorem rZeroFeat_pu (g : Pg P tab) {f : Feat} {v : AV} (hv : IsL 24 RRing v f.rings) : Pu P 121 [.agg [.int .i64 f.id, .int .i64 f.shape, v]] (IsB (ftZero f)) := by
  refine g.pu (vf := v121) rfl rfl ?_
  simp +contextual (maxSteps := 2000000) (disch := omega) only [v121, hv.len, ftZero, len0, RX, VOp.fresh, bxC, bsC, un, most, callsOf, seval, Int.reducePow, ↓reduceIte, Nat.reduceEqDiff, reduceCtorEq]
def rrAt (r : List Pt) (i : Nat) : Prop := ptOk (r.getD i ⟨0, 0⟩) ∧ (0 < i → r.getD i ⟨0, 0⟩ ≠ r.getD (i - 1) ⟨0, 0⟩)
theorem rRing_loop (g : Pg P tab) {r : List Pt} {v : AV} {sh : Int} (hv : IsL 16 RPt v r) (hr : r.length ≤ 16) (n : Nat) :
    ∀ (i : Nat) (s : T AV) (hh : Heap) (k : List Fr) (Q : Ex → T AV → Heap → Prop), i + n = r.length → sg s 1 = v → sg s 0 = .int .i64 sh → sg s 5 = .int .i64 i →
      ((∀ j, i ≤ j → j < r.length → rrAt r j) → ∀ s' h', sg s' 1 = v → sg s' 0 = .int .i64 sh → Un P k Q (.exit 0) s' h') → ((¬ ∀ j, i ≤ j → j < r.length → rrAt r j) → ∀ s' h', sg s' 4 = .bool false → Un P k Q .ret s' h') → Lp P b123_0 s hh (Un P k Q) := by
  induction n with
  | zero =>
    intro i s hh k Q hi h1 h0 h5 hK hR
    refine g.lpe b123_0.eq_1 ?_
    have c1 : ¬ ((i : Int) < (r.length : Int)) := by omega
    simp only [h1, h5, hv.len, c1, RX, VOp.fresh, bxC, bsC, un, most, callsOf, seval, Int.reducePow, ↓reduceIte, Nat.reduceEqDiff, reduceCtorEq]
    exact hK (fun j h1 h2 => by omega) _ _ (by simp only [h1, sg_set, Nat.reduceEqDiff, ↓reduceIte]) (by simp only [h0, sg_set, Nat.reduceEqDiff, ↓reduceIte])
  | succ n ih =>
    intro i s hh k Q hi h1 h0 h5 hK hR
    refine g.lpe b123_0.eq_1 ?_
    have c1 : (i : Int) < (r.length : Int) := by omega
    obtain ⟨r1, _, g1⟩ := getPt hv i (by omega)
    have w1 : IntKind.i64.wrap ((i : Int) + 1) = ((i + 1 : Nat) : Int) := by rw [w64 (by omega) (by omega)]; push_cast; rfl
    have w2 : IntKind.i64.wrap ((i : Int) - 1) = (i : Int) - 1 := w64 (by omega) (by omega)
    have no : ¬ rrAt r i → ¬ ∀ j, i ≤ j → j < r.length → rrAt r j := fun h hall => h (hall i (Nat.le_refl _) (by omega))
    have step : rrAt r i → ∀ s' h', sg s' 1 = v → sg s' 0 = .int .i64 sh → sg s' 5 = .int .i64 (i + 1 : Nat) → Lp P b123_0 s' h' (Un P k Q) := fun hok s' h' a1 a0 a5 => by
      have all : (∀ j, i ≤ j → j < r.length → rrAt r j) ↔ ∀ j, i + 1 ≤ j → j < r.length → rrAt r j := ⟨fun h j h1 h2 => h j (by omega) h2, fun h j h1 h2 => by
        rcases Nat.lt_or_ge i j with h3 | h3
        · exact h j h3 h2
        · rw [show j = i by omega]; exact hok⟩
      exact ih (i + 1) _ _ k Q (by omega) a1 a0 a5 (fun h => hK (all.2 h)) (fun h => hR (fun h' => h (all.1 h')))
    simp only [h1, h5, hv.len, c1, g1, RX, VOp.fresh, bxC, bsC, un, most, callsOf, seval, Int.reducePow, ↓reduceIte, Nat.reduceEqDiff, reduceCtorEq]
    refine (rPoint_pu g _).go rfl ?_
    rintro x ⟨b, rfl, hb⟩
    cases b
    · simp only [h1, h5, RX, VOp.fresh, bxC, bsC, un, most, callsOf, seval, Int.reducePow, ↓reduceIte, Nat.reduceEqDiff, reduceCtorEq]
      exact hR (no fun h => by have := hb.2 h.1; cases this) _ _ (by simp only [sg_set, Nat.reduceEqDiff, ↓reduceIte])
    · simp only [h1, h5, RX, VOp.fresh, bxC, bsC, un, most, callsOf, seval, Int.reducePow, ↓reduceIte, Nat.reduceEqDiff, reduceCtorEq]
      by_cases hi0 : i = 0
      · have c2 : ¬ ((0 : Int) < (i : Int)) := by omega
        simp only [c2, h5, w1, RX, VOp.fresh, bxC, bsC, un, most, callsOf, seval, Int.reducePow, ↓reduceIte, Nat.reduceEqDiff, reduceCtorEq]
        refine step ⟨hb.1 rfl, fun h => by omega⟩ _ _ ?_ ?_ ?_
        · simp only [h1, sg_set, Nat.reduceEqDiff, ↓reduceIte]
        · simp only [h0, sg_set, Nat.reduceEqDiff, ↓reduceIte]
        · simp only [sg_set, Nat.reduceEqDiff, ↓reduceIte]
      · have c2 : (0 : Int) < (i : Int) := by omega
        obtain ⟨r2, _, g2⟩ := getPt hv (i - 1) (by omega)
        have ec : ((i - 1 : Nat) : Int) = (i : Int) - 1 := by omega
        rw [ec] at g2
        by_cases he : r.getD i ⟨0, 0⟩ = r.getD (i - 1) ⟨0, 0⟩
        · have he' : (r.getD i ⟨0, 0⟩).x = (r.getD (i - 1) ⟨0, 0⟩).x ∧ (r.getD i ⟨0, 0⟩).y = (r.getD (i - 1) ⟨0, 0⟩).y := by rw [he]; exact ⟨rfl, rfl⟩
          simp only [c2, w2, g2, g1, h1, h5, flat2, he', RX, VOp.fresh, bxC, bsC, un, most, callsOf, seval, Int.reducePow, ↓reduceIte, Nat.reduceEqDiff, reduceCtorEq]
          exact hR (no fun h => h.2 (by omega) he) _ _ (by simp only [sg_set, Nat.reduceEqDiff, ↓reduceIte])
        · have he' : ¬ ((r.getD i ⟨0, 0⟩).x = (r.getD (i - 1) ⟨0, 0⟩).x ∧ (r.getD i ⟨0, 0⟩).y = (r.getD (i - 1) ⟨0, 0⟩).y) := by rw [pt_eq]; exact he
          simp only [c2, w2, g2, g1, h1, h5, flat2, he', w1, RX, VOp.fresh, bxC, bsC, un, most, callsOf, seval, Int.reducePow, ↓reduceIte, Nat.reduceEqDiff, reduceCtorEq]
          refine step ⟨hb.1 rfl, fun h => he⟩ _ _ ?_ ?_ ?_
          · simp only [h1, sg_set, Nat.reduceEqDiff, ↓reduceIte]
          · simp only [h0, sg_set, Nat.reduceEqDiff, ↓reduceIte]
          · simp only [sg_set, Nat.reduceEqDiff, ↓reduceIte]
def rRing (sh : Int) (r : List Pt) : Prop := r.length ≤ 16 ∧ (∀ i, i < r.length → rrAt r i) ∧ ((sh = 0 ∧ r.length = 1) ∨ (sh = 1 ∧ 2 ≤ r.length) ∨ (sh = 2 ∧ 3 ≤ r.length ∧ r.getD 0 ⟨0, 0⟩ ≠ r.getD (r.length - 1) ⟨0, 0⟩))
theorem rRing_pu (g : Pg P tab) {r : List Pt} {v : AV} {sh : Int} (hv : IsL 16 RPt v r) : Pu P 123 [.int .i64 sh, v] (IsB (rRing sh r)) := by
  refine g.pu (vf := v123) rfl rfl ?_
  have hb := hv.bound (by decide)
  by_cases hl : r.length ≤ 16
  · have c1 : ¬ ((16 : Int) < (r.length : Int)) := by omega
    simp only [v123, hv.len, c1, RX, VOp.fresh, bxC, bsC, un, most, callsOf, seval, Int.reducePow, ↓reduceIte, Nat.reduceEqDiff, reduceCtorEq]
    refine rRing_loop g hv (sh := sh) hl r.length 0 _ _ _ _ (by omega) ?_ ?_ ?_ ?_ ?_
    · simp only [sg_set, Nat.reduceEqDiff, ↓reduceIte]
    · simp only [sg_set, Nat.reduceEqDiff, ↓reduceIte]
    · simp only [sg_set, Nat.reduceEqDiff, ↓reduceIte]
      rfl
    · intro hall s' h' a1 a0
      have hall' : ∀ i, i < r.length → rrAt r i := fun i hi => hall i (by omega) hi
      by_cases k0 : sh = 0
      · have d1 : ((r.length : Int) = 1) = (r.length = 1) := by rw [eq_iff_iff]; omega
        simp only [a0, a1, k0, hv.len, d1, RX, VOp.fresh, bxC, bsC, un, most, callsOf, seval, Int.reducePow, ↓reduceIte, Nat.reduceEqDiff, reduceCtorEq]
        exact ⟨fun h => ⟨hl, hall', .inl ⟨rfl, h⟩⟩, fun h => by rcases h.2.2 with h | h | h; exact h.2; exact absurd h.1 (by decide); exact absurd h.1 (by decide)⟩
      · by_cases k1 : sh = 1
        · have d1 : ((2 : Int) ≤ (r.length : Int)) = (2 ≤ r.length) := by rw [eq_iff_iff]; omega
          simp only [a0, a1, k1, hv.len, d1, RX, VOp.fresh, bxC, bsC, un, most, callsOf, seval, Int.reducePow, ↓reduceIte, Nat.reduceEqDiff, reduceCtorEq]
          exact ⟨fun h => ⟨hl, hall', .inr (.inl ⟨rfl, h⟩)⟩, fun h => by rcases h.2.2 with h | h | h; exact absurd h.1 (by decide); exact h.2; exact absurd h.1 (by decide)⟩
        · by_cases k2 : sh = 2
          · by_cases h3 : 3 ≤ r.length
            · have d1 : (3 : Int) ≤ (r.length : Int) := by omega
              obtain ⟨r1, _, g1⟩ := getPt hv 0 (by omega)
              obtain ⟨r2, _, g2⟩ := getPt hv (r.length - 1) (by omega)
              have ec : ((r.length - 1 : Nat) : Int) = (r.length : Int) - 1 := by omega
              rw [ec] at g2
              simp only [Int.natCast_zero, Int.ofNat_zero, Int.ofNat_eq_natCast] at g1
              have w2 : IntKind.i64.wrap ((r.length : Int) - 1) = (r.length : Int) - 1 := w64 (by omega) (by omega)
              simp only [a0, a1, k2, hv.len, d1, g1, g2, w2, flat2, pt_eq, RX, VOp.fresh, bxC, bsC, un, most, callsOf, seval, Int.reducePow, ↓reduceIte, Nat.reduceEqDiff, reduceCtorEq]
              refine ⟨fun h => ⟨hl, hall', .inr (.inr ⟨rfl, h3, by simpa using h⟩)⟩, fun h => ?_⟩
              rcases h.2.2 with h | h | h
              · exact absurd h.1 (by decide)
              · exact absurd h.1 (by decide)
              · simpa using h.2.2
            · have d1 : ¬ (3 : Int) ≤ (r.length : Int) := by omega
              simp only [a0, a1, k2, hv.len, d1, RX, VOp.fresh, bxC, bsC, un, most, callsOf, seval, Int.reducePow, ↓reduceIte, Nat.reduceEqDiff, reduceCtorEq]
              intro h
              rcases h.2.2 with h | h | h
              · exact absurd h.1 (by decide)
              · exact absurd h.1 (by decide)
              · exact h3 h.2.1
          · simp only [a0, a1, k0, k1, k2, RX, VOp.fresh, bxC, bsC, un, most, callsOf, seval, Int.reducePow, ↓reduceIte, Nat.reduceEqDiff, reduceCtorEq]
            intro h
            rcases h.2.2 with h | h | h
            · exact k0 h.1
            · exact k1 h.1
            · exact k2 h.1
    · intro hn s' h' h4
      simp only [h4, RX, VOp.fresh, bxC, bsC, un, most, callsOf, seval, Int.reducePow, ↓reduceIte, Nat.reduceEqDiff, reduceCtorEq]
      exact fun h => hn fun j _ hj => h.2.1 j hj
  · have c1 : (16 : Int) < (r.length : Int) := by omega
    simp only [v123, hv.len, c1, RX, VOp.fresh, bxC, bsC, un, most, callsOf, seval, Int.reducePow, ↓reduceIte, Nat.reduceEqDiff, reduceCtorEq]
    exact fun h => hl h.1
theorem rings_eq {r : List Pt} {c : Bool} (h1 : 1 ≤ r.length) : (∀ i, i < r.length → ringAt c r i) ↔ (∀ i, i < r.length → rrAt r i) ∧ (c = true → r.getD 0 ⟨0, 0⟩ ≠ r.getD (r.length - 1) ⟨0, 0⟩) := by
  constructor
  · intro h
    refine ⟨fun i hi => ⟨(h i hi).1, fun h0 => ?_⟩, fun hc => ?_⟩
    · have := (h (i - 1) (by omega)).2
      have e : nxt r.length (i - 1) = i := by unfold nxt; rw [if_neg (by omega)]; omega
      rw [e] at this
      exact fun e => this (.inl h0) e.symm
    · have := (h (r.length - 1) (by omega)).2 (.inr hc)
      have e : nxt r.length (r.length - 1) = 0 := by unfold nxt; rw [if_pos (by omega)]
      rw [e] at this
      exact fun e => this e.symm
  · rintro ⟨h, k⟩ i hi
    refine ⟨(h i hi).1, fun hc => ?_⟩
    unfold nxt at hc ⊢
    by_cases e : i + 1 = r.length
    · rw [if_pos e] at hc ⊢
      rcases hc with hc | hc
      · omega
      · have := k hc
        rw [show r.length - 1 = i by omega] at this
        exact fun e => this e.symm
    · rw [if_neg e] at hc ⊢
      have := (h (i + 1) (by omega)).2 (by omega)
      rw [Nat.add_sub_cancel] at this
      exact fun e => this e.symm
def rFeat (f : Feat) : Prop := 1 ≤ f.id ∧ f.id ≤ 65535 ∧ 1 ≤ f.rings.length ∧ f.rings.length ≤ 4 ∧ (f.shape = 2 ∨ f.rings.length = 1) ∧ ∀ i, i < f.rings.length → rRing f.shape (f.rings.getD i [])
theorem rFeat_eq (f : Feat) : rFeat f ↔ featOk f := by
  constructor
  · rintro ⟨a1, a2, a3, a4, a5, a6⟩
    refine ⟨a1, a2, a3, a4, ?_⟩
    have h0 := a6 0 (by omega)
    rcases h0.2.2 with ⟨k, h⟩ | ⟨k, h⟩ | ⟨k, h⟩
    · exact .inl ⟨k, by omega, h, (h0.2.1 0 (by omega)).1⟩
    · exact .inr (.inl ⟨k, by omega, by omega, by have := h0.1; omega, (rings_eq (by omega)).2 ⟨h0.2.1, fun e => by cases e⟩⟩)
    · refine .inr (.inr ⟨k, fun i hi => ?_⟩)
      have hi' := a6 i hi
      rcases hi'.2.2 with ⟨k', h⟩ | ⟨k', h⟩ | ⟨k', h, h2⟩
      · omega
      · omega
      · exact ⟨by omega, by have := hi'.1; omega, (rings_eq (by omega)).2 ⟨hi'.2.1, fun _ => h2⟩⟩
  · rintro ⟨a1, a2, a3, a4, h⟩
    rcases h with ⟨k, b2, b3, b4⟩ | ⟨k, b2, b3⟩ | ⟨k, b2⟩
    · refine ⟨a1, a2, a3, a4, .inr b2, fun i hi => ?_⟩
      have : i = 0 := by omega
      subst this
      refine ⟨by omega, fun j hj => ?_, .inl ⟨k, b3⟩⟩
      have : j = 0 := by omega
      subst this
      exact ⟨b4, fun h => by omega⟩
    · refine ⟨a1, a2, a3, a4, .inr b2, fun i hi => ?_⟩
      have : i = 0 := by omega
      subst this
      obtain ⟨c1, c2, c3⟩ := b3
      exact ⟨by omega, ((rings_eq (by omega)).1 c3).1, .inr (.inl ⟨k, by omega⟩)⟩
    · refine ⟨a1, a2, a3, a4, .inl k, fun i hi => ?_⟩
      obtain ⟨c1, c2, c3⟩ := b2 i hi
      have := (rings_eq (by omega)).1 c3
      exact ⟨by omega, this.1, .inr (.inr ⟨k, by omega, this.2 rfl⟩)⟩
theorem rFeat_loop (g : Pg P tab) {f : Feat} {v : AV} (hv : IsL 24 RRing v f.rings) {hh : Heap} {e : TypeId} {ver : Nat} (hg : hh.get 0 = some (.cells [.int .i64 f.id, .int .i64 f.shape, v] e ver)) (n : Nat) :
    ∀ (i : Nat) (s : T AV) (k : List Fr) (Q : Ex → T AV → Heap → Prop), i + n = f.rings.length → sg s 1 = .ptr 0 0 → sg s 3 = .int .i64 i →
      ((∀ j, i ≤ j → j < f.rings.length → rRing f.shape (f.rings.getD j [])) → ∀ s', Un P k Q (.exit 0) s' hh) → ((¬ ∀ j, i ≤ j → j < f.rings.length → rRing f.shape (f.rings.getD j [])) → ∀ s', sg s' 2 = .bool false → Un P k Q .ret s' hh) → Lp P b115_0 s hh (Un P k Q) := by
  have hb := hv.bound (by decide)
  induction n with
  | zero =>
    intro i s k Q hi h1 h3 hK hR
    refine g.lpe b115_0.eq_1 ?_
    have c1 : ¬ ((i : Int) < (f.rings.length : Int)) := by omega
    simp only [h1, h3, hg, hv.len, c1, RX, VOp.fresh, bxC, bsC, un, most, callsOf, seval, Int.reducePow, ↓reduceIte, Nat.reduceEqDiff, reduceCtorEq]
    exact hK (fun j h1 h2 => by omega) _
  | succ n ih =>
    intro i s k Q hi h1 h3 hK hR
    refine g.lpe b115_0.eq_1 ?_
    have c1 : (i : Int) < (f.rings.length : Int) := by omega
    obtain ⟨rv, r1, hrv, _, g1⟩ := getRing hv i (by omega)
    have w1 : IntKind.i64.wrap ((i : Int) + 1) = ((i + 1 : Nat) : Int) := by rw [w64 (by omega) (by omega)]; push_cast; rfl
    simp only [h1, h3, hg, hv.len, c1, g1, RX, VOp.fresh, bxC, bsC, un, most, callsOf, seval, Int.reducePow, ↓reduceIte, Nat.reduceEqDiff, reduceCtorEq]
    refine (rRing_pu g hrv).go (by simp [AV.tolds, AV.told, hrv.told tPt]) ?_
    rintro x ⟨b, rfl, hbb⟩
    cases b
    · simp only [h3, RX, VOp.fresh, bxC, bsC, un, most, callsOf, seval, Int.reducePow, ↓reduceIte, Nat.reduceEqDiff, reduceCtorEq]
      refine hR (fun hall => ?_) _ (by simp only [sg_set, Nat.reduceEqDiff, ↓reduceIte])
      have := hbb.2 (hall i (Nat.le_refl _) (by omega))
      cases this
    · simp only [h3, w1, RX, VOp.fresh, bxC, bsC, un, most, callsOf, seval, Int.reducePow, ↓reduceIte, Nat.reduceEqDiff, reduceCtorEq]
      have hok := hbb.1 rfl
      have all : (∀ j, i ≤ j → j < f.rings.length → rRing f.shape (f.rings.getD j [])) ↔ ∀ j, i + 1 ≤ j → j < f.rings.length → rRing f.shape (f.rings.getD j []) := ⟨fun h j h1 h2 => h j (by omega) h2, fun h j h1 h2 => by
        rcases Nat.lt_or_ge i j with h3 | h3
        · exact h j h3 h2
        · rw [show j = i by omega]; exact hok⟩
      refine ih (i + 1) _ k Q (by omega) ?_ ?_ (fun h => hK (all.2 h)) (fun h => hR (fun h' => h (all.1 h')))
      · simp only [h1, sg_set, Nat.reduceEqDiff, ↓reduceIte]
      · simp only [sg_set, Nat.reduceEqDiff, ↓reduceIte]
theorem rShape_pu (g : Pg P tab) {f : Feat} {v : AV} (hv : IsL 24 RRing v f.rings) : Pu P 115 [.agg [.int .i64 f.id, .int .i64 f.shape, v]] (IsB (featOk f)) := by
  rw [show IsB (featOk f) = IsB (rFeat f) from by rw [show featOk f = rFeat f from propext (rFeat_eq f).symm]]
  refine g.pu (vf := v115) rfl rfl ?_
  have d1 : ((f.rings.length : Int) < 1) = ¬ (1 ≤ f.rings.length) := by rw [eq_iff_iff]; omega
  have d2 : ((4 : Int) < (f.rings.length : Int)) = ¬ (f.rings.length ≤ 4) := by rw [eq_iff_iff]; omega
  have d3 : ((f.rings.length : Int) = 1) = (f.rings.length = 1) := by rw [eq_iff_iff]; omega
  by_cases hc : 1 ≤ f.id ∧ f.id ≤ 65535 ∧ 1 ≤ f.rings.length ∧ f.rings.length ≤ 4 ∧ (f.shape = 2 ∨ f.rings.length = 1)
  · obtain ⟨e1, e2, e3, e4, e5⟩ := hc
    have f1 : ¬ f.id < 1 := by omega
    have f2 : ¬ 65535 < f.id := by omega
    have go : ∀ (s : T AV) (k : List Fr) (Q : Ex → T AV → Heap → Prop), True := fun _ _ _ => trivial
    rcases e5 with e5 | e5
    · simp only [v115, hv.len, d1, d2, d3, f1, f2, e3, e4, e5, RX, VOp.fresh, bxC, bsC, un, most, callsOf, seval, Int.reducePow, ↓reduceIte, Nat.reduceEqDiff, reduceCtorEq]
      refine rFeat_loop g hv (by rw [Heap.get_mk, if_pos rfl, e5]) f.rings.length 0 _ _ _ (by omega) ?_ ?_ ?_ ?_
      · simp only [sg_set, Nat.reduceEqDiff, ↓reduceIte]
      · simp only [sg_set, Nat.reduceEqDiff, ↓reduceIte]
        rfl
      · intro hall s'
        simp only [RX, VOp.fresh, bxC, bsC, un, most, callsOf, seval, Int.reducePow, ↓reduceIte, Nat.reduceEqDiff, reduceCtorEq]
        exact ⟨e1, e2, e3, e4, .inl e5, fun i hi => hall i (by omega) hi⟩
      · intro hn s' h2
        simp only [h2, RX, VOp.fresh, bxC, bsC, un, most, callsOf, seval, Int.reducePow, ↓reduceIte, Nat.reduceEqDiff, reduceCtorEq]
        exact fun h => hn fun j _ hj => h.2.2.2.2.2 j hj
    · by_cases e6 : f.shape = 2
      · simp only [v115, hv.len, d1, d2, d3, f1, f2, e3, e4, e5, e6, RX, VOp.fresh, bxC, bsC, un, most, callsOf, seval, Int.reducePow, ↓reduceIte, Nat.reduceEqDiff, reduceCtorEq]
        refine rFeat_loop g hv (by rw [Heap.get_mk, if_pos rfl, e6]) f.rings.length 0 _ _ _ (by omega) ?_ ?_ ?_ ?_
        · simp only [sg_set, Nat.reduceEqDiff, ↓reduceIte]
        · simp only [sg_set, Nat.reduceEqDiff, ↓reduceIte]
          rfl
        · intro hall s'
          simp only [RX, VOp.fresh, bxC, bsC, un, most, callsOf, seval, Int.reducePow, ↓reduceIte, Nat.reduceEqDiff, reduceCtorEq]
          exact ⟨e1, e2, e3, e4, .inr e5, fun i hi => hall i (by omega) hi⟩
        · intro hn s' h2
          simp only [h2, RX, VOp.fresh, bxC, bsC, un, most, callsOf, seval, Int.reducePow, ↓reduceIte, Nat.reduceEqDiff, reduceCtorEq]
          exact fun h => hn fun j _ hj => h.2.2.2.2.2 j hj
      · simp only [v115, hv.len, d1, d2, d3, f1, f2, e3, e4, e5, e6, RX, VOp.fresh, bxC, bsC, un, most, callsOf, seval, Int.reducePow, ↓reduceIte, Nat.reduceEqDiff, reduceCtorEq]
        refine rFeat_loop g hv (by rw [Heap.get_mk, if_pos rfl]) f.rings.length 0 _ _ _ (by omega) ?_ ?_ ?_ ?_
        · simp only [sg_set, Nat.reduceEqDiff, ↓reduceIte]
        · simp only [sg_set, Nat.reduceEqDiff, ↓reduceIte]
          rfl
        · intro hall s'
          simp only [RX, VOp.fresh, bxC, bsC, un, most, callsOf, seval, Int.reducePow, ↓reduceIte, Nat.reduceEqDiff, reduceCtorEq]
          exact ⟨e1, e2, e3, e4, .inr e5, fun i hi => hall i (by omega) hi⟩
        · intro hn s' h2
          simp only [h2, RX, VOp.fresh, bxC, bsC, un, most, callsOf, seval, Int.reducePow, ↓reduceIte, Nat.reduceEqDiff, reduceCtorEq]
          exact fun h => hn fun j _ hj => h.2.2.2.2.2 j hj
  · have no : ¬ rFeat f := fun h => hc ⟨h.1, h.2.1, h.2.2.1, h.2.2.2.1, h.2.2.2.2.1⟩
    by_cases f1 : f.id < 1
    · simp only [v115, f1, no, RX, VOp.fresh, bxC, bsC, un, most, callsOf, seval, Int.reducePow, ↓reduceIte, Nat.reduceEqDiff, reduceCtorEq]
    · by_cases f2 : 65535 < f.id
      · simp only [v115, f1, f2, no, RX, VOp.fresh, bxC, bsC, un, most, callsOf, seval, Int.reducePow, ↓reduceIte, Nat.reduceEqDiff, reduceCtorEq]
      · by_cases e3 : 1 ≤ f.rings.length
        · by_cases e4 : f.rings.length ≤ 4
          · have e5 : ¬ f.shape = 2 := fun e => hc ⟨by omega, by omega, e3, e4, .inl e⟩
            have e6 : ¬ f.rings.length = 1 := fun e => hc ⟨by omega, by omega, e3, e4, .inr e⟩
            simp only [v115, hv.len, d1, d2, d3, f1, f2, e3, e4, e5, e6, no, RX, VOp.fresh, bxC, bsC, un, most, callsOf, seval, Int.reducePow, ↓reduceIte, Nat.reduceEqDiff, reduceCtorEq]
          · simp only [v115, hv.len, d1, d2, f1, f2, e3, e4, no, RX, VOp.fresh, bxC, bsC, un, most, callsOf, seval, Int.reducePow, ↓reduceIte, Nat.reduceEqDiff, reduceCtorEq]
        · simp only [v115, hv.len, d1, f1, f2, e3, no, RX, VOp.fresh, bxC, bsC, un, most, callsOf, seval, Int.reducePow, ↓reduceIte, Nat.reduceEqDiff, reduceCtorEq]
end
section
variable {P : Program}
theorem rMap_loop (g : Pg P tab) {nodes : Int} {m : Mp} {v u : AV} (hv : IsL 8 RInt v m.starts) (hu : IsL 8 RInt u m.owners) (hl : m.owners.length = m.starts.length) {hh : Heap} {e : TypeId} {ver : Nat} (hg : hh.get 0 = some (.cells [.int .i64 m.epoch, v, u] e ver)) (n : Nat) :
    ∀ (i : Nat) (s : T AV) (k : List Fr) (Q : Ex → T AV → Heap → Prop), i + n = m.starts.length → sg s 2 = .ptr 0 0 → sg s 1 = .int .i64 nodes → sg s 5 = .int .i64 i →
      ((∀ j, i ≤ j → j < m.starts.length → mpAt nodes m j) → ∀ s', Un P k Q (.exit 0) s' hh) → ((¬ ∀ j, i ≤ j → j < m.starts.length → mpAt nodes m j) → ∀ s', sg s' 4 = .bool false → Un P k Q .ret s' hh) → Lp P b90_0 s hh (Un P k Q) := by
  have hb := hv.bound (by decide)
  induction n with
  | zero =>
    intro i s k Q hi h2 h1 h5 hK hR
    refine g.lpe b90_0.eq_1 ?_
    have c1 : ¬ ((i : Int) < (m.starts.length : Int)) := by omega
    simp only [h2, h5, hg, hv.len, c1, RX, VOp.fresh, bxC, bsC, un, most, callsOf, seval, Int.reducePow, ↓reduceIte, Nat.reduceEqDiff, reduceCtorEq]
    exact hK (fun j h1 h2 => by omega) _
  | succ n ih =>
    intro i s k Q hi h2 h1 h5 hK hR
    refine g.lpe b90_0.eq_1 ?_
    have c1 : (i : Int) < (m.starts.length : Int) := by omega
    obtain ⟨r1, _, g1⟩ := getInt hv i (by omega)
    obtain ⟨r2, _, g2⟩ := getInt hu i (by omega)
    have w1 : IntKind.i64.wrap ((i : Int) + 1) = ((i + 1 : Nat) : Int) := by rw [w64 (by omega) (by omega)]; push_cast; rfl
    have w2 : IntKind.i64.wrap ((i : Int) - 1) = (i : Int) - 1 := w64 (by omega) (by omega)
    have no : ¬ mpAt nodes m i → ∀ s', sg s' 4 = .bool false → Un P k Q .ret s' hh := fun h => hR fun hall => h (hall i (Nat.le_refl _) (by omega))
    have step : mpAt nodes m i → ∀ s', sg s' 2 = .ptr 0 0 → sg s' 1 = .int .i64 nodes → sg s' 5 = .int .i64 (i + 1 : Nat) → Lp P b90_0 s' hh (Un P k Q) := fun hok s' a1 a0 a5 => by
      have all : (∀ j, i ≤ j → j < m.starts.length → mpAt nodes m j) ↔ ∀ j, i + 1 ≤ j → j < m.starts.length → mpAt nodes m j := ⟨fun h j h1 h2 => h j (by omega) h2, fun h j h1 h2 => by
        rcases Nat.lt_or_ge i j with h3 | h3
        · exact h j h3 h2
        · rw [show j = i by omega]; exact hok⟩
      exact ih (i + 1) _ k Q (by omega) a1 a0 a5 (fun h => hK (all.2 h)) (fun h => hR (fun h' => h (all.1 h')))
    generalize hsi : m.starts.getD i 0 = a at *
    generalize hoi : m.owners.getD i 0 = o at *
    have mp : mpAt nodes m i ↔ (a < 4294967296 ∧ (i = 0 ∨ m.starts.getD (i - 1) 0 < a) ∧ 0 ≤ o ∧ o < nodes) := by unfold mpAt; rw [hsi, hoi]
    by_cases x1 : 4294967296 ≤ a
    · simp only [h2, h1, h5, hg, hv.len, c1, g1, x1, RX, VOp.fresh, bxC, bsC, un, most, callsOf, seval, Int.reducePow, ↓reduceIte, Nat.reduceEqDiff, reduceCtorEq]
      exact no (fun h => by have := (mp.1 h).1; omega) _ (by simp only [sg_set, Nat.reduceEqDiff, ↓reduceIte])
    by_cases x2 : o < 0
    · simp only [h2, h1, h5, hg, hv.len, c1, g1, g2, x1, x2, RX, VOp.fresh, bxC, bsC, un, most, callsOf, seval, Int.reducePow, ↓reduceIte, Nat.reduceEqDiff, reduceCtorEq]
      exact no (fun h => by have := (mp.1 h).2.2.1; omega) _ (by simp only [sg_set, Nat.reduceEqDiff, ↓reduceIte])
    by_cases x3 : nodes ≤ o
    · simp only [h2, h1, h5, hg, hv.len, c1, g1, g2, x1, x2, x3, RX, VOp.fresh, bxC, bsC, un, most, callsOf, seval, Int.reducePow, ↓reduceIte, Nat.reduceEqDiff, reduceCtorEq]
      exact no (fun h => by have := (mp.1 h).2.2.2; omega) _ (by simp only [sg_set, Nat.reduceEqDiff, ↓reduceIte])
    by_cases hi0 : i = 0
    · have c2 : ¬ ((0 : Int) < (i : Int)) := by omega
      simp only [h2, h1, h5, hg, hv.len, c1, c2, g1, g2, x1, x2, x3, w1, RX, VOp.fresh, bxC, bsC, un, most, callsOf, seval, Int.reducePow, ↓reduceIte, Nat.reduceEqDiff, reduceCtorEq]
      refine step (mp.2 ⟨by omega, .inl hi0, by omega, by omega⟩) _ ?_ ?_ ?_
      · simp only [h2, sg_set, Nat.reduceEqDiff, ↓reduceIte]
      · simp only [h1, sg_set, Nat.reduceEqDiff, ↓reduceIte]
      · simp only [sg_set, Nat.reduceEqDiff, ↓reduceIte]
    · have c2 : (0 : Int) < (i : Int) := by omega
      obtain ⟨r3, _, g3⟩ := getInt hv (i - 1) (by omega)
      have ec : ((i - 1 : Nat) : Int) = (i : Int) - 1 := by omega
      rw [ec] at g3
      by_cases x4 : a ≤ m.starts.getD (i - 1) 0
      · simp only [h2, h1, h5, hg, hv.len, c1, c2, g1, g2, g3, x1, x2, x3, x4, w1, w2, RX, VOp.fresh, bxC, bsC, un, most, callsOf, seval, Int.reducePow, ↓reduceIte, Nat.reduceEqDiff, reduceCtorEq]
        exact no (fun h => by have := (mp.1 h).2.1; omega) _ (by simp only [sg_set, Nat.reduceEqDiff, ↓reduceIte])
      · simp only [h2, h1, h5, hg, hv.len, c1, c2, g1, g2, g3, x1, x2, x3, x4, w1, w2, RX, VOp.fresh, bxC, bsC, un, most, callsOf, seval, Int.reducePow, ↓reduceIte, Nat.reduceEqDiff, reduceCtorEq]
        refine step (mp.2 ⟨by omega, .inr (by omega), by omega, by omega⟩) _ ?_ ?_ ?_
        · simp only [h2, sg_set, Nat.reduceEqDiff, ↓reduceIte]
        · simp only [h1, sg_set, Nat.reduceEqDiff, ↓reduceIte]
        · simp only [sg_set, Nat.reduceEqDiff, ↓reduceIte]
theorem rMap_pu (g : Pg P tab) {nodes : Int} {m : Mp} {v u : AV} (hv : IsL 8 RInt v m.starts) (hu : IsL 8 RInt u m.owners) : Pu P 90 [.agg [.int .i64 m.epoch, v, u], .int .i64 nodes] (IsB (mpOk nodes m)) := by
  refine g.pu (vf := v90) rfl rfl ?_
  by_cases x1 : nodes < 1
  · have no : ¬ mpOk nodes m := fun h => by have := h.1; omega
    simp only [v90, x1, no, RX, VOp.fresh, bxC, bsC, un, most, callsOf, seval, Int.reducePow, ↓reduceIte, Nat.reduceEqDiff, reduceCtorEq]
  by_cases x2 : 8 < nodes
  · have no : ¬ mpOk nodes m := fun h => by have := h.2.1; omega
    simp only [v90, x1, x2, no, RX, VOp.fresh, bxC, bsC, un, most, callsOf, seval, Int.reducePow, ↓reduceIte, Nat.reduceEqDiff, reduceCtorEq]
  by_cases x3 : m.epoch < 1
  · have no : ¬ mpOk nodes m := fun h => by have := h.2.2.1; omega
    simp only [v90, x1, x2, x3, no, RX, VOp.fresh, bxC, bsC, un, most, callsOf, seval, Int.reducePow, ↓reduceIte, Nat.reduceEqDiff, reduceCtorEq]
  by_cases x4 : 65535 < m.epoch
  · have no : ¬ mpOk nodes m := fun h => by have := h.2.2.2.1; omega
    simp only [v90, x1, x2, x3, x4, no, RX, VOp.fresh, bxC, bsC, un, most, callsOf, seval, Int.reducePow, ↓reduceIte, Nat.reduceEqDiff, reduceCtorEq]
  by_cases x5 : (m.starts.length : Int) < 1
  · have no : ¬ mpOk nodes m := fun h => by have := h.2.2.2.2.1; omega
    simp only [v90, x1, x2, x3, x4, hv.len, x5, no, RX, VOp.fresh, bxC, bsC, un, most, callsOf, seval, Int.reducePow, ↓reduceIte, Nat.reduceEqDiff, reduceCtorEq]
  by_cases x6 : (32 : Int) < (m.starts.length : Int)
  · have no : ¬ mpOk nodes m := fun h => by have := h.2.2.2.2.2.1; omega
    simp only [v90, x1, x2, x3, x4, hv.len, x5, x6, no, RX, VOp.fresh, bxC, bsC, un, most, callsOf, seval, Int.reducePow, ↓reduceIte, Nat.reduceEqDiff, reduceCtorEq]
  by_cases x7 : (m.owners.length : Int) = (m.starts.length : Int)
  · obtain ⟨r1, _, g1⟩ := getInt hv 0 (by omega)
    simp only [Int.natCast_zero, Int.ofNat_zero, Int.ofNat_eq_natCast] at g1
    by_cases x8 : m.starts.getD 0 0 = 0
    · simp only [v90, x1, x2, x3, x4, hv.len, hu.len, x5, x6, x7, g1, x8, RX, VOp.fresh, bxC, bsC, un, most, callsOf, seval, Int.reducePow, ↓reduceIte, Nat.reduceEqDiff, reduceCtorEq]
      refine rMap_loop g hv hu (nodes := nodes) (by omega) (by rw [Heap.get_mk, if_pos rfl]) m.starts.length 0 _ _ _ (by omega) ?_ ?_ ?_ ?_ ?_
      · simp only [sg_set, Nat.reduceEqDiff, ↓reduceIte]
      · simp only [sg_set, Nat.reduceEqDiff, ↓reduceIte]
      · simp only [sg_set, Nat.reduceEqDiff, ↓reduceIte]
        rfl
      · intro hall s'
        simp only [RX, VOp.fresh, bxC, bsC, un, most, callsOf, seval, Int.reducePow, ↓reduceIte, Nat.reduceEqDiff, reduceCtorEq]
        exact ⟨by omega, by omega, by omega, by omega, by omega, by omega, by omega, x8, fun i hi => hall i (by omega) hi⟩
      · intro hn s' h4
        simp only [h4, RX, VOp.fresh, bxC, bsC, un, most, callsOf, seval, Int.reducePow, ↓reduceIte, Nat.reduceEqDiff, reduceCtorEq]
        exact fun h => hn fun j _ hj => h.2.2.2.2.2.2.2.2 j hj
    · have no : ¬ mpOk nodes m := fun h => x8 h.2.2.2.2.2.2.2.1
      simp only [v90, x1, x2, x3, x4, hv.len, hu.len, x5, x6, x7, g1, x8, no, RX, VOp.fresh, bxC, bsC, un, most, callsOf, seval, Int.reducePow, ↓reduceIte, Nat.reduceEqDiff, reduceCtorEq]
  · have no : ¬ mpOk nodes m := fun h => by have := h.2.2.2.2.2.2.1; omega
    simp only [v90, x1, x2, x3, x4, hv.len, hu.len, x5, x6, x7, no, RX, VOp.fresh, bxC, bsC, un, most, callsOf, seval, Int.reducePow, ↓reduceIte, Nat.reduceEqDiff, reduceCtorEq]
def opIdR (o : Op) : Int := if o.kind = 0 then o.f.id else if o.kind = 1 then o.id else 0
theorem rId_pu (g : Pg P tab) {o : Op} {c : List AV} (hc : ROp o c) : Pu P 110 [.agg c] (fun x => x = .int .i64 (opIdR o)) := by
  obtain ⟨v, a, u, rfl, _⟩ := hc
  refine g.pu (vf := v110) rfl rfl ?_
  by_cases k0 : o.kind = 0
  · simp only [v110, k0, opIdR, RX, VOp.fresh, bxC, bsC, un, most, callsOf, seval, Int.reducePow, ↓reduceIte, Nat.reduceEqDiff, reduceCtorEq]
  · by_cases k1 : o.kind = 1
    · simp only [v110, k1, opIdR, RX, VOp.fresh, bxC, bsC, un, most, callsOf, seval, Int.reducePow, ↓reduceIte, Nat.reduceEqDiff, reduceCtorEq]
    · simp only [v110, k0, k1, opIdR, RX, VOp.fresh, bxC, bsC, un, most, callsOf, seval, Int.reducePow, ↓reduceIte, Nat.reduceEqDiff, reduceCtorEq]
theorem rOp_pu (g : Pg P tab) {o : Op} {c : List AV} (hc : ROp o c) : Pu P 109 [.agg c] (IsB (opOk 8 o)) := by
  obtain ⟨v, a, u, rfl, _, _, _, hv, _, _, ha, hu⟩ := hc
  refine g.pu (vf := v109) rfl rfl ?_
  have t1 : AV.tolds [.agg [.int .i64 o.f.id, .int .i64 o.f.shape, v]] = true := by simp [AV.tolds, AV.told, hv.told tRing]
  have t2 : AV.tolds [.agg [.int .i64 o.m.epoch, a, u]] = true := by simp [AV.tolds, AV.told, ha.told tInt, hu.told tInt]
  have t3 : AV.tolds [.agg [.int .i64 o.m.epoch, a, u], .int .i64 8] = true := by simp [AV.tolds, AV.told, ha.told tInt, hu.told tInt]
  by_cases k0 : o.kind = 0
  · simp only [v109, k0, RX, VOp.fresh, bxC, bsC, un, most, callsOf, seval, Int.reducePow, ↓reduceIte, Nat.reduceEqDiff, reduceCtorEq]
    refine (rShape_pu g hv).go t1 ?_
    rintro x ⟨b, rfl, hb⟩
    cases b
    · simp only [RX, VOp.fresh, bxC, bsC, un, most, callsOf, seval, Int.reducePow, ↓reduceIte, Nat.reduceEqDiff, reduceCtorEq]
      rintro (⟨_, h, _⟩ | ⟨k, _⟩ | ⟨k, _⟩)
      · have := hb.2 h; cases this
      · omega
      · omega
    · by_cases x1 : o.id = 0
      · simp only [x1, RX, VOp.fresh, bxC, bsC, un, most, callsOf, seval, Int.reducePow, ↓reduceIte, Nat.reduceEqDiff, reduceCtorEq]
        refine (rZeroMap_pu g ha hu).go t2 ?_
        rintro x ⟨b, rfl, hb2⟩
        simp only [RX, VOp.fresh, bxC, bsC, un, most, callsOf, seval, Int.reducePow, ↓reduceIte, Nat.reduceEqDiff, reduceCtorEq]
        rw [hb2]
        exact ⟨fun h => .inl ⟨k0, hb.1 rfl, x1, h⟩, fun h => by rcases h with ⟨_, _, _, h⟩ | ⟨k, _⟩ | ⟨k, _⟩ <;> first | exact h | omega⟩
      · simp only [x1, RX, VOp.fresh, bxC, bsC, un, most, callsOf, seval, Int.reducePow, ↓reduceIte, Nat.reduceEqDiff, reduceCtorEq]
        rintro (⟨_, _, h, _⟩ | ⟨k, _⟩ | ⟨k, _⟩)
        · exact x1 h
        · omega
        · omega
  · by_cases k1 : o.kind = 1
    · have only : opOk 8 o → 1 ≤ o.id ∧ o.id ≤ 65535 ∧ ftZero o.f ∧ mpZero o.m := fun h => by rcases h with ⟨k, _⟩ | ⟨_, h⟩ | ⟨k, _⟩ <;> first | exact h | omega
      by_cases x1 : 1 ≤ o.id
      · by_cases x2 : o.id ≤ 65535
        · simp only [v109, k1, x1, x2, RX, VOp.fresh, bxC, bsC, un, most, callsOf, seval, Int.reducePow, ↓reduceIte, Nat.reduceEqDiff, reduceCtorEq]
          refine (rZeroFeat_pu g hv).go t1 ?_
          rintro x ⟨b, rfl, hb⟩
          cases b
          · simp only [RX, VOp.fresh, bxC, bsC, un, most, callsOf, seval, Int.reducePow, ↓reduceIte, Nat.reduceEqDiff, reduceCtorEq]
            intro h
            have := hb.2 (only h).2.2.1
            cases this
          · simp only [RX, VOp.fresh, bxC, bsC, un, most, callsOf, seval, Int.reducePow, ↓reduceIte, Nat.reduceEqDiff, reduceCtorEq]
            refine (rZeroMap_pu g ha hu).go t2 ?_
            rintro x ⟨b, rfl, hb2⟩
            simp only [RX, VOp.fresh, bxC, bsC, un, most, callsOf, seval, Int.reducePow, ↓reduceIte, Nat.reduceEqDiff, reduceCtorEq]
            rw [hb2]
            exact ⟨fun h => .inr (.inl ⟨k1, x1, x2, hb.1 rfl, h⟩), fun h => (only h).2.2.2⟩
        · simp only [v109, k1, x1, x2, RX, VOp.fresh, bxC, bsC, un, most, callsOf, seval, Int.reducePow, ↓reduceIte, Nat.reduceEqDiff, reduceCtorEq]
          exact fun h => x2 (only h).2.1
      · simp only [v109, k1, x1, RX, VOp.fresh, bxC, bsC, un, most, callsOf, seval, Int.reducePow, ↓reduceIte, Nat.reduceEqDiff, reduceCtorEq]
        exact fun h => x1 (only h).1
    · by_cases k2 : o.kind = 2
      · have only : opOk 8 o → mpOk 8 o.m ∧ o.id = 0 ∧ ftZero o.f := fun h => by rcases h with ⟨k, _⟩ | ⟨k, _⟩ | ⟨_, h⟩ <;> first | exact h | omega
        simp only [v109, k2, RX, VOp.fresh, bxC, bsC, un, most, callsOf, seval, Int.reducePow, ↓reduceIte, Nat.reduceEqDiff, reduceCtorEq]
        refine (rMap_pu g (nodes := 8) ha hu).go t3 ?_
        rintro x ⟨b, rfl, hb⟩
        cases b
        · simp only [RX, VOp.fresh, bxC, bsC, un, most, callsOf, seval, Int.reducePow, ↓reduceIte, Nat.reduceEqDiff, reduceCtorEq]
          intro h
          have := hb.2 (only h).1
          cases this
        · simp only [RX, VOp.fresh, bxC, bsC, un, most, callsOf, seval, Int.reducePow, ↓reduceIte, Nat.reduceEqDiff, reduceCtorEq]
          refine (rZeroFeat_pu g hv).go t1 ?_
          rintro x ⟨b, rfl, hb2⟩
          cases b
          · simp only [RX, VOp.fresh, bxC, bsC, un, most, callsOf, seval, Int.reducePow, ↓reduceIte, Nat.reduceEqDiff, reduceCtorEq]
            intro h
            have := hb2.2 (only h).2.2
            cases this
          · by_cases x1 : o.id = 0
            · simp only [x1, RX, VOp.fresh, bxC, bsC, un, most, callsOf, seval, Int.reducePow, ↓reduceIte, Nat.reduceEqDiff, reduceCtorEq]
              exact .inr (.inr ⟨k2, hb.1 rfl, x1, hb2.1 rfl⟩)
            · simp only [x1, RX, VOp.fresh, bxC, bsC, un, most, callsOf, seval, Int.reducePow, ↓reduceIte, Nat.reduceEqDiff, reduceCtorEq]
              exact fun h => x1 (only h).2.1
      · simp only [v109, k0, k1, k2, RX, VOp.fresh, bxC, bsC, un, most, callsOf, seval, Int.reducePow, ↓reduceIte, Nat.reduceEqDiff, reduceCtorEq]
        rintro (⟨k, _⟩ | ⟨k, _⟩ | ⟨k, _⟩)
        · exact k0 k
        · exact k1 k
        · exact k2 k
end
def idAns : List AV → AV
  | [.agg (.int _ k :: .int _ f :: _ :: _ :: .int _ i :: _)] => .int .i64 (if k = 0 then f else if k = 1 then i else 0)
  | _ => .undef
def cId (_ : Nat) (args : List AV) (h : Heap) : AV × Heap := (idAns args, h)
section
variable {P : Program}
theorem rOps_in (g : Pg P tab) {l : List Op} {v : AV} (hv : IsL 112 ROp v l) {i : Nat} (hi : i < l.length) (n : Nat) :
    ∀ (j : Nat) (s : T AV) (hh : Heap) (k : List Fr) (Q : Ex → T AV → Heap → Prop), j + n = i → sg s 0 = v → sg s 3 = .int .i64 i → sg s 4 = .int .i64 j →
      ((∀ x, j ≤ x → x < i → ¬ (0 < opIdR (l.getD i op0) ∧ opIdR (l.getD x op0) = opIdR (l.getD i op0))) → ∀ s', sg s' 0 = v → sg s' 3 = .int .i64 i → Un P k Q (.exit 2) s' hh) → ((¬ ∀ x, j ≤ x → x < i → ¬ (0 < opIdR (l.getD i op0) ∧ opIdR (l.getD x op0) = opIdR (l.getD i op0))) → ∀ s', sg s' 2 = .bool false → Un P k Q .ret s' hh) → Lp P b94_0 s hh (Un P k Q) := by
  have hb := hv.bound (by decide)
  induction n with
  | zero =>
    intro j s hh k Q hj h0 h3 h4 hK hR
    refine g.lpe b94_0.eq_1 ?_
    have c1 : ¬ ((j : Int) < (i : Int)) := by omega
    simp only [h3, h4, c1, RX, VOp.fresh, bxC, bsC, un, most, callsOf, seval, Int.reducePow, ↓reduceIte, Nat.reduceEqDiff, reduceCtorEq]
    exact hK (fun x h1 h2 => by omega) _ (by simp only [h0, sg_set, Nat.reduceEqDiff, ↓reduceIte]) (by simp only [h3, sg_set, Nat.reduceEqDiff, ↓reduceIte])
  | succ n ih =>
    intro j s hh k Q hj h0 h3 h4 hK hR
    refine g.lpe b94_0.eq_1 ?_
    have c1 : (j : Int) < (i : Int) := by omega
    have w1 : IntKind.i64.wrap ((j : Int) + 1) = ((j + 1 : Nat) : Int) := by rw [w64 (by omega) (by omega)]; push_cast; rfl
    obtain ⟨ci, ri, hci, _, _, gi⟩ := getOp hv i hi
    obtain ⟨cj, rj, hcj, _, _, gj⟩ := getOp hv j (by omega)
    have oi : ∀ h, OK P 110 [.agg ci] h (.int .i64 (opIdR (l.getD i op0))) h := fun h => (rId_pu g hci).exact (by simp [AV.tolds, AV.told, tOp _ _ hci])
    have oj : ∀ h, OK P 110 [.agg cj] h (.int .i64 (opIdR (l.getD j op0))) h := fun h => (rId_pu g hcj).exact (by simp [AV.tolds, AV.told, tOp _ _ hcj])
    obtain ⟨v1, a1, u1, rfl, _⟩ := hci
    obtain ⟨v2, a2, u2, rfl, _⟩ := hcj
    have ei : idAns [.agg [.int .i64 (l.getD i op0).kind, .int .i64 (l.getD i op0).f.id, .int .i64 (l.getD i op0).f.shape, v1, .int .i64 (l.getD i op0).id, .int .i64 (l.getD i op0).m.epoch, a1, u1]] = .int .i64 (opIdR (l.getD i op0)) := rfl
    have ej : idAns [.agg [.int .i64 (l.getD j op0).kind, .int .i64 (l.getD j op0).f.id, .int .i64 (l.getD j op0).f.shape, v2, .int .i64 (l.getD j op0).id, .int .i64 (l.getD j op0).m.epoch, a2, u2]] = .int .i64 (opIdR (l.getD j op0)) := rfl
    generalize opIdR (l.getD i op0) = x at *
    generalize hy : opIdR (l.getD j op0) = y at *
    have step : ¬ (0 < x ∧ y = x) → ∀ s', sg s' 0 = v → sg s' 3 = .int .i64 i → sg s' 4 = .int .i64 (j + 1 : Nat) → Lp P b94_0 s' hh (Un P k Q) := fun hok s' q0 q3 q4 => by
      have all : (∀ z, j ≤ z → z < i → ¬ (0 < x ∧ opIdR (l.getD z op0) = x)) ↔ ∀ z, j + 1 ≤ z → z < i → ¬ (0 < x ∧ opIdR (l.getD z op0) = x) := ⟨fun h z h1 h2 => h z (by omega) h2, fun h z h1 h2 => by
        rcases Nat.lt_or_ge j z with h3 | h3
        · exact h z h3 h2
        · rw [show z = j by omega, hy]; exact hok⟩
      exact ih (j + 1) _ _ k Q (by omega) q0 q3 q4 (fun h => hK (all.2 h)) (fun h => hR (fun h' => h (all.1 h')))
    simp only [h0, h3, h4, c1, RX, VOp.fresh, bxC, bsC, un, most, callsOf, seval, Int.reducePow, ↓reduceIte, Nat.reduceEqDiff, reduceCtorEq]
    refine EvD.same cId rfl ?_
    by_cases x1 : 0 < x
    · by_cases x2 : y = x
      · have oj' := oj
        rw [x2] at oj'
        simp only [h0, h3, h4, gi, gj, cId, ei, ej, oi, oj', x1, x2, RX, VOp.fresh, bxC, bsC, un, most, callsOf, seval, Int.reducePow, ↓reduceIte, Nat.reduceEqDiff, reduceCtorEq]
        refine hR (fun h => ?_) _ (by simp only [sg_set, Nat.reduceEqDiff, ↓reduceIte])
        have := h j (Nat.le_refl _) (by omega)
        rw [hy] at this
        exact this ⟨x1, x2⟩
      · simp only [h0, h3, h4, gi, gj, cId, ei, ej, oi, oj, x1, x2, w1, RX, VOp.fresh, bxC, bsC, un, most, callsOf, seval, Int.reducePow, ↓reduceIte, Nat.reduceEqDiff, reduceCtorEq]
        refine step (fun h => x2 h.2) _ ?_ ?_ ?_
        · simp only [h0, sg_set, Nat.reduceEqDiff, ↓reduceIte]
        · simp only [h3, sg_set, Nat.reduceEqDiff, ↓reduceIte]
        · simp only [sg_set, Nat.reduceEqDiff, ↓reduceIte]
    · simp only [h0, h3, h4, gi, gj, cId, ei, ej, oi, oj, x1, w1, RX, VOp.fresh, bxC, bsC, un, most, callsOf, seval, Int.reducePow, ↓reduceIte, Nat.reduceEqDiff, reduceCtorEq]
      refine step (fun h => x1 h.1) _ ?_ ?_ ?_
      · simp only [h0, sg_set, Nat.reduceEqDiff, ↓reduceIte]
      · simp only [h3, sg_set, Nat.reduceEqDiff, ↓reduceIte]
      · simp only [sg_set, Nat.reduceEqDiff, ↓reduceIte]
def rOpsAt (l : List Op) (i : Nat) : Prop := opOk 8 (l.getD i op0) ∧ ((l.getD i op0).kind = 2 → i = 0) ∧ ∀ x, x < i → ¬ (0 < opIdR (l.getD i op0) ∧ opIdR (l.getD x op0) = opIdR (l.getD i op0))
theorem rOps_loop (g : Pg P tab) {l : List Op} {v : AV} (hv : IsL 112 ROp v l) (n : Nat) :
    ∀ (i : Nat) (s : T AV) (hh : Heap) (k : List Fr) (Q : Ex → T AV → Heap → Prop), i + n = l.length → sg s 0 = v → sg s 3 = .int .i64 i →
      ((∀ x, i ≤ x → x < l.length → rOpsAt l x) → ∀ s', Un P k Q (.exit 0) s' hh) → ((¬ ∀ x, i ≤ x → x < l.length → rOpsAt l x) → ∀ s', sg s' 2 = .bool false → Un P k Q .ret s' hh) → Lp P b94_1 s hh (Un P k Q) := by
  have hb := hv.bound (by decide)
  induction n with
  | zero =>
    intro i s hh k Q hi h0 h3 hK hR
    refine g.lpe b94_1.eq_1 ?_
    have c1 : ¬ ((i : Int) < (l.length : Int)) := by omega
    simp only [h0, h3, hv.len, c1, RX, VOp.fresh, bxC, bsC, un, most, callsOf, seval, Int.reducePow, ↓reduceIte, Nat.reduceEqDiff, reduceCtorEq]
    exact hK (fun x h1 h2 => by omega) _
  | succ n ih =>
    intro i s hh k Q hi h0 h3 hK hR
    refine g.lpe b94_1.eq_1 ?_
    have c1 : (i : Int) < (l.length : Int) := by omega
    have w1 : IntKind.i64.wrap ((i : Int) + 1) = ((i + 1 : Nat) : Int) := by rw [w64 (by omega) (by omega)]; push_cast; rfl
    obtain ⟨ci, ri, hci, _, _, gi⟩ := getOp hv i (by omega)
    have pi := rOp_pu g hci
    have ti : AV.tolds [.agg ci] = true := by simp [AV.tolds, AV.told, tOp _ _ hci]
    obtain ⟨v1, a1, u1, rfl, _⟩ := hci
    have no : ¬ rOpsAt l i → ∀ s', sg s' 2 = .bool false → Un P k Q .ret s' hh := fun h => hR fun hall => h (hall i (Nat.le_refl _) (by omega))
    simp only [h0, h3, hv.len, c1, gi, RX, VOp.fresh, bxC, bsC, un, most, callsOf, seval, Int.reducePow, ↓reduceIte, Nat.reduceEqDiff, reduceCtorEq]
    refine pi.go ti ?_
    rintro x ⟨b, rfl, hbb⟩
    have inner : opOk 8 (l.getD i op0) → ((l.getD i op0).kind = 2 → i = 0) → ∀ s', sg s' 0 = v → sg s' 3 = .int .i64 i → sg s' 4 = .int .i64 0 → Lp P b94_0 s' hh (Un P (.blk 2 :: .blk 1 :: .seq (.ops [⟨some 17, none, .mov (.t 3)⟩, ⟨some 18, none, .bin .add (.t 17) (.c (.int .i64 1))⟩, ⟨some 3, none, .mov (.t 18)⟩]) :: .lp b94_1 :: k) Q) := by
      intro q1 q2 s' a0 a3 a4
      refine rOps_in g hv (i := i) (by omega) i 0 _ _ _ _ (by omega) a0 a3 a4 ?_ ?_
      · intro hall s'' b0 b3
        simp only [b0, b3, w1, RX, VOp.fresh, bxC, bsC, un, most, callsOf, seval, Int.reducePow, ↓reduceIte, Nat.reduceEqDiff, reduceCtorEq]
        have hok : rOpsAt l i := ⟨q1, q2, fun x hx => hall x (by omega) hx⟩
        have all : (∀ x, i ≤ x → x < l.length → rOpsAt l x) ↔ ∀ x, i + 1 ≤ x → x < l.length → rOpsAt l x := ⟨fun h x h1 h2 => h x (by omega) h2, fun h x h1 h2 => by
          rcases Nat.lt_or_ge i x with h3 | h3
          · exact h x h3 h2
          · rw [show x = i by omega]; exact hok⟩
        refine ih (i + 1) _ _ k Q (by omega) ?_ ?_ (fun h => hK (all.2 h)) (fun h => hR (fun h' => h (all.1 h')))
        · simp only [b0, sg_set, Nat.reduceEqDiff, ↓reduceIte]
        · simp only [sg_set, Nat.reduceEqDiff, ↓reduceIte]
      · intro hn s'' h2
        simp only [RX, VOp.fresh, bxC, bsC, un, most, callsOf, seval, Int.reducePow, ↓reduceIte, Nat.reduceEqDiff, reduceCtorEq]
        exact no (fun h => hn fun x _ hx => h.2.2 x hx) _ h2
    cases b
    · simp only [RX, VOp.fresh, bxC, bsC, un, most, callsOf, seval, Int.reducePow, ↓reduceIte, Nat.reduceEqDiff, reduceCtorEq]
      exact no (fun h => by have := hbb.2 h.1; cases this) _ (by simp only [sg_set, Nat.reduceEqDiff, ↓reduceIte])
    · by_cases k2 : (l.getD i op0).kind = 2
      · by_cases hi0 : i = 0
        · have c2 : ¬ ((0 : Int) < (i : Int)) := by omega
          simp only [h0, h3, gi, k2, c2, RX, VOp.fresh, bxC, bsC, un, most, callsOf, seval, Int.reducePow, ↓reduceIte, Nat.reduceEqDiff, reduceCtorEq]
          refine inner (hbb.1 rfl) (fun _ => hi0) _ ?_ ?_ ?_
          · simp only [h0, sg_set, Nat.reduceEqDiff, ↓reduceIte]
          · simp only [h3, sg_set, Nat.reduceEqDiff, ↓reduceIte]
          · simp only [sg_set, Nat.reduceEqDiff, ↓reduceIte]
        · have c2 : (0 : Int) < (i : Int) := by omega
          simp only [h0, h3, gi, k2, c2, RX, VOp.fresh, bxC, bsC, un, most, callsOf, seval, Int.reducePow, ↓reduceIte, Nat.reduceEqDiff, reduceCtorEq]
          exact no (fun h => hi0 (h.2.1 k2)) _ (by simp only [sg_set, Nat.reduceEqDiff, ↓reduceIte])
      · simp only [h0, h3, gi, k2, RX, VOp.fresh, bxC, bsC, un, most, callsOf, seval, Int.reducePow, ↓reduceIte, Nat.reduceEqDiff, reduceCtorEq]
        refine inner (hbb.1 rfl) (fun h => absurd h k2) _ ?_ ?_ ?_
        · simp only [h0, sg_set, Nat.reduceEqDiff, ↓reduceIte]
        · simp only [h3, sg_set, Nat.reduceEqDiff, ↓reduceIte]
        · simp only [sg_set, Nat.reduceEqDiff, ↓reduceIte]
theorem opIdR_eq {o : Op} (h : opOk 8 o) : opIdR o = opId o := by
  unfold opIdR opId
  rcases h with ⟨k, _⟩ | ⟨k, _⟩ | ⟨k, _, h, _⟩
  · rw [if_pos k, if_pos k]
  · rw [if_neg (by omega), if_pos k, if_neg (by omega)]
  · rw [if_neg (by omega), if_neg (by omega), if_neg (by omega), h]
theorem rOps_eq (l : List Op) : (1 ≤ l.length ∧ l.length ≤ 32 ∧ ∀ i, i < l.length → rOpsAt l i) ↔ opsOk 8 l := by
  constructor
  · rintro ⟨h1, h2, h3⟩
    refine ⟨h1, h2, fun i hi => ?_⟩
    obtain ⟨a, b, c⟩ := h3 i hi
    refine ⟨a, b, fun h0 j hj => ?_⟩
    have := c j hj
    rw [opIdR_eq a, opIdR_eq (h3 j (by omega)).1] at this
    exact fun e => this ⟨h0, e⟩
  · rintro ⟨h1, h2, h3⟩
    refine ⟨h1, h2, fun i hi => ?_⟩
    obtain ⟨a, b, c⟩ := h3 i hi
    refine ⟨a, b, fun j hj => ?_⟩
    rw [opIdR_eq a, opIdR_eq (h3 j (by omega)).1]
    exact fun e => c e.1 j hj e.2
theorem rOps_pu (g : Pg P tab) {l : List Op} {v : AV} (hv : IsL 112 ROp v l) : Pu P 94 [v] (IsB (opsOk 8 l)) := by
  refine g.pu (vf := v94) rfl rfl ?_
  by_cases x1 : (l.length : Int) < 1
  · have no : ¬ opsOk 8 l := fun h => by have := h.1; omega
    simp only [v94, hv.len, x1, no, RX, VOp.fresh, bxC, bsC, un, most, callsOf, seval, Int.reducePow, ↓reduceIte, Nat.reduceEqDiff, reduceCtorEq]
  by_cases x2 : (32 : Int) < (l.length : Int)
  · have no : ¬ opsOk 8 l := fun h => by have := h.2.1; omega
    simp only [v94, hv.len, x1, x2, no, RX, VOp.fresh, bxC, bsC, un, most, callsOf, seval, Int.reducePow, ↓reduceIte, Nat.reduceEqDiff, reduceCtorEq]
  simp only [v94, hv.len, x1, x2, RX, VOp.fresh, bxC, bsC, un, most, callsOf, seval, Int.reducePow, ↓reduceIte, Nat.reduceEqDiff, reduceCtorEq]
  refine rOps_loop g hv l.length 0 _ _ _ _ (by omega) ?_ ?_ ?_ ?_
  · simp only [sg_set, Nat.reduceEqDiff, ↓reduceIte]
  · simp only [sg_set, Nat.reduceEqDiff, ↓reduceIte]
    rfl
  · intro hall s'
    simp only [RX, VOp.fresh, bxC, bsC, un, most, callsOf, seval, Int.reducePow, ↓reduceIte, Nat.reduceEqDiff, reduceCtorEq]
    exact (rOps_eq l).1 ⟨by omega, by omega, fun i hi => hall i (by omega) hi⟩
  · intro hn s' h2
    simp only [h2, RX, VOp.fresh, bxC, bsC, un, most, callsOf, seval, Int.reducePow, ↓reduceIte, Nat.reduceEqDiff, reduceCtorEq]
    exact fun h => hn fun i _ hi => ((rOps_eq l).2 h).2.2 i hi
end
theorem opsB_len {l : List Op} (hl : l.length ≤ 32) (hs : ∀ o ∈ l, opSmall o) : (opsB l).length ≤ 300000000 := by
  rw [opsB, List.length_append, numB_len]
  have h1 := flatB_len (F := opB) (B := 9000001) (l := l) (fun o ho => opB_len (hs o ho))
  have h2 : l.length * 9000001 ≤ 32 * 9000001 := Nat.mul_le_mul_right _ hl
  omega
theorem opsOk_small {l : List Op} (h : opsOk 8 l) : ∀ o ∈ l, opSmall o := by
  intro o ho
  obtain ⟨i, hi, rfl⟩ := List.mem_iff_getElem.1 ho
  rw [← getD_op hi]
  exact opOk_small (h.2.2 i hi).1
theorem txB_len (a b : Int) : (txB a b).length = 3 := by simp [txB, numB_len]
theorem bitB_len (b : Bool) : (bitB b).length = 1 := by simp [bitB, numB_len]
end Go.Proofs.Ytinonmcnofjeeaa.VM
namespace Go.Proofs.Ytinonmcnofjeeaa.VM
attribute [local irreducible] Af Nx EvO Ev Un Gd Cd EvR EvQ EvC Nc Gc Lp EvM NxM AfM GdM EvMR EvMQ EvMD EvMC Nm Gm
def Plain {α : Type} (R : α → List AV → Prop) (sz : Nat) : Prop := ∀ a c, R a c → c.length = sz ∧ c.all AV.one = true ∧ AV.tolds c = true ∧ AV.bares c = true
theorem Plain.cat {α : Type} {R : α → List AV → Prop} {sz : Nat} (p : Plain R sz) : ∀ {l : List α} {c : List AV}, Cat R l c → c.length = l.length * sz ∧ c.all AV.one = true ∧ AV.tolds c = true ∧ AV.bares c = true
  | _, _, .nil => ⟨by simp, rfl, rfl, rfl⟩
  | _, _, .cons h t => by
    obtain ⟨a1, a2, a3, a4⟩ := p _ _ h
    obtain ⟨b1, b2, b3, b4⟩ := p.cat t
    exact ⟨by rw [List.length_append, a1, b1, List.length_cons, Nat.add_mul]; omega, by rw [List.all_append, a2, b2]; rfl, by rw [Cat.told.tolds_append, a3, b3]; rfl, by rw [bares_app, a4, b4]; rfl⟩
theorem plainInt : Plain RInt 1 := fun a c h => by rw [h.1]; exact ⟨rfl, rfl, rfl, rfl⟩
theorem plainPt : Plain RPt 2 := fun a c h => by rw [h.1]; exact ⟨rfl, rfl, rfl, rfl⟩
/-- what stands is put behind an empty slice of one's own -/
theorem app_copy {α : Type} {R : α → List AV → Prop} {sz bytes : Nat} (p : Plain R sz) {x : AV} {l : List α} (hx : IsL bytes R x l) {h : Heap} {b e0 v0 : Nat} (hg : h.get b = some (.cells [] e0 v0)) (e : TypeId) :
    ∃ v h' t, appendV h sz bytes e (.sl b 0 0 0 sz) x = some (v, h') ∧ h.next ≤ h'.next ∧ (∀ c, c < h.next → c ≠ b → h'.get c = h.get c) ∧ Lv h' (fun c => h.next ≤ c) v t ∧ IsL bytes R t l ∧ v.cells = some [v] ∧ v.one = true := by
  have hbq : Nat.beq sz sz = true := by rw [Nat.beq_eq]
  have z : ∀ x : AV, l = [] → lenV x = some 0 → cellsOf h sz 0 x = some [] → ∃ v h' t, appendV h sz bytes e (.sl b 0 0 0 sz) x = some (v, h') ∧ h.next ≤ h'.next ∧ (∀ c, c < h.next → c ≠ b → h'.get c = h.get c) ∧ Lv h' (fun c => h.next ≤ c) v t ∧ IsL bytes R t l ∧ v.cells = some [v] ∧ v.one = true := by
    intro x hl h1 h2
    subst hl
    refine ⟨.sl b 0 0 0 sz, h.put b (.cells [] e0 (v0 + 1)), .rs [] 0, ?_, Nat.le_refl _, fun c _ hc => by rw [Heap.get_put, if_neg hc], ⟨[], .sl0, rfl, Own.nil, fun b hb => by simp at hb⟩, ⟨by simp, .inr ⟨[], rfl, .nil⟩⟩, rfl, rfl⟩
    simp only [appendV, h1, h2, List.length_nil, Nat.zero_mul, List.all_nil, and_self, if_true, hbq, cond_true, Nat.add_zero, Nat.le_refl, writeAt, hg, lsets]
    rfl
  obtain ⟨hb0, ⟨rfl, hl⟩ | ⟨c, rfl, hc⟩⟩ := hx
  · exact z _ hl rfl rfl
  · obtain ⟨h1, h2, h3, h4⟩ := p.cat hc
    by_cases h0 : l.length = 0
    · have hl : l = [] := List.eq_nil_of_length_eq_zero h0
      have : c = [] := List.eq_nil_of_length_eq_zero (by rw [h1, h0, Nat.zero_mul])
      subst this
      refine z _ hl (by rw [lenV, h0]) ?_
      simp [cellsOf, cut_eq]
    · have hcut : cut c 0 (l.length * sz) = some c := by rw [cut_eq, List.drop_zero, ← h1, List.take_length, if_pos rfl]
      refine ⟨.sl h.next 0 l.length l.length sz, (h.put b .dead).mk' h.next (.cells c e 0), .rs c l.length, ?_, by rw [mk_next, put_next]; omega, fun d hd hne => by rw [Heap.get_mk, if_neg (by omega), Heap.get_put, if_neg hne], ⟨[h.next], ?_, rfl, ?_, fun d hd => by simp at hd; omega⟩, ⟨hb0, .inr ⟨c, rfl, hc⟩⟩, rfl, rfl⟩
      · have hm : l.length * bytes ≤ most2 := by exact Nat.le_trans hb0 (by rw [reach_eq]; decide)
        have h5 : ¬ (l.length ≤ 0) := by omega
        have hc0 : cut ([] : List AV) 0 0 = some [] := rfl
        simp only [appendV, lenV, cellsOf, hcut, hc0, h1, h2, List.nil_append, and_self, if_true, hbq, cond_true, h5, if_false, hm, Nat.le_refl, hg, Nat.zero_mul, Nat.zero_add]
      · exact (Fd.sl (by omega) (by rw [mk_next]; omega) (by rw [Heap.get_mk, if_pos rfl]) (hcut) (Fds.tolds h3)).cast rfl
      · intro d hd
        simp only [List.mem_singleton] at hd
        subst hd
        exact ⟨c, e, 0, by rw [Heap.get_mk, if_pos rfl], h4⟩
section
variable {P : Program}
theorem copyMap_cl (g : Pg P tab) {m : Mp} {c : List AV} (hm : RMp m c) {h : Heap} {Q : AV → Heap → Prop}
    (q : ∀ c' t h', Lvs h' (h.next ≤ ·) c' t → RMp m t → c'.length = 3 → c'.all AV.one = true → Ext h h' → Q (.agg c') h') : Cl P 14 [.agg c] h Q := by
  obtain ⟨a, u, rfl, h1, h2, h3⟩ := hm
  refine g.cl (vf := v14) rfl rfl ?_
  simp only [v14, RX, VOp.fresh, bxC, bsC, un, most, callsOf, seval, Int.reducePow, ↓reduceIte, Nat.reduceEqDiff, reduceCtorEq]
  refine EvMD.lk (fun _ _ h => (.undef, h)) ?_
  have f1 : ¬ h.next = h.next + 1 + 1 + 6 := by omega
  have f2 : ¬ h.next = h.next + 1 + 1 + 2 := by omega
  have f3 : ¬ h.next = h.next + 1 := by omega
  have f4 : ¬ h.next + 1 + 1 + 2 = h.next + 1 + 1 + 6 := by omega
  have f5 : ¬ h.next + 1 + 1 + 6 = h.next + 1 + 1 + 2 := by omega
  have f6 : ¬ h.next + 1 = h.next + 1 + 1 + 6 := by omega
  have f7 : ¬ h.next + 1 = h.next + 1 + 1 + 2 := by omega
  have g0 : ((((h.mk' h.next (.cells [.int .i64 m.epoch, a, u] 26 0)).mk' (h.next + 1) (.cells [.int .i64 0, .nils, .nils] 26 0)).mk' (h.next + 1 + 1 + 2) .dead).mk' (h.next + 1 + 1 + 6) .dead).get h.next = some (.cells [.int .i64 m.epoch, a, u] 26 0) := by
    simp only [Heap.get_mk, f1, f2, f3, if_false, if_true]
  have g1 : ((((h.mk' h.next (.cells [.int .i64 m.epoch, a, u] 26 0)).mk' (h.next + 1) (.cells [.int .i64 0, .nils, .nils] 26 0)).mk' (h.next + 1 + 1 + 2) .dead).mk' (h.next + 1 + 1 + 6) .dead).get (h.next + 1) = some (.cells [.int .i64 0, .nils, .nils] 26 0) := by
    simp only [Heap.get_mk, f6, f7, if_false, if_true]
  have n0 : ((((h.mk' h.next (.cells [.int .i64 m.epoch, a, u] 26 0)).mk' (h.next + 1) (.cells [.int .i64 0, .nils, .nils] 26 0)).mk' (h.next + 1 + 1 + 2) .dead).mk' (h.next + 1 + 1 + 6) .dead).next = h.next + 9 := by
    simp only [mk_next]; omega
  have x0 : Ext h ((((h.mk' h.next (.cells [.int .i64 m.epoch, a, u] 26 0)).mk' (h.next + 1) (.cells [.int .i64 0, .nils, .nils] 26 0)).mk' (h.next + 1 + 1 + 2) .dead).mk' (h.next + 1 + 1 + 6) .dead) := ⟨by omega, fun b hb => by
    rw [Heap.get_mk, if_neg (by omega), Heap.get_mk, if_neg (by omega), Heap.get_mk, if_neg (by omega), Heap.get_mk, if_neg (by omega)]⟩
  simp only [RW, RX, VOp.fresh, bxC, bsC, un, most, callsOf, seval, Int.reducePow, ↓reduceIte, Nat.reduceEqDiff, reduceCtorEq]
  generalize (((h.mk' h.next (.cells [.int .i64 m.epoch, a, u] 26 0)).mk' (h.next + 1) (.cells [.int .i64 0, .nils, .nils] 26 0)).mk' (h.next + 1 + 1 + 2) .dead).mk' (h.next + 1 + 1 + 6) .dead = H at *
  have gb1 : (H.mk' (h.next + 1 + 1 + 2) (.cells [] 3 0)).get (h.next + 1 + 1 + 2) = some (.cells [] 3 0) := by rw [Heap.get_mk, if_pos rfl]
  have nb1 : (H.mk' (h.next + 1 + 1 + 2) (.cells [] 3 0)).next = h.next + 9 := by rw [mk_next]; omega
  have k1 : ∀ c, c ≠ h.next + 1 + 1 + 2 → (H.mk' (h.next + 1 + 1 + 2) (.cells [] 3 0)).get c = H.get c := fun c hc => by rw [Heap.get_mk, if_neg hc]
  obtain ⟨v1, H1, t1, ap1, nx1, kp1, lv1, is1, ce1, on1⟩ := app_copy plainInt h2 gb1 3
  have g01 := (kp1 h.next (by omega) (by omega)).trans ((k1 h.next (by omega)).trans g0)
  have g11 := (kp1 (h.next + 1) (by omega) (by omega)).trans ((k1 (h.next + 1) (by omega)).trans g1)
  have gb2 : (H1.mk' (h.next + 1 + 1 + 6) (.cells [] 3 0)).get (h.next + 1 + 1 + 6) = some (.cells [] 3 0) := by rw [Heap.get_mk, if_pos rfl]
  have nb2 : (H1.mk' (h.next + 1 + 1 + 6) (.cells [] 3 0)).next = H1.next := by rw [mk_next]; omega
  have k2 : ∀ c, c ≠ h.next + 1 + 1 + 6 → (H1.mk' (h.next + 1 + 1 + 6) (.cells [] 3 0)).get c = H1.get c := fun c hc => by rw [Heap.get_mk, if_neg hc]
  obtain ⟨v2, H2, t2, ap2, nx2, kp2, lv2, is2, ce2, on2⟩ := app_copy plainInt h3 gb2 3
  have g02 := (kp2 h.next (by omega) (by omega)).trans ((k2 h.next (by omega)).trans g01)
  have g12 := (kp2 (h.next + 1) (by omega) (by omega)).trans ((k2 (h.next + 1) (by omega)).trans g11)
  simp only [RW, f1, f2, f3, g0, g01, g02, g11, g12, ap1, ap2, ce1, ce2, on1, on2, RX, VOp.fresh, bxC, bsC, un, most, callsOf, seval, Int.reducePow, ↓reduceIte, Nat.reduceEqDiff, reduceCtorEq]
  have gm : (H.mk' (h.next + 1 + 1 + 2) (.cells [] 3 0)).get h.next = some (.cells [.int .i64 m.epoch, a, u] 26 0) := (k1 h.next (by omega)).trans g0
  have gm1 : (H1.mk' (h.next + 1 + 1 + 6) (.cells [] 3 0)).get h.next = some (.cells [.int .i64 m.epoch, a, u] 26 0) := (k2 h.next (by omega)).trans g01
  refine ⟨⟨⟨?_, ?_, ?_, ?_, trivial⟩, ⟨?_, trivial⟩, ⟨?_, ?_, ?_, trivial⟩, trivial⟩, ?_⟩
  · show Lk _ _ _ _
    simp only [Lk, wanted, f1, f2, gm, g0, RX, VOp.fresh, bxC, bsC, un, most, callsOf, seval, Int.reducePow, ↓reduceIte, Nat.reduceEqDiff, reduceCtorEq]
  · show Lk _ _ _ _
    simp only [Lk, wanted, f1, f2, g01, RX, VOp.fresh, bxC, bsC, un, most, callsOf, seval, Int.reducePow, ↓reduceIte, Nat.reduceEqDiff, reduceCtorEq]
  · show Lk _ _ _ _
    simp only [Lk, wanted, f1, f2, gm1, g01, RX, VOp.fresh, bxC, bsC, un, most, callsOf, seval, Int.reducePow, ↓reduceIte, Nat.reduceEqDiff, reduceCtorEq]
  · show Lk _ _ _ _
    simp only [Lk, wanted, f1, f2, g02, RX, VOp.fresh, bxC, bsC, un, most, callsOf, seval, Int.reducePow, ↓reduceIte, Nat.reduceEqDiff, reduceCtorEq]
  · show Lk _ _ _ _
    simp only [Lk, wanted, f1, f2, g0, RX, VOp.fresh, bxC, bsC, un, most, callsOf, seval, Int.reducePow, ↓reduceIte, Nat.reduceEqDiff, reduceCtorEq]
  · show Lk _ _ _ _
    simp only [Lk, wanted, f1, f2, g0, RX, VOp.fresh, bxC, bsC, un, most, callsOf, seval, Int.reducePow, ↓reduceIte, Nat.reduceEqDiff, reduceCtorEq]
  · show Lk _ _ _ _
    simp only [Lk, wanted, f1, f2, g0, gm, RX, VOp.fresh, bxC, bsC, un, most, callsOf, seval, Int.reducePow, ↓reduceIte, Nat.reduceEqDiff, reduceCtorEq]
  · show Lk _ _ _ _
    simp only [Lk, wanted, f1, f2, g01, RX, VOp.fresh, bxC, bsC, un, most, callsOf, seval, Int.reducePow, ↓reduceIte, Nat.reduceEqDiff, reduceCtorEq]
  have lv1' : Lv H2 (fun c => h.next + 2 ≤ c) v1 t1 := ((lv1.weak (B' := fun c => h.next + 9 ≤ c) fun c hc _ => by omega).frame (by omega) fun c hc hl => (kp2 c (by omega) (by omega)).trans (k2 c (by omega))).weak fun c hc _ => by omega
  have lv2' : Lv H2 (fun c => h.next + 2 ≤ c) v2 t2 := lv2.weak fun c hc _ => by omega
  refine q _ [.int .i64 m.epoch, t1, t2] _ ((Lvs.cons .int (.cons lv1' (.cons lv2' .nil))).put (by omega) _ |>.weak fun c hc _ => by omega) ⟨_, _, rfl, h1, is1, is2⟩ rfl (by simp only [List.all_cons, List.all_nil, one_int, on1, on2, Bool.and_self]) ⟨by rw [put_next]; omega, fun b hb => ?_⟩
  rw [Heap.get_put, if_neg (by omega)]
  exact (kp2 b (by omega) (by omega)).trans ((k2 b (by omega)).trans ((kp1 b (by omega) (by omega)).trans ((k1 b (by omega)).trans (x0.2 b hb))))
end
section
variable {P : Program}
theorem Cat.take {α : Type} {R : α → List AV → Prop} {l : List α} {c d : List AV} {i : Nat} (hi : i < l.length) (h : Cat R (l.take i) c) (h' : R l[i] d) : Cat R (l.take (i + 1)) (c ++ d) := by
  rw [List.take_succ_eq_append_getElem hi]
  have := h.append (Cat.cons h' .nil)
  rwa [List.append_nil] at this
theorem cp_rings (g : Pg P tab) {rs : List (List Pt)} {w : AV} (hw : IsL 24 RRing w rs) {n0 n2 N0 ea va : Nat} {a0 a1 p0 p1 : AV} (hn0 : n0 < N0) (hn2 : n2 < N0) (hne : n0 ≠ n2) {G : Nat → Option Blk} (hG : G n0 = some (.cells [a0, a1, w] ea va)) (n : Nat) :
    ∀ (i : Nat) (tc : List AV) (s : T AV) (h : Heap) (rv : AV) (k : List Fr) (Q : Ex → T AV → Heap → Prop), i + n = rs.length → N0 ≤ h.next → (∃ e ver, h.get n2 = some (.cells [p0, p1, rv] e ver)) → LR h (N0 ≤ ·) rv 1 tc i → Cat RRing (rs.take i) tc →
    (∀ b, b < N0 → b ≠ n2 → h.get b = G b) → sg s 1 = .ptr n0 0 → sg s 3 = .ptr n2 0 → sg s 4 = .int .i64 i →
    (∀ s' h' rv' tc', (∃ e ver, h'.get n2 = some (.cells [p0, p1, rv'] e ver)) → LR h' (N0 ≤ ·) rv' 1 tc' rs.length → Cat RRing rs tc' → (∀ b, b < N0 → b ≠ n2 → h'.get b = G b) → N0 ≤ h'.next → (∀ j, j = 2 ∨ j = 3 → sg s' j = sg s j) → Un P k Q (.exit 0) s' h') → Lp P b44_0 s h (Un P k Q) := by
  have hbd := hw.bound (by decide)
  induction n with
  | zero =>
    intro i tc s h rv k Q hi hh hf r hc hk h1 h3 h4 hQ
    refine g.lpe b44_0.eq_1 ?_
    have g0 := (hk n0 hn0 hne).trans hG
    have c1 : ¬ ((i : Int) < (rs.length : Int)) := by omega
    simp only [h1, h4, g0, hw.len, c1, RX, VOp.fresh, bxC, bsC, un, most, callsOf, seval, Int.reducePow, ↓reduceIte, Nat.reduceEqDiff, reduceCtorEq]
    have hi' : i = rs.length := by omega
    subst hi'
    rw [List.take_length] at hc
    refine hQ _ _ rv _ hf r hc hk hh ?_
    rintro j (rfl | rfl) <;> simp only [sg_set, Nat.reduceEqDiff, ↓reduceIte]
  | succ n ih =>
    intro i tc s h rv k Q hi hh hf r hc hk h1 h3 h4 hQ
    refine g.lpe b44_0.eq_1 ?_
    have g0 := (hk n0 hn0 hne).trans hG
    have c1 : ((i : Int) < (rs.length : Int)) := by omega
    have w1 : IntKind.i64.wrap ((i : Int) + 1) = ((i + 1 : Nat) : Int) := by rw [w64 (by omega) (by omega)]; push_cast; rfl
    obtain ⟨ci, rr, ⟨vi, rfl, hvi⟩, hat⟩ := hw.at zRing i (by omega)
    obtain ⟨ef, vf, hf⟩ := hf
    have hm24 : (i + 1) * 24 ≤ most2 := by have := hw.1; rw [reach_eq] at this; unfold most2; omega
    simp only [h1, h3, h4, g0, hw.len, c1, RX, VOp.fresh, bxC, bsC, un, most, callsOf, seval, Int.reducePow, ↓reduceIte, Nat.reduceEqDiff, reduceCtorEq]
    refine EvD.lk (fun _ _ h => (.undef, h)) ?_
    have gb1 : (h.mk' h.next (.cells [] 48 0)).get h.next = some (.cells [] 48 0) := by rw [Heap.get_mk, if_pos rfl]
    have nb1 : (h.mk' h.next (.cells [] 48 0)).next = h.next + 1 := by rw [mk_next]; omega
    have em1 := Ext.mk (h := h) (.cells [] 48 0)
    obtain ⟨v1, H1, t1, ap1, nx1, kp1, lv1, is1, ce1, on1⟩ := app_copy plainPt hvi gb1 48
    have kk1 : ∀ b, b < h.next → H1.get b = h.get b := fun b hb => (kp1 b (by omega) (by omega)).trans (em1.2 b hb)
    have em2 := Ext.mk (h := H1) (.cells [v1] 49 0)
    have nb2 : (H1.mk' H1.next (.cells [v1] 49 0)).next = H1.next + 1 := by rw [mk_next]; omega
    have r1 : LR H1 (N0 ≤ ·) rv 1 tc i := r.frame (by omega) fun b _ hb => kk1 b hb
    have hlt := r.lt
    have lv2 : Lvs (H1.mk' H1.next (.cells [v1] 49 0)) (fun b => N0 ≤ b ∧ b ∉ blkOf rv) [v1] [t1] := .cons ((lv1.frame em2.1 fun b _ hb => em2.2 b hb).weak fun b hb _ => ⟨by omega, fun hc => by have := hlt b hc; omega⟩) .nil
    obtain ⟨H3, e3, r3, n3, k3⟩ := (r1.frame em2.1 fun b _ hb => em2.2 b hb).push (nb := H1.next) (eb := 49) (vb := 0) (c := [v1]) (by rw [Heap.get_mk, if_pos rfl]) rfl (by simp [on1]) lv2 (by rw [nb2]; omega) (bytes := 24) hm24 49
    rw [nb2] at e3 r3 n3 k3
    have hv := r1.inB
    have kk3 : ∀ b, b < H1.next → b ∉ blkOf rv → H3.get b = H1.get b := fun b hb hn => (k3 b hn (by omega)).trans (em2.2 b hb)
    have hf1 := (kk1 n2 (by omega)).trans hf
    have hf3 := (kk3 n2 (by omega) fun hc => by have := hv n2 hc; omega).trans hf1
    have hfn : ¬ n2 = H1.next := by omega
    have hfm : ¬ n2 = h.next := by omega
    have h0m : ¬ n0 = h.next := by omega
    simp only [h1, h3, h4, g0, hf, hf1, hf3, hfn, hfm, h0m, hat, ap1, e3, ce1, on1, w1, RW, RX, VOp.fresh, bxC, bsC, un, most, callsOf, seval, Int.reducePow, ↓reduceIte, Nat.reduceEqDiff, reduceCtorEq]
    have gm1 := (em1.2 n2 (by omega)).trans hf
    have gm2 := (em2.2 n2 (by omega)).trans hf1
    refine ⟨⟨⟨?_, ?_, ?_, trivial⟩, ⟨?_, trivial⟩, ⟨?_, trivial⟩, trivial⟩, ?_⟩
    · show Lk _ _ _ _
      simp only [Lk, wanted, gm1, hf, hfm, RX, VOp.fresh, bxC, bsC, un, most, callsOf, seval, Int.reducePow, ↓reduceIte, Nat.reduceEqDiff, reduceCtorEq]
    · show Lk _ _ _ _
      simp only [Lk, wanted, hf1, RX, VOp.fresh, bxC, bsC, un, most, callsOf, seval, Int.reducePow, ↓reduceIte, Nat.reduceEqDiff, reduceCtorEq]
    · show Lk _ _ _ _
      simp only [Lk, wanted, gm2, hf1, hfn, RX, VOp.fresh, bxC, bsC, un, most, callsOf, seval, Int.reducePow, ↓reduceIte, Nat.reduceEqDiff, reduceCtorEq]
    · show Lk _ _ _ _
      simp only [Lk, wanted, g0, RX, VOp.fresh, bxC, bsC, un, most, callsOf, seval, Int.reducePow, ↓reduceIte, Nat.reduceEqDiff, reduceCtorEq]
    · show Lk _ _ _ _
      simp only [Lk, wanted, hat, RX, VOp.fresh, bxC, bsC, un, most, callsOf, seval, Int.reducePow, ↓reduceIte, Nat.reduceEqDiff, reduceCtorEq]
    refine ih (i + 1) (tc ++ [t1]) _ _ (.sl (H1.next + 1) 0 (i + 1) (i + 1) 1) k Q (by omega) ?_ ?_ ?_ ?_ ?_ ?_ ?_ ?_ ?_
    · rw [put_next]; omega
    · exact ⟨ef, vf + 1, by rw [Heap.get_put, if_pos rfl]⟩
    · have r6 := (r3.weak (B' := fun b => N0 ≤ b ∧ b ≠ n2) fun b hb _ => ⟨hb, by omega⟩).frame (h' := H3.put n2 (.cells [p0, p1, .sl (H1.next + 1) 0 (i + 1) (i + 1) 1] ef (vf + 1))) (by rw [put_next]; exact Nat.le_refl _) fun b hb _ => by rw [Heap.get_put, if_neg hb.2]
      exact r6.weak (B' := (N0 ≤ ·)) fun b hb _ => hb.1
    · exact hc.take (by omega) ⟨t1, rfl, is1⟩
    · intro b hb hf'
      rw [Heap.get_put, if_neg hf', kk3 b (by omega) (fun hc => by have := hv b hc; omega), kk1 b (by omega), hk b hb hf']
    · simp only [h1, sg_set, Nat.reduceEqDiff, ↓reduceIte]
    · simp only [h3, sg_set, Nat.reduceEqDiff, ↓reduceIte]
    · simp only [sg_set, Nat.reduceEqDiff, ↓reduceIte]
    · intro s' h' rv' tc' q1 q2 q3 q4 q5 q6
      refine hQ s' h' rv' tc' q1 q2 q3 q4 q5 fun j hj => (q6 j hj).trans ?_
      rcases hj with rfl | rfl <;> simp only [sg_set, Nat.reduceEqDiff, ↓reduceIte]
theorem copyFeat_cl (g : Pg P tab) {f : Feat} {c : List AV} (hm : RFeat f c) {h : Heap} {Q : AV → Heap → Prop}
    (q : ∀ c' t h', Lvs h' (h.next ≤ ·) c' t → RFeat f t → c'.length = 3 → c'.all AV.one = true → Ext h h' → Q (.agg c') h') : Cl P 44 [.agg c] h Q := by
  obtain ⟨w, rfl, h1, h2, hw⟩ := hm
  refine g.cl (vf := v44) rfl rfl ?_
  have f1 : ¬ h.next = h.next + 1 + 1 := by omega
  have f2 : ¬ h.next = h.next + 1 := by omega
  simp only [v44, RW, f1, f2, RX, VOp.fresh, bxC, bsC, un, most, callsOf, seval, Int.reducePow, ↓reduceIte, Nat.reduceEqDiff, reduceCtorEq]
  have g0 : ((((h.mk' h.next (.cells [.int .i64 f.id, .int .i64 f.shape, w] 52 0)).mk' (h.next + 1) (.cells [.int .i64 0, .int .i64 0, .nils] 52 0)).mk' (h.next + 1 + 1) (.cells [.int .i64 0, .int .i64 0, .nils] 52 0)).put (h.next + 1 + 1) (.cells [.int .i64 f.id, .int .i64 f.shape, .nils] 52 1)).get h.next = some (.cells [.int .i64 f.id, .int .i64 f.shape, w] 52 0) := by
    rw [Heap.get_put, if_neg (by omega), Heap.get_mk, if_neg (by omega), Heap.get_mk, if_neg (by omega), Heap.get_mk, if_pos rfl]
  have g1 : ((((h.mk' h.next (.cells [.int .i64 f.id, .int .i64 f.shape, w] 52 0)).mk' (h.next + 1) (.cells [.int .i64 0, .int .i64 0, .nils] 52 0)).mk' (h.next + 1 + 1) (.cells [.int .i64 0, .int .i64 0, .nils] 52 0)).put (h.next + 1 + 1) (.cells [.int .i64 f.id, .int .i64 f.shape, .nils] 52 1)).get (h.next + 1) = some (.cells [.int .i64 0, .int .i64 0, .nils] 52 0) := by
    rw [Heap.get_put, if_neg (by omega), Heap.get_mk, if_neg (by omega), Heap.get_mk, if_pos rfl]
  have g2 : ((((h.mk' h.next (.cells [.int .i64 f.id, .int .i64 f.shape, w] 52 0)).mk' (h.next + 1) (.cells [.int .i64 0, .int .i64 0, .nils] 52 0)).mk' (h.next + 1 + 1) (.cells [.int .i64 0, .int .i64 0, .nils] 52 0)).put (h.next + 1 + 1) (.cells [.int .i64 f.id, .int .i64 f.shape, .nils] 52 1)).get (h.next + 1 + 1) = some (.cells [.int .i64 f.id, .int .i64 f.shape, .nils] 52 1) := by
    rw [Heap.get_put, if_pos rfl]
  have n0 : ((((h.mk' h.next (.cells [.int .i64 f.id, .int .i64 f.shape, w] 52 0)).mk' (h.next + 1) (.cells [.int .i64 0, .int .i64 0, .nils] 52 0)).mk' (h.next + 1 + 1) (.cells [.int .i64 0, .int .i64 0, .nils] 52 0)).put (h.next + 1 + 1) (.cells [.int .i64 f.id, .int .i64 f.shape, .nils] 52 1)).next = h.next + 3 := by rw [put_next, mk_next, mk_next, mk_next]; omega
  have x0 : ∀ b, b < h.next → ((((h.mk' h.next (.cells [.int .i64 f.id, .int .i64 f.shape, w] 52 0)).mk' (h.next + 1) (.cells [.int .i64 0, .int .i64 0, .nils] 52 0)).mk' (h.next + 1 + 1) (.cells [.int .i64 0, .int .i64 0, .nils] 52 0)).put (h.next + 1 + 1) (.cells [.int .i64 f.id, .int .i64 f.shape, .nils] 52 1)).get b = h.get b := fun b hb => by
    rw [Heap.get_put, if_neg (by omega), Heap.get_mk, if_neg (by omega), Heap.get_mk, if_neg (by omega), Heap.get_mk, if_neg (by omega)]
  generalize (((h.mk' h.next (.cells [.int .i64 f.id, .int .i64 f.shape, w] 52 0)).mk' (h.next + 1) (.cells [.int .i64 0, .int .i64 0, .nils] 52 0)).mk' (h.next + 1 + 1) (.cells [.int .i64 0, .int .i64 0, .nils] 52 0)).put (h.next + 1 + 1) (.cells [.int .i64 f.id, .int .i64 f.shape, .nils] 52 1) = H at *
  refine cp_rings g hw (n0 := h.next) (n2 := h.next + 1 + 1) (N0 := h.next + 3) (by omega) (by omega) (by omega) (G := H.get) g0 f.rings.length 0 [] _ H .nils _ _ (by omega) (by omega) ⟨_, _, g2⟩ (.nil _ _ _) .nil (fun _ _ _ => rfl) ?_ ?_ ?_ ?_
  · simp only [sg_set, Nat.reduceEqDiff, ↓reduceIte]
  · simp only [sg_set, Nat.reduceEqDiff, ↓reduceIte]
  · simp only [sg_set, Nat.reduceEqDiff, ↓reduceIte]
    rfl
  intro s' h' rv tc ⟨ef, vf, hf⟩ r hc hk hn a
  have a2 := a 2 (by simp)
  have a3 := a 3 (by simp)
  simp only [sg_set, Nat.reduceEqDiff, ↓reduceIte] at a2 a3
  have g1' := (hk (h.next + 1) (by omega) (by omega)).trans g1
  simp only [a2, a3, hf, g1', r.one, RW, RX, VOp.fresh, bxC, bsC, un, most, callsOf, seval, Int.reducePow, ↓reduceIte, Nat.reduceEqDiff, reduceCtorEq]
  refine q _ [.int .i64 f.id, .int .i64 f.shape, cRow tc f.rings.length] _ ((Lvs.cons .int (.cons .int (.cons (r.lv) .nil))).put (by omega) _ |>.weak fun c hc _ => by omega) ⟨_, rfl, h1, h2, row_isL hw.1 hc⟩ rfl ?_ ⟨by rw [put_next]; omega, fun b hb => ?_⟩
  · simp only [List.all_cons, List.all_nil, one_int, r.one, Bool.and_self]
  · rw [Heap.get_put, if_neg (by omega), hk b (by omega) (by omega), x0 b hb]
end
theorem len3 {l : List AV} (h : l.length = 3) : ∃ x y z, l = [x, y, z] := match l, h with | [x, y, z], _ => ⟨x, y, z, rfl⟩
section
variable {P : Program}
theorem cp_ops (g : Pg P tab) {os : List Op} {w : AV} (hw : IsL 112 ROp w os) {N0 : Nat} (n : Nat) :
    ∀ (i : Nat) (tc : List AV) (s : T AV) (h : Heap) (k : List Fr) (Q : Ex → T AV → Heap → Prop), i + n = os.length → N0 ≤ h.next → LR h (N0 ≤ ·) (sg s 3) 8 tc i → Cat ROp (os.take i) tc →
    sg s 0 = w → sg s 4 = .int .i64 i →
    (∀ s' h' tc', LR h' (N0 ≤ ·) (sg s' 3) 8 tc' os.length → Cat ROp os tc' → (∀ b, b < N0 → h'.get b = h.get b) → N0 ≤ h'.next → Un P k Q (.exit 0) s' h') → Lp P b13_0 s h (Un P k Q) := by
  have hbd := hw.bound (by decide)
  induction n with
  | zero =>
    intro i tc s h k Q hi hh r hc h0 h4 hQ
    refine g.lpe b13_0.eq_1 ?_
    have c1 : ¬ ((i : Int) < (os.length : Int)) := by omega
    simp only [h0, h4, hw.len, c1, RX, VOp.fresh, bxC, bsC, un, most, callsOf, seval, Int.reducePow, ↓reduceIte, Nat.reduceEqDiff, reduceCtorEq]
    have hi' : i = os.length := by omega
    subst hi'
    rw [List.take_length] at hc
    refine hQ _ _ _ ?_ hc (fun _ _ => rfl) hh
    simp only [sg_set, Nat.reduceEqDiff, ↓reduceIte]
    exact r
  | succ n ih =>
    intro i tc s h k Q hi hh r hc h0 h4 hQ
    refine g.lpe b13_0.eq_1 ?_
    have c1 : ((i : Int) < (os.length : Int)) := by omega
    have w1 : IntKind.i64.wrap ((i : Int) + 1) = ((i + 1 : Nat) : Int) := by rw [w64 (by omega) (by omega)]; push_cast; rfl
    have hm112 : (i + 1) * 112 ≤ most2 := by have := hw.1; rw [reach_eq] at this; unfold most2; omega
    obtain ⟨ci, rr, ⟨va, vb, vc, rfl, i1, i2, i3, i4, i5, i6, i7, i8⟩, hat⟩ := hw.at zOp i (by omega)
    obtain ⟨_, H1, ok1, c1', t1, rfl, lv1, is1, ln1, on1, e1⟩ := copyFeat_cl g (f := os[i].f) (c := [.int .i64 os[i].f.id, .int .i64 os[i].f.shape, va]) ⟨_, rfl, i2, i3, i4⟩ (h := h) (Q := fun v h' => ∃ c' t, v = .agg c' ∧ Lvs h' (h.next ≤ ·) c' t ∧ RFeat os[i].f t ∧ c'.length = 3 ∧ c'.all AV.one = true ∧ Ext h h')
      (fun c' t h' q1 q2 q3 q4 q5 => ⟨c', t, rfl, q1, q2, q3, q4, q5⟩)
    obtain ⟨_, H2, ok2, c2', t2, rfl, lv2, is2, ln2, on2, e2⟩ := copyMap_cl g (m := os[i].m) (c := [.int .i64 os[i].m.epoch, vb, vc]) ⟨_, _, rfl, i6, i7, i8⟩ (h := H1) (Q := fun v h' => ∃ c' t, v = .agg c' ∧ Lvs h' (H1.next ≤ ·) c' t ∧ RMp os[i].m t ∧ c'.length = 3 ∧ c'.all AV.one = true ∧ Ext H1 h')
      (fun c' t h' q1 q2 q3 q4 q5 => ⟨c', t, rfl, q1, q2, q3, q4, q5⟩)
    obtain ⟨x1, x2, x3, rfl⟩ := len3 ln1
    obtain ⟨y1, y2, y3, rfl⟩ := len3 ln2
    have on1' := on1
    have on2' := on2
    simp only [List.all_cons, List.all_nil, Bool.and_true, Bool.and_eq_true] at on1' on2'
    obtain ⟨o1, o2, o3⟩ := on1'
    obtain ⟨o4, o5, o6⟩ := on2'
    have em := Ext.mk (h := H2) (.cells [.int .i64 os[i].kind, x1, x2, x3, .int .i64 os[i].id, y1, y2, y3] 54 0)
    have nb : (H2.mk' H2.next (.cells [.int .i64 os[i].kind, x1, x2, x3, .int .i64 os[i].id, y1, y2, y3] 54 0)).next = H2.next + 1 := by rw [mk_next]; omega
    have xx := (e1.trans e2)
    have hlt := r.lt
    have r2 : LR H2 (N0 ≤ ·) (sg s 3) 8 tc i := r.frame xx.1 fun b _ hb => xx.2 b hb
    have a1 : Lvs (H2.mk' H2.next (.cells [.int .i64 os[i].kind, x1, x2, x3, .int .i64 os[i].id, y1, y2, y3] 54 0)) (fun b => N0 ≤ b ∧ b ∉ blkOf (sg s 3)) [x1, x2, x3] t1 :=
      ((lv1.frame e2.1 fun b _ hb => e2.2 b hb).frame em.1 fun b _ hb => em.2 b hb).weak fun b hb _ => ⟨by omega, fun hc => by have := hlt b hc; omega⟩
    have a2 : Lvs (H2.mk' H2.next (.cells [.int .i64 os[i].kind, x1, x2, x3, .int .i64 os[i].id, y1, y2, y3] 54 0)) (fun b => N0 ≤ b ∧ b ∉ blkOf (sg s 3)) [y1, y2, y3] t2 :=
      (lv2.frame em.1 fun b _ hb => em.2 b hb).weak fun b hb _ => ⟨by have := e1.1; omega, fun hc => by have := hlt b hc; have := e1.1; omega⟩
    have la := Lvs.cons (x := .int .i64 os[i].kind) .int (a1.app (.cons (x := .int .i64 os[i].id) .int a2))
    have e11 := e1.1
    have e21 := e2.1
    obtain ⟨H3, p3, r3, n3, k3⟩ := (r2.frame em.1 fun b _ hb => em.2 b hb).push (nb := H2.next) (eb := 54) (vb := 0) (c := [.int .i64 os[i].kind, x1, x2, x3, .int .i64 os[i].id, y1, y2, y3]) (by rw [Heap.get_mk, if_pos rfl]) rfl (by simp only [List.all_cons, List.all_nil, one_int, o1, o2, o3, o4, o5, o6, Bool.and_self]) la (by rw [nb]; omega) (bytes := 112) hm112 54
    rw [nb] at p3 r3 n3 k3
    have hv := r2.inB
    have kk3 : ∀ b, b < N0 → H3.get b = h.get b := fun b hb => (k3 b (fun hc => by have := hv b hc; omega) (by omega)).trans ((em.2 b (by omega)).trans (xx.2 b (by omega)))
    have ho : ROp os[i] (.int .i64 os[i].kind :: (t1 ++ .int .i64 os[i].id :: t2)) := by
      obtain ⟨z1, rfl, u1, u2, u3⟩ := is1
      obtain ⟨z2, z3, rfl, u4, u5, u6⟩ := is2
      exact ⟨z1, z2, z3, rfl, i1, u1, u2, u3, i5, u4, u5, u6⟩
    simp only [h0, h4, hw.len, c1, RX, VOp.fresh, bxC, bsC, un, most, callsOf, seval, Int.reducePow, ↓reduceIte, Nat.reduceEqDiff, reduceCtorEq]
    refine EvD.lk (fun f _ _ => if f = 44 then (.agg [x1, x2, x3], H1) else (.agg [y1, y2, y3], H2)) ?_
    simp only [h0, h4, hat, ok1, ok2, p3, w1, RW, RX, VOp.fresh, bxC, bsC, un, most, callsOf, seval, Int.reducePow, ↓reduceIte, Nat.reduceEqDiff, reduceCtorEq]
    refine ⟨⟨⟨?_, ?_, trivial⟩, ⟨?_, ?_, trivial⟩, ⟨?_, trivial⟩, trivial⟩, ?_⟩
    · show Lk _ _ _ _
      simp only [Lk, wanted, RX, VOp.fresh, bxC, bsC, un, most, callsOf, seval, Int.reducePow, ↓reduceIte, Nat.reduceEqDiff, reduceCtorEq]
    · show Lk _ _ _ _
      simp only [Lk, wanted, RX, VOp.fresh, bxC, bsC, un, most, callsOf, seval, Int.reducePow, ↓reduceIte, Nat.reduceEqDiff, reduceCtorEq]
    · show Lk _ _ _ _
      simp only [Lk, wanted, RX, VOp.fresh, bxC, bsC, un, most, callsOf, seval, Int.reducePow, ↓reduceIte, Nat.reduceEqDiff, reduceCtorEq]
    · show Lk _ _ _ _
      simp only [Lk, wanted, RX, VOp.fresh, bxC, bsC, un, most, callsOf, seval, Int.reducePow, ↓reduceIte, Nat.reduceEqDiff, reduceCtorEq]
    · show Lk _ _ _ _
      simp only [Lk, wanted, RX, VOp.fresh, bxC, bsC, un, most, callsOf, seval, Int.reducePow, ↓reduceIte, Nat.reduceEqDiff, reduceCtorEq]
    refine ih (i + 1) (tc ++ _) _ H3 k Q (by omega) (by omega) ?_ (hc.take (by omega) ho) ?_ ?_ ?_
    · simp only [sg_set, Nat.reduceEqDiff, ↓reduceIte]
      exact r3
    · simp only [h0, sg_set, Nat.reduceEqDiff, ↓reduceIte]
    · simp only [sg_set, Nat.reduceEqDiff, ↓reduceIte]
    · intro s' h' tc' q1 q2 q3 q4
      exact hQ s' h' tc' q1 q2 (fun b hb => (q3 b hb).trans (kk3 b hb)) q4
theorem copyOps_cl (g : Pg P tab) {os : List Op} {w : AV} (hw : IsL 112 ROp w os) {h : Heap} {Q : AV → Heap → Prop}
    (q : ∀ v t h', Lv h' (h.next ≤ ·) v t → IsL 112 ROp t os → v.cells = some [v] → v.one = true → Ext h h' → Q v h') : Cl P 13 [w] h Q := by
  refine g.cl (vf := v13) rfl rfl ?_
  simp only [v13, RX, VOp.fresh, bxC, bsC, un, most, callsOf, seval, Int.reducePow, ↓reduceIte, Nat.reduceEqDiff, reduceCtorEq]
  refine cp_ops g hw (N0 := h.next) os.length 0 [] _ h _ _ (by omega) (Nat.le_refl _) ?_ .nil ?_ ?_ ?_
  · simp only [sg_set, Nat.reduceEqDiff, ↓reduceIte]
    exact .nil _ _ _
  · simp only [sg_set, Nat.reduceEqDiff, ↓reduceIte]
  · simp only [sg_set, Nat.reduceEqDiff, ↓reduceIte]
    rfl
  intro s' h' tc r hc hk hn
  simp only [RX, VOp.fresh, bxC, bsC, un, most, callsOf, seval, Int.reducePow, ↓reduceIte, Nat.reduceEqDiff, reduceCtorEq]
  exact q _ (cRow tc os.length) _ r.lv (row_isL hw.1 hc) r.cells r.one ⟨hn, hk⟩
end
end Go.Proofs.Ytinonmcnofjeeaa.VM
namespace Go.Proofs.Ytinonmcnofjeeaa.VM
attribute [local irreducible] Af Nx EvO Ev Un Gd Cd EvR EvQ EvC Nc Gc Lp EvM NxM AfM GdM EvMR EvMQ EvMD EvMC Nm Gm
section
variable {P : Program}
theorem sInts_loop (g : Pg P tab) {l : List Int} {a b : AV} (ha : IsL 8 RInt a l) (hb : IsL 8 RInt b l) (n : Nat) :
    ∀ (i : Nat) (s : T AV) (hh : Heap) (k : List Fr) (Q : Ex → T AV → Heap → Prop), i + n = l.length → sg s 0 = a → sg s 1 = b → sg s 5 = .int .i64 i → (∀ s' h', Un P k Q (.exit 0) s' h') → Lp P b96_0 s hh (Un P k Q) := by
  have hbd := ha.bound (by decide)
  induction n with
  | zero =>
    intro i s hh k Q hi h0 h1 h5 hK
    refine g.lpe b96_0.eq_1 ?_
    have c1 : ¬ ((i : Int) < (l.length : Int)) := by omega
    simp only [h0, h5, ha.len, c1, RX, VOp.fresh, bxC, bsC, un, most, callsOf, seval, Int.reducePow, ↓reduceIte, Nat.reduceEqDiff, reduceCtorEq]
    exact hK _ _
  | succ n ih =>
    intro i s hh k Q hi h0 h1 h5 hK
    refine g.lpe b96_0.eq_1 ?_
    have c1 : (i : Int) < (l.length : Int) := by omega
    obtain ⟨r1, _, g1⟩ := getInt ha i (by omega)
    obtain ⟨r2, _, g2⟩ := getInt hb i (by omega)
    have w1 : IntKind.i64.wrap ((i : Int) + 1) = ((i + 1 : Nat) : Int) := by rw [w64 (by omega) (by omega)]; push_cast; rfl
    simp only [h0, h1, h5, ha.len, c1, g1, g2, w1, RX, VOp.fresh, bxC, bsC, un, most, callsOf, seval, Int.reducePow, ↓reduceIte, Nat.reduceEqDiff, reduceCtorEq]
    refine ih (i + 1) _ _ k Q (by omega) ?_ ?_ ?_ hK
    · simp only [h0, sg_set, Nat.reduceEqDiff, ↓reduceIte]
    · simp only [h1, sg_set, Nat.reduceEqDiff, ↓reduceIte]
    · simp only [sg_set, Nat.reduceEqDiff, ↓reduceIte]
theorem sInts_pu (g : Pg P tab) {l : List Int} {a b : AV} (ha : IsL 8 RInt a l) (hb : IsL 8 RInt b l) : Pu P 96 [a, b] (fun v => v = .bool true) := by
  refine g.pu (vf := v96) rfl rfl ?_
  simp only [v96, ha.len, hb.len, RX, VOp.fresh, bxC, bsC, un, most, callsOf, seval, Int.reducePow, ↓reduceIte, Nat.reduceEqDiff, reduceCtorEq]
  refine sInts_loop g ha hb l.length 0 _ _ _ _ (by omega) ?_ ?_ ?_ fun s' h' => ?_
  · simp only [sg_set, Nat.reduceEqDiff, ↓reduceIte]
  · simp only [sg_set, Nat.reduceEqDiff, ↓reduceIte]
  · simp only [sg_set, Nat.reduceEqDiff, ↓reduceIte]
    rfl
  simp only [RX, VOp.fresh, bxC, bsC, un, most, callsOf, seval, Int.reducePow, ↓reduceIte, Nat.reduceEqDiff, reduceCtorEq]
theorem sMap_pu (g : Pg P tab) {e : Int} {l1 l2 : List Int} {a1 a2 b1 b2 : AV} (h1 : IsL 8 RInt a1 l1) (h2 : IsL 8 RInt a2 l2) (k1 : IsL 8 RInt b1 l1) (k2 : IsL 8 RInt b2 l2) : Pu P 67 [.agg [.int .i64 e, a1, a2], .agg [.int .i64 e, b1, b2]] (fun v => v = .bool true) := by
  refine g.pu (vf := v67) rfl rfl ?_
  simp only [v67, RX, VOp.fresh, bxC, bsC, un, most, callsOf, seval, Int.reducePow, ↓reduceIte, Nat.reduceEqDiff, reduceCtorEq]
  refine (sInts_pu g h1 k1).go (by simp [AV.tolds, h1.told tInt, k1.told tInt]) ?_
  rintro v rfl
  simp only [RX, VOp.fresh, bxC, bsC, un, most, callsOf, seval, Int.reducePow, ↓reduceIte, Nat.reduceEqDiff, reduceCtorEq]
  refine (sInts_pu g h2 k2).go (by simp [AV.tolds, h2.told tInt, k2.told tInt]) ?_
  rintro v rfl
  simp only [RX, VOp.fresh, bxC, bsC, un, most, callsOf, seval, Int.reducePow, ↓reduceIte, Nat.reduceEqDiff, reduceCtorEq]
theorem sPts_loop (g : Pg P tab) {l : List Pt} {a b w u p0 p1 q0 q1 : AV} (ha : IsL 16 RPt a l) (hb : IsL 16 RPt b l) {i0 n2 n3 : Nat} (hwa : ∃ r, ∀ hh : Heap, iaV hh 1 none w (.int .i64 i0) = .val (.rp (a :: r)) hh) (hub : ∃ r, ∀ hh : Heap, iaV hh 1 none u (.int .i64 i0) = .val (.rp (b :: r)) hh) (n : Nat) :
    ∀ (i : Nat) (s : T AV) (hh : Heap) (k : List Fr) (Q : Ex → T AV → Heap → Prop), i + n = l.length → (∃ e ver, hh.get n2 = some (.cells [p0, p1, w] e ver)) → (∃ e ver, hh.get n3 = some (.cells [q0, q1, u] e ver)) → sg s 2 = .ptr n2 0 → sg s 3 = .ptr n3 0 → sg s 5 = .int .i64 i0 → sg s 6 = .int .i64 i →
      (∀ s', (∀ j, j = 2 ∨ j = 3 ∨ j = 5 → sg s' j = sg s j) → Un P k Q (.exit 2) s' hh) → Lp P b97_0 s hh (Un P k Q) := by
  have hbd := ha.bound (by decide)
  obtain ⟨ra, hwa⟩ := hwa
  obtain ⟨rb, hub⟩ := hub
  induction n with
  | zero =>
    intro i s hh k Q hi hx hy h2 h3 h5 h6 hK
    refine g.lpe b97_0.eq_1 ?_
    obtain ⟨e1, v1, hx⟩ := hx
    have c1 : ¬ ((i : Int) < (l.length : Int)) := by omega
    simp only [h2, h3, h5, h6, hx, hwa, ha.len, c1, RX, VOp.fresh, bxC, bsC, un, most, callsOf, seval, Int.reducePow, ↓reduceIte, Nat.reduceEqDiff, reduceCtorEq]
    refine hK _ ?_
    rintro j (rfl | rfl | rfl) <;> simp only [sg_set, Nat.reduceEqDiff, ↓reduceIte]
  | succ n ih =>
    intro i s hh k Q hi hx hy h2 h3 h5 h6 hK
    refine g.lpe b97_0.eq_1 ?_
    have c1 : (i : Int) < (l.length : Int) := by omega
    obtain ⟨r1, _, g1⟩ := getPt ha i (by omega)
    obtain ⟨r2, _, g2⟩ := getPt hb i (by omega)
    have w1 : IntKind.i64.wrap ((i : Int) + 1) = ((i + 1 : Nat) : Int) := by rw [w64 (by omega) (by omega)]; push_cast; rfl
    have hx' := hx
    have hy' := hy
    obtain ⟨e1, v1, hx⟩ := hx
    obtain ⟨e2, v2, hy⟩ := hy
    simp only [h2, h3, h5, h6, hx, hy, hwa, hub, ha.len, c1, g1, g2, w1, flat2, RX, VOp.fresh, bxC, bsC, un, most, callsOf, seval, Int.reducePow, ↓reduceIte, Nat.reduceEqDiff, reduceCtorEq]
    refine ih (i + 1) _ _ k Q (by omega) hx' hy' ?_ ?_ ?_ ?_ ?_
    · simp only [h2, sg_set, Nat.reduceEqDiff, ↓reduceIte]
    · simp only [h3, sg_set, Nat.reduceEqDiff, ↓reduceIte]
    · simp only [h5, sg_set, Nat.reduceEqDiff, ↓reduceIte]
    · simp only [sg_set, Nat.reduceEqDiff, ↓reduceIte]
    · intro s' q
      refine hK s' fun j hj => (q j hj).trans ?_
      rcases hj with rfl | rfl | rfl <;> simp only [sg_set, Nat.reduceEqDiff, ↓reduceIte]
theorem sRings_loop (g : Pg P tab) {l : List (List Pt)} {w u p0 p1 q0 q1 : AV} (ha : IsL 24 RRing w l) (hb : IsL 24 RRing u l) {n2 n3 : Nat} (n : Nat) :
    ∀ (i : Nat) (s : T AV) (hh : Heap) (k : List Fr) (Q : Ex → T AV → Heap → Prop), i + n = l.length → (∃ e ver, hh.get n2 = some (.cells [p0, p1, w] e ver)) → (∃ e ver, hh.get n3 = some (.cells [q0, q1, u] e ver)) → sg s 2 = .ptr n2 0 → sg s 3 = .ptr n3 0 → sg s 5 = .int .i64 i →
      (∀ s', Un P k Q (.exit 0) s' hh) → Lp P b97_1 s hh (Un P k Q) := by
  have hbd := ha.bound (by decide)
  induction n with
  | zero =>
    intro i s hh k Q hi hx hy h2 h3 h5 hK
    refine g.lpe b97_1.eq_1 ?_
    obtain ⟨e1, v1, hx⟩ := hx
    have c1 : ¬ ((i : Int) < (l.length : Int)) := by omega
    simp only [h2, h3, h5, hx, ha.len, c1, RX, VOp.fresh, bxC, bsC, un, most, callsOf, seval, Int.reducePow, ↓reduceIte, Nat.reduceEqDiff, reduceCtorEq]
    exact hK _
  | succ n ih =>
    intro i s hh k Q hi hx hy h2 h3 h5 hK
    refine g.lpe b97_1.eq_1 ?_
    have c1 : (i : Int) < (l.length : Int) := by omega
    obtain ⟨x1, r1, i1, _, g1⟩ := getRing ha i (by omega)
    obtain ⟨x2, r2, i2, _, g2⟩ := getRing hb i (by omega)
    have w1 : IntKind.i64.wrap ((i : Int) + 1) = ((i + 1 : Nat) : Int) := by rw [w64 (by omega) (by omega)]; push_cast; rfl
    have hx' := hx
    have hy' := hy
    obtain ⟨e1, v1, hx⟩ := hx
    obtain ⟨e2, v2, hy⟩ := hy
    simp only [h2, h3, h5, hx, hy, ha.len, c1, g1, g2, i1.len, i2.len, RX, VOp.fresh, bxC, bsC, un, most, callsOf, seval, Int.reducePow, ↓reduceIte, Nat.reduceEqDiff, reduceCtorEq]
    refine sPts_loop g i1 i2 (i0 := i) ⟨r1, fun hh => g1 hh _⟩ ⟨r2, fun hh => g2 hh _⟩ (l.getD i []).length 0 _ _ _ _ (by omega) hx' hy' ?_ ?_ ?_ ?_ ?_
    · simp only [h2, sg_set, Nat.reduceEqDiff, ↓reduceIte]
    · simp only [h3, sg_set, Nat.reduceEqDiff, ↓reduceIte]
    · simp only [h5, sg_set, Nat.reduceEqDiff, ↓reduceIte]
    · simp only [sg_set, Nat.reduceEqDiff, ↓reduceIte]
      rfl
    intro s' q
    have a2 := q 2 (by simp)
    have a3 := q 3 (by simp)
    have a5 := q 5 (by simp)
    simp only [sg_set, Nat.reduceEqDiff, ↓reduceIte, h2, h3, h5] at a2 a3 a5
    simp only [a5, w1, RX, VOp.fresh, bxC, bsC, un, most, callsOf, seval, Int.reducePow, ↓reduceIte, Nat.reduceEqDiff, reduceCtorEq]
    refine ih (i + 1) _ _ k Q (by omega) hx' hy' ?_ ?_ ?_ hK
    · simp only [a2, sg_set, Nat.reduceEqDiff, ↓reduceIte]
    · simp only [a3, sg_set, Nat.reduceEqDiff, ↓reduceIte]
    · simp only [sg_set, Nat.reduceEqDiff, ↓reduceIte]
theorem sFeat_pu (g : Pg P tab) {f : Feat} {c d : List AV} (hc : RFeat f c) (hd : RFeat f d) : Pu P 97 [.agg c, .agg d] (fun v => v = .bool true) := by
  obtain ⟨a, rfl, _, _, ha⟩ := hc
  obtain ⟨b, rfl, _, _, hb⟩ := hd
  refine g.pu (vf := v97) rfl rfl ?_
  simp only [v97, ha.len, hb.len, RX, VOp.fresh, bxC, bsC, un, most, callsOf, seval, Int.reducePow, ↓reduceIte, Nat.reduceEqDiff, reduceCtorEq]
  refine sRings_loop g ha hb (n2 := 0) (n3 := 1) f.rings.length 0 _ _ _ _ (by omega) ⟨52, 0, by rw [Heap.get_mk, if_neg (by decide), Heap.get_mk, if_pos rfl]⟩ ⟨52, 0, by rw [Heap.get_mk, if_pos rfl]⟩ ?_ ?_ ?_ fun s' => ?_
  · simp only [sg_set, Nat.reduceEqDiff, ↓reduceIte]
  · simp only [sg_set, Nat.reduceEqDiff, ↓reduceIte]
  · simp only [sg_set, Nat.reduceEqDiff, ↓reduceIte]
    rfl
  simp only [RX, VOp.fresh, bxC, bsC, un, most, callsOf, seval, Int.reducePow, ↓reduceIte, Nat.reduceEqDiff, reduceCtorEq]
theorem sOps_loop (g : Pg P tab) {l : List Op} {a b : AV} (ha : IsL 112 ROp a l) (hb : IsL 112 ROp b l) (n : Nat) :
    ∀ (i : Nat) (s : T AV) (hh : Heap) (k : List Fr) (Q : Ex → T AV → Heap → Prop), i + n = l.length → sg s 0 = a → sg s 1 = b → sg s 5 = .int .i64 i → (∀ s' h', Un P k Q (.exit 0) s' h') → Lp P b68_0 s hh (Un P k Q) := by
  have hbd := ha.bound (by decide)
  induction n with
  | zero =>
    intro i s hh k Q hi h0 h1 h5 hK
    refine g.lpe b68_0.eq_1 ?_
    have c1 : ¬ ((i : Int) < (l.length : Int)) := by omega
    simp only [h0, h5, ha.len, c1, RX, VOp.fresh, bxC, bsC, un, most, callsOf, seval, Int.reducePow, ↓reduceIte, Nat.reduceEqDiff, reduceCtorEq]
    exact hK _ _
  | succ n ih =>
    intro i s hh k Q hi h0 h1 h5 hK
    refine g.lpe b68_0.eq_1 ?_
    have c1 : (i : Int) < (l.length : Int) := by omega
    obtain ⟨x, r1, ⟨x1, x2, x3, rfl, i1, i2, i3, i4, i5, i6, i7, i8⟩, _, _, g1⟩ := getOp ha i (by omega)
    obtain ⟨y, r2, ⟨y1, y2, y3, rfl, k1, k2, k3, k4, k5, k6, k7, k8⟩, _, _, g2⟩ := getOp hb i (by omega)
    have w1 : IntKind.i64.wrap ((i : Int) + 1) = ((i + 1 : Nat) : Int) := by rw [w64 (by omega) (by omega)]; push_cast; rfl
    simp only [h0, h1, h5, ha.len, c1, g1, g2, Bool.or_self, RX, VOp.fresh, bxC, bsC, un, most, callsOf, seval, Int.reducePow, ↓reduceIte, Nat.reduceEqDiff, reduceCtorEq]
    refine (sFeat_pu g (f := (l.getD i op0).f) ⟨_, rfl, i2, i3, i4⟩ ⟨_, rfl, k2, k3, k4⟩).go (by simp [AV.tolds, AV.told, i4.told tRing, k4.told tRing]) ?_
    rintro v rfl
    simp only [h0, h1, h5, g1, g2, RX, VOp.fresh, bxC, bsC, un, most, callsOf, seval, Int.reducePow, ↓reduceIte, Nat.reduceEqDiff, reduceCtorEq]
    refine (sMap_pu g i7 i8 k7 k8).go (by simp [AV.tolds, AV.told, i7.told tInt, k7.told tInt, i8.told tInt, k8.told tInt]) ?_
    rintro v rfl
    simp only [h0, h1, h5, w1, RX, VOp.fresh, bxC, bsC, un, most, callsOf, seval, Int.reducePow, ↓reduceIte, Nat.reduceEqDiff, reduceCtorEq]
    refine ih (i + 1) _ _ k Q (by omega) ?_ ?_ ?_ hK
    · simp only [h0, sg_set, Nat.reduceEqDiff, ↓reduceIte]
    · simp only [h1, sg_set, Nat.reduceEqDiff, ↓reduceIte]
    · simp only [sg_set, Nat.reduceEqDiff, ↓reduceIte]
theorem sOps_pu (g : Pg P tab) {l : List Op} {a b : AV} (ha : IsL 112 ROp a l) (hb : IsL 112 ROp b l) : Pu P 68 [a, b] (fun v => v = .bool true) := by
  refine g.pu (vf := v68) rfl rfl ?_
  simp only [v68, ha.len, hb.len, RX, VOp.fresh, bxC, bsC, un, most, callsOf, seval, Int.reducePow, ↓reduceIte, Nat.reduceEqDiff, reduceCtorEq]
  refine sOps_loop g ha hb l.length 0 _ _ _ _ (by omega) ?_ ?_ ?_ fun s' h' => ?_
  · simp only [sg_set, Nat.reduceEqDiff, ↓reduceIte]
  · simp only [sg_set, Nat.reduceEqDiff, ↓reduceIte]
  · simp only [sg_set, Nat.reduceEqDiff, ↓reduceIte]
    rfl
  simp only [RX, VOp.fresh, bxC, bsC, un, most, callsOf, seval, Int.reducePow, ↓reduceIte, Nat.reduceEqDiff, reduceCtorEq]
end
end Go.Proofs.Ytinonmcnofjeeaa.VM
namespace Go.Proofs.Ytinonmcnofjeeaa.VM
attribute [local irreducible] Af Nx EvO Ev Un Gd Cd EvR EvQ EvC Nc Gc Lp EvM NxM AfM GdM EvMR EvMQ EvMD EvMC Nm Gm
def At (h : Heap) (b j : Nat) (x : AV) : Prop := ∃ l e ver, h.get b = some (.cells l e ver) ∧ l[j]? = some x
def AtI (h : Heap) (b j : Nat) : Prop := ∃ m, At h b j (.int .i64 m)
def AtE (h : Heap) (b j : Nat) : Prop := ∃ x, At h b j x ∧ x.one = true
def NoI (x : AV) : Prop := ∀ m, x ≠ .int .i64 m
theorem At.ld {h : Heap} {b j : Nat} {x : AV} (a : At h b j x) : ldB false j 1 h (h.get b) = .val x h := by
  obtain ⟨l, e, ver, hg, hx⟩ := a
  obtain ⟨hj, rfl⟩ := List.getElem?_eq_some_iff.1 hx
  rw [hg, ldB_at hj]
theorem At.ld3 {h : Heap} {b j : Nat} {x y z : AV} (a : At h b j x) (a1 : At h b (j + 1) y) (a2 : At h b (j + 2) z) : ldB true j 3 h (h.get b) = .val (.agg [x, y, z]) h := by
  obtain ⟨l, e, ver, hg, hx⟩ := a
  obtain ⟨l1, e1, ver1, hg1, hy⟩ := a1
  obtain ⟨l2, e2, ver2, hg2, hz⟩ := a2
  rw [hg] at hg1 hg2
  cases hg1
  cases hg2
  obtain ⟨i0, rfl⟩ := List.getElem?_eq_some_iff.1 hx
  obtain ⟨i1, rfl⟩ := List.getElem?_eq_some_iff.1 hy
  obtain ⟨i2, rfl⟩ := List.getElem?_eq_some_iff.1 hz
  have e : (l.drop j).take 3 = [l[j], l[j + 1], l[j + 2]] := by
    rw [List.drop_eq_getElem_cons i0, List.drop_eq_getElem_cons i1, List.drop_eq_getElem_cons i2]
    rfl
  rw [hg, ldB_some, part_eq, e]
  rfl
def Sims (l k : List AV) : Prop := k.length = l.length ∧ ∀ j : Nat, k[j]? = l[j]? ∨ ((∃ m, l[j]? = some (AV.int .i64 m)) ∧ ∃ m, k[j]? = some (AV.int .i64 m))
theorem Sims.refl (l : List AV) : Sims l l := ⟨rfl, fun _ => .inl rfl⟩
theorem Sims.trans {a b c : List AV} (x : Sims a b) (y : Sims b c) : Sims a c := ⟨y.1.trans x.1, fun j => by
  rcases x.2 j with p | ⟨⟨m, p⟩, m', p'⟩
  · rcases y.2 j with q | ⟨q, q'⟩
    · exact .inl (q.trans p)
    · exact .inr ⟨by rw [← p]; exact q, q'⟩
  · rcases y.2 j with q | ⟨q, q'⟩
    · exact .inr ⟨⟨m, p⟩, m', q.trans p'⟩
    · exact .inr ⟨⟨m, p⟩, q'⟩⟩
theorem Sims.set {l : List AV} {j : Nat} {m n : Int} (h : l[j]? = some (.int .i64 m)) : Sims l (l.set j (.int .i64 n)) := ⟨List.length_set, fun i => by
  by_cases e : i = j
  · subst e
    obtain ⟨hi, _⟩ := List.getElem?_eq_some_iff.1 h
    exact .inr ⟨⟨m, h⟩, n, by rw [List.getElem?_set_self hi]⟩
  · exact .inl (List.getElem?_set_ne (fun c => e c.symm))⟩
/-- the blocks of B have numbers written over, the others stand -/
def Sim (B : Nat → Prop) (h h' : Heap) : Prop := h.next ≤ h'.next ∧ ∀ b, b < h.next → (¬ B b → h'.get b = h.get b) ∧ ∀ l e ver, h.get b = some (.cells l e ver) → ∃ l' ver', h'.get b = some (.cells l' e ver') ∧ Sims l l'
section
variable {B : Nat → Prop} {h h' h'' : Heap}
theorem Sim.refl : Sim B h h := ⟨Nat.le_refl _, fun b _ => ⟨fun _ => rfl, fun l e ver hg => ⟨l, ver, hg, Sims.refl l⟩⟩⟩
theorem Sim.trans (x : Sim B h h') (y : Sim B h' h'') : Sim B h h'' := ⟨Nat.le_trans x.1 y.1, fun b hb => by
  obtain ⟨a1, a2⟩ := x.2 b hb
  obtain ⟨c1, c2⟩ := y.2 b (Nat.lt_of_lt_of_le hb x.1)
  refine ⟨fun n => (c1 n).trans (a1 n), fun l e ver hg => ?_⟩
  obtain ⟨l', ver', g', s'⟩ := a2 l e ver hg
  obtain ⟨l'', ver'', g'', s''⟩ := c2 l' e ver' g'
  exact ⟨l'', ver'', g'', s'.trans s''⟩⟩
theorem Sim.ext (x : Ext h h') : Sim B h h' := ⟨x.1, fun b hb => ⟨fun _ => x.2 b hb, fun l e ver hg => ⟨l, ver, (x.2 b hb).trans hg, Sims.refl l⟩⟩⟩
theorem Sim.cut {B' : Nat → Prop} (x : Sim B' h h') (k : ∀ b, B' b → b < h.next → B b) : Sim B h h' := ⟨x.1, fun b hb => ⟨fun n => (x.2 b hb).1 fun c => n (k b c hb), (x.2 b hb).2⟩⟩
theorem At.sim {b j : Nat} {x : AV} (a : At h b j x) (hb : b < h.next) (hx : NoI x) (s : Sim B h h') : At h' b j x := by
  obtain ⟨l, e, ver, hg, h1⟩ := a
  obtain ⟨l', ver', g', _, s'⟩ := (s.2 b hb).2 l e ver hg
  rcases s' j with c | ⟨⟨m, c⟩, _⟩
  · exact ⟨l', e, ver', g', c.trans h1⟩
  · rw [h1] at c; cases c; exact absurd rfl (hx m)
theorem AtI.sim {b j : Nat} (a : AtI h b j) (hb : b < h.next) (s : Sim B h h') : AtI h' b j := by
  obtain ⟨m, l, e, ver, hg, h1⟩ := a
  obtain ⟨l', ver', g', _, s'⟩ := (s.2 b hb).2 l e ver hg
  rcases s' j with c | ⟨_, m', c⟩
  · exact ⟨m, l', e, ver', g', c.trans h1⟩
  · exact ⟨m', l', e, ver', g', c⟩
theorem AtE.sim {b j : Nat} (a : AtE h b j) (hb : b < h.next) (s : Sim B h h') : AtE h' b j := by
  obtain ⟨x, ⟨l, e, ver, hg, h1⟩, ho⟩ := a
  obtain ⟨l', ver', g', hl, s'⟩ := (s.2 b hb).2 l e ver hg
  rcases s' j with c | ⟨_, m', c⟩
  · exact ⟨x, ⟨l', e, ver', g', c.trans h1⟩, ho⟩
  · exact ⟨_, ⟨l', e, ver', g', c⟩, rfl⟩
/-- a number is written over -/
theorem AtI.st {b j : Nat} (a : AtI h b j) (hB : B b) (n : Int) : ∃ h', writeAt h b j [.int .i64 n] = some h' ∧ Sim B h h' := by
  obtain ⟨m, l, e, ver, hg, h1⟩ := a
  obtain ⟨hj, _⟩ := List.getElem?_eq_some_iff.1 h1
  refine ⟨h.put b (.cells (l.set j (.int .i64 n)) e (ver + 1)), ?_, by rw [put_next]; exact Nat.le_refl _, fun c hc => ⟨fun hn => by rw [Heap.get_put, if_neg (show ¬ c = b from fun ec => hn (ec ▸ hB))], fun l2 e2 v2 hg2 => ?_⟩⟩
  · unfold writeAt
    rw [hg]
    have : Nat.ble (j + 1) l.length = true := by rw [Nat.ble_eq]; exact hj
    simp only [List.length_cons, List.length_nil, Nat.zero_add, this, List.all_cons, one_int, List.all_nil, Bool.and_self, cond_true, lsets_one hj]
  · by_cases hc' : c = b
    · subst hc'
      rw [hg] at hg2
      cases hg2
      exact ⟨_, _, by rw [Heap.get_put, if_pos rfl], Sims.set h1⟩
    · exact ⟨l2, v2, by rw [Heap.get_put, if_neg hc']; exact hg2, Sims.refl _⟩
end
def most3 : Nat := 140737488351232
/-- an empty slice -/
def Emp (v : AV) : Prop := v = .nils ∨ v = .rs [] 0 ∨ ∃ b off cap sz, v = .sl b off 0 cap sz
theorem Emp.one {v : AV} (e : Emp v) : v.one = true := by rcases e with rfl | rfl | ⟨_, _, _, _, rfl⟩ <;> rfl
theorem Emp.len {v : AV} (e : Emp v) (hh : Heap) : lnV hh v = .val (.int .i64 0) hh := by rcases e with rfl | rfl | ⟨_, _, _, _, rfl⟩ <;> rfl
theorem Emp.noI {v : AV} (e : Emp v) : NoI v := by rintro m rfl; rcases e with e | e | ⟨_, _, _, _, e⟩ <;> cases e
def LInts (h : Heap) (B : Nat → Prop) (v : AV) : Prop := Emp v ∨ ∃ b off n cap, v = .sl b off n cap 1 ∧ n ≤ most3 ∧ B b ∧ b < h.next ∧ ∀ i, i < n → AtI h b (off + i)
def LPts (h : Heap) (B : Nat → Prop) (v : AV) : Prop := Emp v ∨ ∃ b off n cap, v = .sl b off n cap 2 ∧ n ≤ most3 ∧ B b ∧ b < h.next ∧ ∀ i, i < n → AtI h b (off + i * 2)
def LRings (h : Heap) (B : Nat → Prop) (v : AV) : Prop := Emp v ∨ ∃ b off n cap, v = .sl b off n cap 1 ∧ n ≤ most3 ∧ B b ∧ b < h.next ∧ ∀ i, i < n → ∃ x, At h b (off + i) x ∧ LPts h B x
def LFeats (h : Heap) (B : Nat → Prop) (v : AV) : Prop := Emp v ∨ ∃ b off n cap, v = .sl b off n cap 3 ∧ n ≤ most3 ∧ B b ∧ b < h.next ∧ ∀ i, i < n → AtI h b (off + i * 3) ∧ ∃ x, At h b (off + i * 3 + 2) x ∧ LRings h B x
def LOps (h : Heap) (B : Nat → Prop) (v : AV) : Prop := Emp v ∨ ∃ b off n cap, v = .sl b off n cap 8 ∧ n ≤ most3 ∧ B b ∧ b < h.next ∧ ∀ i, i < n → AtI h b (off + i * 8 + 1) ∧ AtE h b (off + i * 8 + 2) ∧ (∃ x, At h b (off + i * 8 + 3) x ∧ LRings h B x) ∧
  AtI h b (off + i * 8 + 4) ∧ AtE h b (off + i * 8 + 5) ∧ (∃ x, At h b (off + i * 8 + 6) x ∧ LInts h B x) ∧ ∃ x, At h b (off + i * 8 + 7) x ∧ LInts h B x
section
variable {B B' : Nat → Prop} {h h' : Heap}
theorem LInts.noI {v : AV} (l : LInts h B v) : NoI v := by
  rcases l with e | ⟨_, _, _, _, e, _⟩
  · exact e.noI
  · rw [e]; intro m e; cases e
theorem LPts.noI {v : AV} (l : LPts h B v) : NoI v := by
  rcases l with e | ⟨_, _, _, _, e, _⟩
  · exact e.noI
  · rw [e]; intro m e; cases e
theorem LRings.noI {v : AV} (l : LRings h B v) : NoI v := by
  rcases l with e | ⟨_, _, _, _, e, _⟩
  · exact e.noI
  · rw [e]; intro m e; cases e
theorem LInts.one {v : AV} (l : LInts h B v) : v.one = true := by
  rcases l with e | ⟨_, _, _, _, rfl, _⟩
  · exact e.one
  · rfl
theorem LRings.one {v : AV} (l : LRings h B v) : v.one = true := by
  rcases l with e | ⟨_, _, _, _, rfl, _⟩
  · exact e.one
  · rfl
theorem LInts.sim {v : AV} (l : LInts h B v) (s : Sim B' h h') : LInts h' B v := by
  rcases l with el | ⟨b, off, n, cap, rfl, a1, a2, a3, a4⟩
  · exact .inl el
  · exact .inr ⟨b, off, n, cap, rfl, a1, a2, Nat.lt_of_lt_of_le a3 s.1, fun i hi => (a4 i hi).sim a3 s⟩
theorem LPts.sim {v : AV} (l : LPts h B v) (s : Sim B' h h') : LPts h' B v := by
  rcases l with el | ⟨b, off, n, cap, rfl, a1, a2, a3, a4⟩
  · exact .inl el
  · exact .inr ⟨b, off, n, cap, rfl, a1, a2, Nat.lt_of_lt_of_le a3 s.1, fun i hi => (a4 i hi).sim a3 s⟩
theorem LRings.sim {v : AV} (l : LRings h B v) (s : Sim B' h h') : LRings h' B v := by
  rcases l with el | ⟨b, off, n, cap, rfl, a1, a2, a3, a4⟩
  · exact .inl el
  · refine .inr ⟨b, off, n, cap, rfl, a1, a2, Nat.lt_of_lt_of_le a3 s.1, fun i hi => ?_⟩
    obtain ⟨x, c1, c2⟩ := a4 i hi
    exact ⟨x, c1.sim a3 c2.noI s, c2.sim s⟩
theorem LFeats.sim {v : AV} (l : LFeats h B v) (s : Sim B' h h') : LFeats h' B v := by
  rcases l with el | ⟨b, off, n, cap, rfl, a1, a2, a3, a4⟩
  · exact .inl el
  · refine .inr ⟨b, off, n, cap, rfl, a1, a2, Nat.lt_of_lt_of_le a3 s.1, fun i hi => ?_⟩
    obtain ⟨c0, x, c1, c2⟩ := a4 i hi
    exact ⟨c0.sim a3 s, x, c1.sim a3 c2.noI s, c2.sim s⟩
theorem LOps.sim {v : AV} (l : LOps h B v) (s : Sim B' h h') : LOps h' B v := by
  rcases l with el | ⟨b, off, n, cap, rfl, a1, a2, a3, a4⟩
  · exact .inl el
  · refine .inr ⟨b, off, n, cap, rfl, a1, a2, Nat.lt_of_lt_of_le a3 s.1, fun i hi => ?_⟩
    obtain ⟨c1, c2, ⟨x, c3, c4⟩, c5, c6, ⟨y, c7, c8⟩, z, c9, c10⟩ := a4 i hi
    exact ⟨c1.sim a3 s, c2.sim a3 s, ⟨x, c3.sim a3 c4.noI s, c4.sim s⟩, c5.sim a3 s, c6.sim a3 s, ⟨y, c7.sim a3 c8.noI s, c8.sim s⟩, z, c9.sim a3 c10.noI s, c10.sim s⟩
theorem LPts.weak {v : AV} (l : LPts h B v) (k : ∀ b, B b → B' b) : LPts h B' v := by
  rcases l with el | ⟨b, off, n, cap, rfl, a1, a2, a3, a4⟩
  · exact .inl el
  · exact .inr ⟨b, off, n, cap, rfl, a1, k _ a2, a3, a4⟩
theorem LRings.weak {v : AV} (l : LRings h B v) (k : ∀ b, B b → B' b) : LRings h B' v := by
  rcases l with el | ⟨b, off, n, cap, rfl, a1, a2, a3, a4⟩
  · exact .inl el
  · refine .inr ⟨b, off, n, cap, rfl, a1, k _ a2, a3, fun i hi => ?_⟩
    obtain ⟨x, c1, c2⟩ := a4 i hi
    exact ⟨x, c1, c2.weak k⟩
end
section
variable {P : Program}
theorem spInts_loop (g : Pg P tab) {B : Nat → Prop} {h0 : Heap} {b off N cap : Nat} (hN : N ≤ most3) (hB : B b) (hb : b < h0.next) (ha : ∀ i, i < N → AtI h0 b (off + i)) (n : Nat) :
    ∀ (i : Nat) (s : T AV) (h : Heap) (k : List Fr) (Q : Ex → T AV → Heap → Prop), i + n = N → Sim B h0 h → sg s 0 = .sl b off N cap 1 → sg s 2 = .int .i64 i → (∀ s' h', Sim B h0 h' → Un P k Q (.exit 0) s' h') → Lp P b70_0 s h (Un P k Q) := by
  unfold most3 at hN
  induction n with
  | zero =>
    intro i s h k Q hi hs h1 h2 hK
    refine g.lpe b70_0.eq_1 ?_
    have c1 : ¬ ((i : Int) < (N : Int)) := by omega
    simp only [h1, h2, c1, RX, VOp.fresh, bxC, bsC, un, most, callsOf, seval, Int.reducePow, ↓reduceIte, Nat.reduceEqDiff, reduceCtorEq]
    exact hK _ _ hs
  | succ n ih =>
    intro i s h k Q hi hs h1 h2 hK
    refine g.lpe b70_0.eq_1 ?_
    have c1 : ((i : Int) < (N : Int)) := by omega
    have c2 : 0 ≤ (i : Int) ∧ (i : Int) < (N : Int) ∧ 1 = 1 := ⟨by omega, by omega, rfl⟩
    have w1 : IntKind.i64.wrap ((i : Int) + 1) = ((i + 1 : Nat) : Int) := by rw [w64 (by omega) (by omega)]; push_cast; rfl
    have a := (ha i (by omega)).sim hb hs
    have a' := a
    obtain ⟨m, am⟩ := a'
    have ld := am.ld
    obtain ⟨h', hw, hs'⟩ := a.st hB (IntKind.i64.wrap (-9 - m))
    simp only [h1, h2, c1, c2, ld, hw, w1, Int.toNat_natCast, Nat.mul_one, RX, VOp.fresh, bxC, bsC, un, most, callsOf, seval, Int.reducePow, ↓reduceIte, Nat.reduceEqDiff, reduceCtorEq]
    refine ih (i + 1) _ h' k Q (by omega) (hs.trans hs') ?_ ?_ hK
    · simp only [h1, sg_set, Nat.reduceEqDiff, ↓reduceIte]
    · simp only [sg_set, Nat.reduceEqDiff, ↓reduceIte]
theorem spInts_cl (g : Pg P tab) {B : Nat → Prop} {h : Heap} {v : AV} (l : LInts h B v) {Q : AV → Heap → Prop} (q : ∀ v h', Sim B h h' → Q v h') : Cl P 70 [v] h Q := by
  refine g.cl (vf := v70) rfl rfl ?_
  rcases l with el | ⟨b, off, n, cap, rfl, a1, a2, a3, a4⟩
  · simp only [v70, RX, VOp.fresh, bxC, bsC, un, most, callsOf, seval, Int.reducePow, ↓reduceIte, Nat.reduceEqDiff, reduceCtorEq]
    refine g.lpe b70_0.eq_1 ?_
    simp only [el.len, RX, VOp.fresh, bxC, bsC, un, most, callsOf, seval, Int.reducePow, ↓reduceIte, Nat.reduceEqDiff, reduceCtorEq]
    exact q _ _ Sim.refl
  · simp only [v70, RX, VOp.fresh, bxC, bsC, un, most, callsOf, seval, Int.reducePow, ↓reduceIte, Nat.reduceEqDiff, reduceCtorEq]
    refine spInts_loop g (cap := cap) a1 a2 a3 a4 n 0 _ _ _ _ (by omega) Sim.refl ?_ ?_ fun s' h' hs => ?_
    · simp only [sg_set, Nat.reduceEqDiff, ↓reduceIte]
    · simp only [sg_set, Nat.reduceEqDiff, ↓reduceIte]
      rfl
    simp only [RX, VOp.fresh, bxC, bsC, un, most, callsOf, seval, Int.reducePow, ↓reduceIte, Nat.reduceEqDiff, reduceCtorEq]
    exact q _ _ hs
theorem spMap_cl (g : Pg P tab) {B : Nat → Prop} {h : Heap} {e u v : AV} (lu : LInts h B u) (lv : LInts h B v) (ho : e.one = true ∧ u.one = true ∧ v.one = true) {Q : AV → Heap → Prop} (q : ∀ v h', Sim B h h' → Q v h') : Cl P 22 [.agg [e, u, v]] h Q := by
  refine g.cl (vf := v22) rfl rfl ?_
  obtain ⟨o1, o2, o3⟩ := ho
  have x0 := Ext.mk (h := h) (.cells [e, u, v] 26 0)
  have a1 : At (h.mk' h.next (.cells [e, u, v] 26 0)) h.next 1 u := ⟨_, _, _, by rw [Heap.get_mk, if_pos rfl], rfl⟩
  have a2 : At (h.mk' h.next (.cells [e, u, v] 26 0)) h.next 2 v := ⟨_, _, _, by rw [Heap.get_mk, if_pos rfl], rfl⟩
  have n0 : (h.mk' h.next (.cells [e, u, v] 26 0)).next = h.next + 1 := by rw [mk_next]; omega
  simp only [v22, RW, o1, o2, o3, RX, VOp.fresh, bxC, bsC, un, most, callsOf, seval, Int.reducePow, ↓reduceIte, Nat.reduceEqDiff, reduceCtorEq]
  refine spInts_cl g (lu.sim (B' := B) (Sim.ext x0)) fun _ h1 s1 => ?_
  have l1 := (a2.sim (by omega) lv.noI s1).ld
  simp only [l1, RX, VOp.fresh, bxC, bsC, un, most, callsOf, seval, Int.reducePow, ↓reduceIte, Nat.reduceEqDiff, reduceCtorEq]
  refine spInts_cl g ((lv.sim (B' := B) (Sim.ext x0)).sim s1) fun _ h2 s2 => ?_
  simp only [RX, VOp.fresh, bxC, bsC, un, most, callsOf, seval, Int.reducePow, ↓reduceIte, Nat.reduceEqDiff, reduceCtorEq]
  exact q _ _ (((Sim.ext x0).trans s1).trans s2)
end
end Go.Proofs.Ytinonmcnofjeeaa.VM
namespace Go.Proofs.Ytinonmcnofjeeaa.VM
attribute [local irreducible] Af Nx EvO Ev Un Gd Cd EvR EvQ EvC Nc Gc Lp EvM NxM AfM GdM EvMR EvMQ EvMD EvMC Nm Gm
section
variable {P : Program}
/-- the points of one ring -/
theorem spPts_loop (g : Pg P tab) {B : Nat → Prop} {h0 : Heap} {b off N cap b1 off1 N1 cap1 i0 b2 off2 N2 cap2 j0 : Nat} (hb : b < h0.next) (hi0 : i0 < N) (hN : N ≤ most3) (a0 : At h0 b (off + i0 * 3 + 2) (.sl b1 off1 N1 cap1 1))
    (hb1 : b1 < h0.next) (hj0 : j0 < N1) (a1 : At h0 b1 (off1 + j0) (.sl b2 off2 N2 cap2 2)) (hN2 : N2 ≤ most3) (hB : B b2) (hb2 : b2 < h0.next) (ha : ∀ i, i < N2 → AtI h0 b2 (off2 + i * 2)) (n : Nat) :
    ∀ (i : Nat) (s : T AV) (h : Heap) (k : List Fr) (Q : Ex → T AV → Heap → Prop), i + n = N2 → Sim B h0 h → sg s 0 = .sl b off N cap 3 → sg s 2 = .int .i64 i0 → sg s 3 = .int .i64 j0 → sg s 4 = .int .i64 i →
      (∀ s' h', Sim B h0 h' → (∀ j, j = 0 ∨ j = 2 ∨ j = 3 → sg s' j = sg s j) → Un P k Q (.exit 4) s' h') → Lp P b69_0 s h (Un P k Q) := by
  unfold most3 at hN2
  have d0 : 0 ≤ (i0 : Int) ∧ (i0 : Int) < (N : Int) ∧ 3 = 3 := ⟨by omega, by omega, rfl⟩
  have d1 : 0 ≤ (j0 : Int) ∧ (j0 : Int) < (N1 : Int) ∧ 1 = 1 := ⟨by omega, by omega, rfl⟩
  have no1 : NoI (.sl b1 off1 N1 cap1 1) := fun m e => by cases e
  have no2 : NoI (.sl b2 off2 N2 cap2 2) := fun m e => by cases e
  induction n with
  | zero =>
    intro i s h k Q hi hs h1 h2 h3 h4 hK
    refine g.lpe b69_0.eq_1 ?_
    have c1 : ¬ ((i : Int) < (N2 : Int)) := by omega
    have l0 := (a0.sim hb no1 hs).ld
    have l1 := (a1.sim hb1 no2 hs).ld
    simp only [h1, h2, h3, h4, d0, d1, c1, l0, l1, Int.toNat_natCast, Nat.mul_one, RX, VOp.fresh, bxC, bsC, un, most, callsOf, seval, Int.reducePow, ↓reduceIte, Nat.reduceEqDiff, reduceCtorEq]
    refine hK _ _ hs ?_
    rintro j (rfl | rfl | rfl) <;> simp only [sg_set, Nat.reduceEqDiff, ↓reduceIte]
  | succ n ih =>
    intro i s h k Q hi hs h1 h2 h3 h4 hK
    refine g.lpe b69_0.eq_1 ?_
    have c1 : ((i : Int) < (N2 : Int)) := by omega
    have d2 : 0 ≤ (i : Int) ∧ (i : Int) < (N2 : Int) ∧ 2 = 2 := ⟨by omega, by omega, rfl⟩
    have w1 : IntKind.i64.wrap ((i : Int) + 1) = ((i + 1 : Nat) : Int) := by rw [w64 (by omega) (by omega)]; push_cast; rfl
    have l0 := (a0.sim hb no1 hs).ld
    have l1 := (a1.sim hb1 no2 hs).ld
    have a := (ha i (by omega)).sim hb2 hs
    have a' := a
    obtain ⟨m, am⟩ := a'
    have ld := am.ld
    obtain ⟨h', hw, hs'⟩ := a.st hB (bitsOf .xor .i64 m 90)
    simp only [h1, h2, h3, h4, d0, d1, d2, c1, l0, l1, ld, hw, w1, Int.toNat_natCast, Nat.mul_one, Nat.add_zero, RX, VOp.fresh, bxC, bsC, un, most, callsOf, seval, Int.reducePow, ↓reduceIte, Nat.reduceEqDiff, reduceCtorEq]
    refine ih (i + 1) _ h' k Q (by omega) (hs.trans hs') ?_ ?_ ?_ ?_ ?_
    · simp only [h1, sg_set, Nat.reduceEqDiff, ↓reduceIte]
    · simp only [h2, sg_set, Nat.reduceEqDiff, ↓reduceIte]
    · simp only [h3, sg_set, Nat.reduceEqDiff, ↓reduceIte]
    · simp only [sg_set, Nat.reduceEqDiff, ↓reduceIte]
    · intro s' h'' q1 q2
      refine hK s' h'' q1 fun j hj => (q2 j hj).trans ?_
      rcases hj with rfl | rfl | rfl <;> simp only [sg_set, Nat.reduceEqDiff, ↓reduceIte]
/-- the rings of one feature -/
theorem spRings_loop (g : Pg P tab) {B : Nat → Prop} {h0 : Heap} {b off N cap b1 off1 N1 cap1 i0 : Nat} (hb : b < h0.next) (hi0 : i0 < N) (hN : N ≤ most3) (a0 : At h0 b (off + i0 * 3 + 2) (.sl b1 off1 N1 cap1 1))
    (hb1 : b1 < h0.next) (hN1 : N1 ≤ most3) (ha : ∀ i, i < N1 → ∃ x, At h0 b1 (off1 + i) x ∧ LPts h0 B x) (n : Nat) :
    ∀ (i : Nat) (s : T AV) (h : Heap) (k : List Fr) (Q : Ex → T AV → Heap → Prop), i + n = N1 → Sim B h0 h → sg s 0 = .sl b off N cap 3 → sg s 2 = .int .i64 i0 → sg s 3 = .int .i64 i →
      (∀ s' h', Sim B h0 h' → (∀ j, j = 0 ∨ j = 2 → sg s' j = sg s j) → Un P k Q (.exit 2) s' h') → Lp P b69_1 s h (Un P k Q) := by
  have d0 : 0 ≤ (i0 : Int) ∧ (i0 : Int) < (N : Int) ∧ 3 = 3 := ⟨by omega, by omega, rfl⟩
  have no1 : NoI (.sl b1 off1 N1 cap1 1) := fun m e => by cases e
  unfold most3 at hN1
  induction n with
  | zero =>
    intro i s h k Q hi hs h1 h2 h3 hK
    refine g.lpe b69_1.eq_1 ?_
    have c1 : ¬ ((i : Int) < (N1 : Int)) := by omega
    have l0 := (a0.sim hb no1 hs).ld
    simp only [h1, h2, h3, d0, c1, l0, Int.toNat_natCast, Nat.mul_one, RX, VOp.fresh, bxC, bsC, un, most, callsOf, seval, Int.reducePow, ↓reduceIte, Nat.reduceEqDiff, reduceCtorEq]
    refine hK _ _ hs ?_
    rintro j (rfl | rfl) <;> simp only [sg_set, Nat.reduceEqDiff, ↓reduceIte]
  | succ n ih =>
    intro i s h k Q hi hs h1 h2 h3 hK
    refine g.lpe b69_1.eq_1 ?_
    have c1 : ((i : Int) < (N1 : Int)) := by omega
    have d1 : 0 ≤ (i : Int) ∧ (i : Int) < (N1 : Int) ∧ 1 = 1 := ⟨by omega, by omega, rfl⟩
    have w1 : IntKind.i64.wrap ((i : Int) + 1) = ((i + 1 : Nat) : Int) := by rw [w64 (by omega) (by omega)]; push_cast; rfl
    have l0 := (a0.sim hb no1 hs).ld
    obtain ⟨x, ax, lx⟩ := ha i (by omega)
    have step : ∀ s' h', Sim B h0 h' → sg s' 0 = .sl b off N cap 3 → sg s' 2 = .int .i64 i0 → sg s' 3 = .int .i64 (i + 1 : Nat) → Lp P b69_1 s' h' (Un P k Q) := fun s' h' e0 e1 e2 e3 =>
      ih (i + 1) _ _ k Q (by omega) e0 e1 e2 e3 fun s'' h'' q1 q2 => hK s'' h'' q1 fun j hj => (q2 j hj).trans (by rcases hj with rfl | rfl; exact e1.trans h1.symm; exact e2.trans h2.symm)
    simp only [h1, h2, h3, d0, c1, l0, Int.toNat_natCast, Nat.mul_one, RX, VOp.fresh, bxC, bsC, un, most, callsOf, seval, Int.reducePow, ↓reduceIte, Nat.reduceEqDiff, reduceCtorEq]
    rcases lx with el | ⟨b2, off2, N2, cap2, rfl, p1, p2, p3, p4⟩
    · refine g.lpe b69_0.eq_1 ?_
      have l1 := (ax.sim hb1 el.noI hs).ld
      simp only [h1, h2, h3, d0, d1, c1, l0, l1, el.len, w1, Int.toNat_natCast, Nat.mul_one, RX, VOp.fresh, bxC, bsC, un, most, callsOf, seval, Int.reducePow, ↓reduceIte, Nat.reduceEqDiff, reduceCtorEq]
      refine step _ _ hs ?_ ?_ ?_
      · simp only [h1, sg_set, Nat.reduceEqDiff, ↓reduceIte]
      · simp only [h2, sg_set, Nat.reduceEqDiff, ↓reduceIte]
      · simp only [sg_set, Nat.reduceEqDiff, ↓reduceIte]
    · refine spPts_loop g (cap := cap) hb hi0 hN a0 hb1 (by omega) ax p1 p2 p3 p4 N2 0 _ _ _ _ (by omega) hs ?_ ?_ ?_ ?_ ?_
      · simp only [h1, sg_set, Nat.reduceEqDiff, ↓reduceIte]
      · simp only [h2, sg_set, Nat.reduceEqDiff, ↓reduceIte]
      · simp only [h3, sg_set, Nat.reduceEqDiff, ↓reduceIte]
      · simp only [sg_set, Nat.reduceEqDiff, ↓reduceIte]
        rfl
      intro s' h' hs' q
      have q0 := q 0 (by simp)
      have q2 := q 2 (by simp)
      have q3 := q 3 (by simp)
      simp only [sg_set, Nat.reduceEqDiff, ↓reduceIte, h1, h2, h3] at q0 q2 q3
      simp only [q3, w1, RX, VOp.fresh, bxC, bsC, un, most, callsOf, seval, Int.reducePow, ↓reduceIte, Nat.reduceEqDiff, reduceCtorEq]
      refine step _ _ hs' ?_ ?_ ?_
      · simp only [q0, sg_set, Nat.reduceEqDiff, ↓reduceIte]
      · simp only [q2, sg_set, Nat.reduceEqDiff, ↓reduceIte]
      · simp only [sg_set, Nat.reduceEqDiff, ↓reduceIte]
theorem spFeats_loop (g : Pg P tab) {B : Nat → Prop} {h0 : Heap} {b off N cap : Nat} (hb : b < h0.next) (hB : B b) (hN : N ≤ most3) (ha : ∀ i, i < N → AtI h0 b (off + i * 3) ∧ ∃ x, At h0 b (off + i * 3 + 2) x ∧ LRings h0 B x) (n : Nat) :
    ∀ (i : Nat) (s : T AV) (h : Heap) (k : List Fr) (Q : Ex → T AV → Heap → Prop), i + n = N → Sim B h0 h → sg s 0 = .sl b off N cap 3 → sg s 2 = .int .i64 i →
      (∀ s' h', Sim B h0 h' → Un P k Q (.exit 0) s' h') → Lp P b69_2 s h (Un P k Q) := by
  have hN' := hN
  unfold most3 at hN'
  induction n with
  | zero =>
    intro i s h k Q hi hs h1 h2 hK
    refine g.lpe b69_2.eq_1 ?_
    have c1 : ¬ ((i : Int) < (N : Int)) := by omega
    simp only [h1, h2, c1, RX, VOp.fresh, bxC, bsC, un, most, callsOf, seval, Int.reducePow, ↓reduceIte, Nat.reduceEqDiff, reduceCtorEq]
    exact hK _ _ hs
  | succ n ih =>
    intro i s h k Q hi hs h1 h2 hK
    refine g.lpe b69_2.eq_1 ?_
    have c1 : ((i : Int) < (N : Int)) := by omega
    have d0 : 0 ≤ (i : Int) ∧ (i : Int) < (N : Int) ∧ 3 = 3 := ⟨by omega, by omega, rfl⟩
    have w1 : IntKind.i64.wrap ((i : Int) + 1) = ((i + 1 : Nat) : Int) := by rw [w64 (by omega) (by omega)]; push_cast; rfl
    obtain ⟨ai, x, ax, lx⟩ := ha i (by omega)
    simp only [h1, h2, c1, RX, VOp.fresh, bxC, bsC, un, most, callsOf, seval, Int.reducePow, ↓reduceIte, Nat.reduceEqDiff, reduceCtorEq]
    have l0 := (ax.sim hb lx.noI hs).ld
    rcases lx with el | ⟨b1, off1, N1, cap1, rfl, p1, p2, p3, p4⟩
    · refine g.lpe b69_1.eq_1 ?_
      obtain ⟨m, am⟩ := ai.sim hb hs
      have ld := am.ld
      obtain ⟨h', hw, hs'⟩ := (ai.sim hb hs).st hB (bitsOf .xor .i64 m 90)
      simp only [h1, h2, d0, l0, ld, hw, w1, el.len, Int.toNat_natCast, Nat.add_zero, RX, VOp.fresh, bxC, bsC, un, most, callsOf, seval, Int.reducePow, ↓reduceIte, Nat.reduceEqDiff, reduceCtorEq]
      refine ih (i + 1) _ h' k Q (by omega) (hs.trans hs') ?_ ?_ hK
      · simp only [h1, sg_set, Nat.reduceEqDiff, ↓reduceIte]
      · simp only [sg_set, Nat.reduceEqDiff, ↓reduceIte]
    · refine spRings_loop g (cap := cap) hb (by omega) hN ax p3 p1 p4 N1 0 _ _ _ _ (by omega) hs ?_ ?_ ?_ ?_
      · simp only [h1, sg_set, Nat.reduceEqDiff, ↓reduceIte]
      · simp only [h2, sg_set, Nat.reduceEqDiff, ↓reduceIte]
      · simp only [sg_set, Nat.reduceEqDiff, ↓reduceIte]
        rfl
      intro s' h2' hs2 q
      have q0 := q 0 (by simp)
      have q2 := q 2 (by simp)
      simp only [sg_set, Nat.reduceEqDiff, ↓reduceIte, h1, h2] at q0 q2
      obtain ⟨m, am⟩ := ai.sim hb hs2
      have ld := am.ld
      obtain ⟨h', hw, hs'⟩ := (ai.sim hb hs2).st hB (bitsOf .xor .i64 m 90)
      simp only [q0, q2, d0, ld, hw, w1, Int.toNat_natCast, Nat.add_zero, RX, VOp.fresh, bxC, bsC, un, most, callsOf, seval, Int.reducePow, ↓reduceIte, Nat.reduceEqDiff, reduceCtorEq]
      refine ih (i + 1) _ h' k Q (by omega) (hs2.trans hs') ?_ ?_ hK
      · simp only [q0, sg_set, Nat.reduceEqDiff, ↓reduceIte]
      · simp only [sg_set, Nat.reduceEqDiff, ↓reduceIte]
theorem spFeats_cl (g : Pg P tab) {B : Nat → Prop} {h : Heap} {v : AV} (l : LFeats h B v) {Q : AV → Heap → Prop} (q : ∀ v h', Sim B h h' → Q v h') : Cl P 69 [v] h Q := by
  refine g.cl (vf := v69) rfl rfl ?_
  rcases l with el | ⟨b, off, n, cap, rfl, a1, a2, a3, a4⟩
  · simp only [v69, RX, VOp.fresh, bxC, bsC, un, most, callsOf, seval, Int.reducePow, ↓reduceIte, Nat.reduceEqDiff, reduceCtorEq]
    refine g.lpe b69_2.eq_1 ?_
    simp only [el.len, RX, VOp.fresh, bxC, bsC, un, most, callsOf, seval, Int.reducePow, ↓reduceIte, Nat.reduceEqDiff, reduceCtorEq]
    exact q _ _ Sim.refl
  · simp only [v69, RX, VOp.fresh, bxC, bsC, un, most, callsOf, seval, Int.reducePow, ↓reduceIte, Nat.reduceEqDiff, reduceCtorEq]
    refine spFeats_loop g (cap := cap) a3 a2 a1 a4 n 0 _ _ _ _ (by omega) Sim.refl ?_ ?_ fun s' h' hs => ?_
    · simp only [sg_set, Nat.reduceEqDiff, ↓reduceIte]
    · simp only [sg_set, Nat.reduceEqDiff, ↓reduceIte]
      rfl
    simp only [RX, VOp.fresh, bxC, bsC, un, most, callsOf, seval, Int.reducePow, ↓reduceIte, Nat.reduceEqDiff, reduceCtorEq]
    exact q _ _ hs
theorem spOps_loop (g : Pg P tab) {B : Nat → Prop} {h0 : Heap} {b off N cap : Nat} (hb : b < h0.next) (hB : B b) (hN : N ≤ most3)
    (ha : ∀ i, i < N → AtI h0 b (off + i * 8 + 1) ∧ AtE h0 b (off + i * 8 + 2) ∧ (∃ x, At h0 b (off + i * 8 + 3) x ∧ LRings h0 B x) ∧ AtI h0 b (off + i * 8 + 4) ∧ AtE h0 b (off + i * 8 + 5) ∧ (∃ x, At h0 b (off + i * 8 + 6) x ∧ LInts h0 B x) ∧ ∃ x, At h0 b (off + i * 8 + 7) x ∧ LInts h0 B x) (n : Nat) :
    ∀ (i : Nat) (s : T AV) (h : Heap) (k : List Fr) (Q : Ex → T AV → Heap → Prop), i + n = N → Sim B h0 h → sg s 0 = .sl b off N cap 8 → sg s 2 = .int .i64 i →
      (∀ s' h', Sim B h0 h' → Un P k Q (.exit 0) s' h') → Lp P b21_0 s h (Un P k Q) := by
  have hN' := hN
  unfold most3 at hN'
  induction n with
  | zero =>
    intro i s h k Q hi hs h1 h2 hK
    refine g.lpe b21_0.eq_1 ?_
    have c1 : ¬ ((i : Int) < (N : Int)) := by omega
    simp only [h1, h2, c1, RX, VOp.fresh, bxC, bsC, un, most, callsOf, seval, Int.reducePow, ↓reduceIte, Nat.reduceEqDiff, reduceCtorEq]
    exact hK _ _ hs
  | succ n ih =>
    intro i s h k Q hi hs h1 h2 hK
    refine g.lpe b21_0.eq_1 ?_
    have c1 : ((i : Int) < (N : Int)) := by omega
    have d0 : 0 ≤ (i : Int) ∧ (i : Int) < (N : Int) ∧ 8 = 8 := ⟨by omega, by omega, rfl⟩
    have w1 : IntKind.i64.wrap ((i : Int) + 1) = ((i + 1 : Nat) : Int) := by rw [w64 (by omega) (by omega)]; push_cast; rfl
    obtain ⟨p1, p2, ⟨r, p3, lr⟩, p4, p5, ⟨u, p6, lu⟩, v, p7, lv⟩ := ha i (by omega)
    obtain ⟨fi, q1⟩ := p1.sim hb hs
    obtain ⟨fs, q2, of⟩ := p2.sim hb hs
    have q3 := p3.sim hb lr.noI hs
    have l0 := q1.ld3 q2 q3
    have orr := lr.one
    have x0 := Ext.mk (h := h) (.cells [.int .i64 fi, fs, r] 52 0)
    have n0 : (h.mk' h.next (.cells [.int .i64 fi, fs, r] 52 0)).next = h.next + 1 := by rw [mk_next]; omega
    have g0 : (h.mk' h.next (.cells [.int .i64 fi, fs, r] 52 0)).get h.next = some (.cells [.int .i64 fi, fs, r] 52 0) := by rw [Heap.get_mk, if_pos rfl]
    simp only [h1, h2, d0, c1, l0, of, orr, RW, Int.toNat_natCast, RX, VOp.fresh, bxC, bsC, un, most, callsOf, seval, Int.reducePow, ↓reduceIte, Nat.reduceEqDiff, reduceCtorEq]
    refine spFeats_cl g (B := fun c => B c ∨ c = h.next) (.inr ⟨h.next, 0, 1, 1, rfl, by unfold most3; omega, .inr rfl, by omega, fun j hj => ?_⟩) fun _ h3 s3 => ?_
    · obtain rfl : j = 0 := by omega
      exact ⟨⟨fi, _, _, _, g0, rfl⟩, r, ⟨_, _, _, g0, rfl⟩, ((lr.sim hs).sim (B' := B) (Sim.ext x0)).weak fun c hc => .inl hc⟩
    have hs3 : Sim B h0 h3 := hs.trans (((Sim.ext x0).trans s3).cut fun c hc hl => by rcases hc with hc | hc; exact hc; omega)
    obtain ⟨ep, q5, o5⟩ := p5.sim hb hs3
    have q6 := p6.sim hb lu.noI hs3
    have q7 := p7.sim hb lv.noI hs3
    have l1 := q5.ld3 q6 q7
    simp only [h1, h2, d0, l1, Int.toNat_natCast, RX, VOp.fresh, bxC, bsC, un, most, callsOf, seval, Int.reducePow, ↓reduceIte, Nat.reduceEqDiff, reduceCtorEq]
    refine spMap_cl g (B := B) (lu.sim hs3) (lv.sim hs3) ⟨o5, lu.one, lv.one⟩ fun _ h4 s4 => ?_
    have hs4 := hs3.trans s4
    obtain ⟨m, am⟩ := p4.sim hb hs4
    have ld := am.ld
    obtain ⟨h', hw, hs'⟩ := (p4.sim hb hs4).st hB (bitsOf .xor .i64 m 90)
    simp only [h1, h2, d0, ld, hw, w1, Int.toNat_natCast, RX, VOp.fresh, bxC, bsC, un, most, callsOf, seval, Int.reducePow, ↓reduceIte, Nat.reduceEqDiff, reduceCtorEq]
    refine ih (i + 1) _ h' k Q (by omega) (hs4.trans hs') ?_ ?_ hK
    · simp only [h1, sg_set, Nat.reduceEqDiff, ↓reduceIte]
    · simp only [sg_set, Nat.reduceEqDiff, ↓reduceIte]
theorem spOps_cl (g : Pg P tab) {B : Nat → Prop} {h : Heap} {v : AV} (l : LOps h B v) {Q : AV → Heap → Prop} (q : ∀ v h', Sim B h h' → Q v h') : Cl P 21 [v] h Q := by
  refine g.cl (vf := v21) rfl rfl ?_
  rcases l with el | ⟨b, off, n, cap, rfl, a1, a2, a3, a4⟩
  · simp only [v21, RX, VOp.fresh, bxC, bsC, un, most, callsOf, seval, Int.reducePow, ↓reduceIte, Nat.reduceEqDiff, reduceCtorEq]
    refine g.lpe b21_0.eq_1 ?_
    simp only [el.len, RX, VOp.fresh, bxC, bsC, un, most, callsOf, seval, Int.reducePow, ↓reduceIte, Nat.reduceEqDiff, reduceCtorEq]
    exact q _ _ Sim.refl
  · simp only [v21, RX, VOp.fresh, bxC, bsC, un, most, callsOf, seval, Int.reducePow, ↓reduceIte, Nat.reduceEqDiff, reduceCtorEq]
    refine spOps_loop g (cap := cap) a3 a2 a1 a4 n 0 _ _ _ _ (by omega) Sim.refl ?_ ?_ fun s' h' hs => ?_
    · simp only [sg_set, Nat.reduceEqDiff, ↓reduceIte]
    · simp only [sg_set, Nat.reduceEqDiff, ↓reduceIte]
      rfl
    simp only [RX, VOp.fresh, bxC, bsC, un, most, callsOf, seval, Int.reducePow, ↓reduceIte, Nat.reduceEqDiff, reduceCtorEq]
    exact q _ _ hs
end
end Go.Proofs.Ytinonmcnofjeeaa.VM
namespace Go.Proofs.Ytinonmcnofjeeaa.VM
attribute [local irreducible] Af Nx EvO Ev Un Gd Cd EvR EvQ EvC Nc Gc Lp EvM NxM AfM GdM EvMR EvMQ EvMD EvMC Nm Gm
theorem bares_mem : ∀ {l : List AV} {x : AV}, AV.bares l = true → x ∈ l → x.bare = true
  | y :: l, x, h, hx => by
    simp only [AV.bares, Bool.and_eq_true] at h
    rcases List.mem_cons.1 hx with rfl | hx
    · exact h.1
    · exact bares_mem h.2 hx
theorem bares_of : ∀ {l : List AV}, (∀ x ∈ l, AV.bare x = true) → AV.bares l = true
  | [], _ => rfl
  | y :: l, h => by simp only [AV.bares, h y List.mem_cons_self, bares_of fun x hx => h x (List.mem_cons_of_mem _ hx), Bool.and_self]
theorem bares_cut {l cs : List AV} {i n : Nat} (h : AV.bares l = true) (hc : cut l i n = some cs) : AV.bares cs = true := by
  rw [cut_eq] at hc
  split at hc
  · cases hc
    exact bares_of fun x hx => bares_mem h (List.mem_of_mem_drop (List.mem_of_mem_take hx))
  · cases hc
theorem cut_get {l cs : List AV} {i n : Nat} (hc : cut l i n = some cs) : cs.length = n ∧ ∀ j, j < n → l[i + j]? = cs[j]? := by
  rw [cut_eq] at hc
  split at hc
  · rename_i e
    cases hc
    exact ⟨e, fun j hj => by rw [List.getElem?_take, if_pos hj, List.getElem?_drop]⟩
  · cases hc
section
variable {h : Heap} {B : Nat → Prop}
theorem Lv.int_inv {x : AV} {k : IntKind} {m : Int} (l : Lv h B x (.int k m)) : x = .int k m := by
  obtain ⟨D, f, _⟩ := l
  cases f
  rfl
theorem Lv.nils_inv {x : AV} (l : Lv h B x .nils) : x = .nils := by
  obtain ⟨D, f, _⟩ := l
  cases f
  rfl
theorem Fds.get : ∀ {x y : List AV} {D : List Nat}, Fds h x y D → ∀ {j : Nat} {b : AV}, y[j]? = some b → ∃ a E, x[j]? = some a ∧ a ∈ x ∧ Fd h a b E ∧ ∀ c ∈ E, c ∈ D
  | _, _, _, .nil, j, b, e => by simp at e
  | _, _, _, .cons (x := x) (D := D) f t, 0, b, e => by
    simp only [List.getElem?_cons_zero, Option.some.injEq] at e
    subst e
    exact ⟨x, D, rfl, List.mem_cons_self, f, fun c hc => List.mem_append_left _ hc⟩
  | _, _, _, .cons f t, j + 1, b, e => by
    simp only [List.getElem?_cons_succ] at e
    obtain ⟨a, E, h1, h2, h3, h4⟩ := t.get e
    exact ⟨a, E, by simpa using h1, List.mem_cons_of_mem _ h2, h3, fun c hc => List.mem_append_right _ (h4 c hc)⟩
theorem Lvs.get {x y : List AV} (l : Lvs h B x y) {j : Nat} {b : AV} (e : y[j]? = some b) : ∃ a, x[j]? = some a ∧ Lv h B a b := by
  obtain ⟨D, f, hb, o, i⟩ := l
  obtain ⟨a, E, h1, h2, h3, h4⟩ := f.get e
  exact ⟨a, h1, E, h3, bares_mem hb h2, fun c hc => o c (h4 c hc), fun c hc => i c (h4 c hc)⟩
theorem Lv.row_inv {x : AV} {cs : List AV} {n z : Nat} (l : Lv h B x (cRow cs n)) (hn : 0 < n) (hl : cs.length = n * z) : ∃ b off cap, x = .sl b off n cap z ∧ B b ∧ b < h.next ∧ ∀ j y, cs[j]? = some y → ∃ a, At h b (off + j) a ∧ Lv h B a y := by
  rw [cRow_s _ hn] at l
  obtain ⟨D, f, hb, o, i⟩ := l
  cases f with
  | told hx => cases hb
  | sl0 => omega
  | @sl b off len cap sz l c0 _ e ver D hl0 hnx hg hc t =>
    have hz : sz = z := by
      have := t.length
      obtain ⟨h1, _⟩ := cut_get hc
      rw [hl, h1] at this
      exact (Nat.eq_of_mul_eq_mul_left hn this).symm
    subst hz
    obtain ⟨l', e', ver', hg', hb'⟩ := o b List.mem_cons_self
    rw [hg] at hg'
    cases hg'
    have ls : Lvs h B c0 cs := ⟨D, t, bares_cut hb' hc, fun c hc => o c (List.mem_cons_of_mem _ hc), fun c hc => i c (List.mem_cons_of_mem _ hc)⟩
    refine ⟨b, off, cap, rfl, i b List.mem_cons_self, hnx, fun j y hy => ?_⟩
    obtain ⟨a, ha, la⟩ := ls.get hy
    obtain ⟨h1, h2⟩ := cut_get hc
    obtain ⟨hj, _⟩ := List.getElem?_eq_some_iff.1 ha
    exact ⟨a, ⟨l, e, ver, hg, by rw [h2 j (by omega)]; exact ha⟩, la⟩
theorem flat_get {α : Type} {F : α → List AV} {z : Nat} (hF : ∀ x, (F x).length = z) : ∀ {l : List α} {i j : Nat} (hi : i < l.length), j < z → ((l.map F).flatten)[i * z + j]? = (F l[i])[j]?
  | x :: l, 0, j, _, hj => by
    rw [List.map_cons, List.flatten_cons, Nat.zero_mul, Nat.zero_add, List.getElem?_append_left (by rw [hF]; exact hj)]
    rfl
  | x :: l, i + 1, j, hi, hj => by
    rw [List.map_cons, List.flatten_cons, List.getElem?_append_right (by rw [hF, Nat.add_mul]; omega), hF, show (i + 1) * z + j - z = i * z + j by rw [Nat.add_mul]; omega, flat_get hF (by simpa using hi) hj]
    rfl
theorem flat_len8 {α : Type} {F : α → List AV} {z : Nat} (hF : ∀ x, (F x).length = z) : ∀ {l : List α}, ((l.map F).flatten).length = l.length * z
  | [] => by simp
  | x :: l => by rw [List.map_cons, List.flatten_cons, List.length_append, hF, flat_len8 hF, List.length_cons, Nat.add_mul]; omega
theorem LInts.of {v : AV} {l : List Int} (a : Lv h B v (cInts l)) (hs : intsSm l) : LInts h B v := by
  by_cases h0 : l.length = 0
  · have : l = [] := List.eq_nil_of_length_eq_zero h0
    subst this
    exact .inl (.inl a.nils_inv)
  · obtain ⟨b, off, cap, rfl, hB, hb, hg⟩ := a.row_inv (z := 1) (by omega) (by rw [List.length_map, Nat.mul_one])
    refine .inr ⟨b, off, l.length, cap, rfl, Nat.le_trans hs.1 (by decide), hB, hb, fun i hi => ?_⟩
    obtain ⟨x, ax, lx⟩ := hg i (.int .i64 l[i]) (by rw [List.getElem?_map, List.getElem?_eq_getElem hi]; rfl)
    rw [lx.int_inv] at ax
    exact ⟨_, ax⟩
theorem LPts.of {v : AV} {l : List Pt} (a : Lv h B v (cRing l)) (hs : ringSm l) : LPts h B v := by
  by_cases h0 : l.length = 0
  · have : l = [] := List.eq_nil_of_length_eq_zero h0
    subst this
    exact .inl (.inl a.nils_inv)
  · obtain ⟨b, off, cap, rfl, hB, hb, hg⟩ := a.row_inv (z := 2) (by omega) (flat_len8 (F := cPt) fun _ => rfl)
    refine .inr ⟨b, off, l.length, cap, rfl, Nat.le_trans hs.1 (by decide), hB, hb, fun i hi => ?_⟩
    obtain ⟨x, ax, lx⟩ := hg (i * 2 + 0) (.int .i64 l[i].x) (by rw [flat_get (F := cPt) (z := 2) (fun _ => rfl) hi (by decide)]; rfl)
    rw [lx.int_inv] at ax
    exact ⟨_, ax⟩
theorem LRings.of {v : AV} {l : List (List Pt)} (a : Lv h B v (cRings l)) (h1 : l.length ≤ 1000000) (hs : ∀ r ∈ l, ringSm r) : LRings h B v := by
  by_cases h0 : l.length = 0
  · have : l = [] := List.eq_nil_of_length_eq_zero h0
    subst this
    exact .inl (.inl a.nils_inv)
  · obtain ⟨b, off, cap, rfl, hB, hb, hg⟩ := a.row_inv (z := 1) (by omega) (by rw [List.length_map, Nat.mul_one])
    refine .inr ⟨b, off, l.length, cap, rfl, Nat.le_trans h1 (by decide), hB, hb, fun i hi => ?_⟩
    obtain ⟨x, ax, lx⟩ := hg i (cRing l[i]) (by rw [List.getElem?_map, List.getElem?_eq_getElem hi]; rfl)
    exact ⟨x, ax, LPts.of lx (hs _ (List.getElem_mem hi))⟩
theorem LOps.of {v : AV} {l : List Op} (a : Lv h B v (cOpsL l)) (hs : opsSm l) : LOps h B v := by
  by_cases h0 : l.length = 0
  · have : l = [] := List.eq_nil_of_length_eq_zero h0
    subst this
    exact .inl (.inl a.nils_inv)
  · obtain ⟨b, off, cap, rfl, hB, hb, hg⟩ := a.row_inv (z := 8) (by omega) (flat_len8 (F := cOpL) fun _ => rfl)
    refine .inr ⟨b, off, l.length, cap, rfl, Nat.le_trans hs.1 (by decide), hB, hb, fun i hi => ?_⟩
    obtain ⟨s1, s2, s3, s4⟩ := hs.2 _ (List.getElem_mem hi)
    have get : ∀ j (y : AV), j < 8 → (cOpL l[i])[j]? = some y → ∃ a, At h b (off + i * 8 + j) a ∧ Lv h B a y := fun j y hj hy => by
      rw [Nat.add_assoc]
      exact hg (i * 8 + j) y (by rw [flat_get (F := cOpL) (z := 8) (fun _ => rfl) hi hj]; exact hy)
    have num : ∀ j (m : Int), j < 8 → (cOpL l[i])[j]? = some (.int .i64 m) → AtI h b (off + i * 8 + j) := fun j m hj hy => by
      obtain ⟨x, ax, lx⟩ := get j _ hj hy
      rw [lx.int_inv] at ax
      exact ⟨_, ax⟩
    have any : ∀ {j}, AtI h b j → AtE h b j := fun ⟨m, hm⟩ => ⟨_, hm, rfl⟩
    obtain ⟨x3, a3, l3⟩ := get 3 _ (by decide) rfl
    obtain ⟨x6, a6, l6⟩ := get 6 _ (by decide) rfl
    obtain ⟨x7, a7, l7⟩ := get 7 _ (by decide) rfl
    exact ⟨num 1 _ (by decide) rfl, any (num 2 _ (by decide) rfl), ⟨x3, a3, LRings.of l3 s2.2.2.1 s2.2.2.2⟩, num 4 _ (by decide) rfl, any (num 5 _ (by decide) rfl), ⟨x6, a6, LInts.of l6 s4.2.1⟩, x7, a7, LInts.of l7 s4.2.2⟩
end
end Go.Proofs.Ytinonmcnofjeeaa.VM
namespace Go.Proofs.Ytinonmcnofjeeaa.VM
attribute [local irreducible] Af Nx EvO Ev Un Gd Cd EvR EvQ EvC Nc Gc Lp EvM NxM AfM GdM EvMR EvMQ EvMD EvMC Nm Gm
structure Bx where
  x0 : Int
  y0 : Int
  x1 : Int
  y1 : Int
def boxV (b : Bx) : List AV := [.int .i64 b.x0, .int .i64 b.y0, .int .i64 b.x1, .int .i64 b.y1]
def boxOk (b : Bx) : Prop := coordOk b.x0 ∧ coordOk b.y0 ∧ coordOk b.x1 ∧ coordOk b.y1 ∧ b.x0 ≤ b.x1 ∧ b.y0 ≤ b.y1
instance (b : Bx) : Decidable (boxOk b) := by unfold boxOk; infer_instance
def nodeOk (x : Int) : Prop := 0 ≤ x ∧ x < 8
instance (x : Int) : Decidable (nodeOk x) := by unfold nodeOk; infer_instance
def feat0 : Feat := ⟨0, 0, []⟩
def featsAt (l : List Feat) (i : Nat) : Prop := featOk (l.getD i feat0) ∧ (0 < i → (l.getD (i - 1) feat0).id < (l.getD i feat0).id)
def featsOk (l : List Feat) : Prop := ∀ i, i < l.length → featsAt l i
section
variable {P : Program}
theorem node_pu (g : Pg P tab) (x : Int) : Pu P 98 [.int .i64 x] (fun v => v = .bool (decide (nodeOk x))) := by
  refine g.pu (vf := v98) rfl rfl ?_
  simp +contextual (maxSteps := 2000000) (disch := omega) only [v98, nodeOk, RX, VOp.fresh, bxC, bsC, un, most, callsOf, seval, Int.reducePow, ↓reduceIte, Nat.reduceEqDiff, reduceCtorEq]
theorem boxMay_pu (g : Pg P tab) (b : Bx) : Pu P 111 [.agg (boxV b)] (fun v => v = .bool (decide (boxOk b))) := by
  refine g.pu (vf := v111) rfl rfl ?_
  obtain ⟨x0, y0, x1, y1⟩ := b
  have stop : ∀ x y : Int, OK P 122 [.int .i64 x] ⟨1, .e⟩ (.bool (decide (coordOk x))) ⟨1, .e⟩ := fun x y => (coord_pu g x).exact rfl
  simp only [v111, boxV, RX, VOp.fresh, bxC, bsC, un, most, callsOf, seval, Int.reducePow, ↓reduceIte, Nat.reduceEqDiff, reduceCtorEq]
  refine (coord_pu g _).go rfl ?_
  rintro v rfl
  by_cases h1 : coordOk x0
  · simp only [h1, RX, VOp.fresh, bxC, bsC, un, most, callsOf, seval, Int.reducePow, ↓reduceIte, Nat.reduceEqDiff, reduceCtorEq]
    refine (coord_pu g _).go rfl ?_
    rintro v rfl
    by_cases h2 : coordOk y0
    · simp only [h2, RX, VOp.fresh, bxC, bsC, un, most, callsOf, seval, Int.reducePow, ↓reduceIte, Nat.reduceEqDiff, reduceCtorEq]
      refine (coord_pu g _).go rfl ?_
      rintro v rfl
      by_cases h3 : coordOk x1
      · simp only [h3, RX, VOp.fresh, bxC, bsC, un, most, callsOf, seval, Int.reducePow, ↓reduceIte, Nat.reduceEqDiff, reduceCtorEq]
        refine (coord_pu g _).go rfl ?_
        rintro v rfl
        by_cases h4 : coordOk y1
        · simp +contextual (maxSteps := 2000000) only [h4, boxOk, h1, h2, h3, RX, VOp.fresh, bxC, bsC, un, most, callsOf, seval, Int.reducePow, ↓reduceIte, Nat.reduceEqDiff, reduceCtorEq]
        · simp only [h4, boxOk, RX, VOp.fresh, bxC, bsC, un, most, callsOf, seval, Int.reducePow, ↓reduceIte, Nat.reduceEqDiff, reduceCtorEq]
      · simp only [h3, boxOk, RX, VOp.fresh, bxC, bsC, un, most, callsOf, seval, Int.reducePow, ↓reduceIte, Nat.reduceEqDiff, reduceCtorEq]
    · simp only [h2, boxOk, RX, VOp.fresh, bxC, bsC, un, most, callsOf, seval, Int.reducePow, ↓reduceIte, Nat.reduceEqDiff, reduceCtorEq]
  · simp only [h1, boxOk, RX, VOp.fresh, bxC, bsC, un, most, callsOf, seval, Int.reducePow, ↓reduceIte, Nat.reduceEqDiff, reduceCtorEq]
theorem isL_one {b : Nat} {α : Type} {R : α → List AV → Prop} {v : AV} {l : List α} (h : IsL b R v l) : v.one = true := by
  rcases h.2 with ⟨rfl, _⟩ | ⟨c, rfl, _⟩ <;> rfl
theorem zFeat (a : Feat) (c : List AV) (h : RFeat a c) : c.length = 3 := by obtain ⟨v, rfl, _⟩ := h; rfl
theorem getFeat {v : AV} {l : List Feat} (h : IsL 40 RFeat v l) (i : Nat) (hi : i < l.length) : ∃ rv r, IsL 24 RRing rv (l.getD i feat0).rings ∧ I64 (l.getD i feat0).id ∧ I64 (l.getD i feat0).shape ∧ AV.tolds r = true ∧
    ∀ (hh : Heap) (kk : IntKind), iaV hh 3 none v (.int kk (i : Int)) = .val (.rp (.int .i64 (l.getD i feat0).id :: .int .i64 (l.getD i feat0).shape :: rv :: r)) hh := by
  obtain ⟨ci, r, ⟨rv, e, i1, i2, hr⟩, ht, hia⟩ := h.get zFeat tFeat i hi
  have : l.getD i feat0 = l[i] := by simp [List.getD_eq_getElem?_getD, List.getElem?_eq_getElem hi]
  refine ⟨rv, r, by rw [this]; exact hr, by rw [this]; exact i1, by rw [this]; exact i2, ?_, fun hh kk => ?_⟩
  · rw [e] at ht
    simp only [AV.tolds, List.cons_append, List.nil_append, Bool.and_eq_true] at ht
    exact ht.2.2.2
  · rw [hia, e, this]; rfl
theorem rising_loop (g : Pg P tab) {l : List Feat} {v : AV} (hv : IsL 40 RFeat v l) (n : Nat) :
    ∀ (i : Nat) (s : T AV) (hh : Heap) (k : List Fr) (Q : Ex → T AV → Heap → Prop), i + n = l.length → sg s 0 = v → sg s 5 = v → sg s 6 = .int .i64 l.length → sg s 7 = .int .i64 i →
      ((∀ j, i ≤ j → j < l.length → featsAt l j) → ∀ s' h', Un P k Q (.exit 0) s' h') → ((¬ ∀ j, i ≤ j → j < l.length → featsAt l j) → ∀ s' h', sg s' 2 = .bool false → Un P k Q .ret s' h') → Lp P b112_0 s hh (Un P k Q) := by
  have hb := hv.bound (by decide)
  induction n with
  | zero =>
    intro i s hh k Q hi h0 h5 h6 h7 hK hR
    refine g.lpe b112_0.eq_1 ?_
    have c1 : ¬ ((i : Int) < (l.length : Int)) := by omega
    simp only [h6, h7, c1, RX, VOp.fresh, bxC, bsC, un, most, callsOf, seval, Int.reducePow, ↓reduceIte, Nat.reduceEqDiff, reduceCtorEq]
    exact hK (fun j h1 h2 => by omega) _ _
  | succ n ih =>
    intro i s hh k Q hi h0 h5 h6 h7 hK hR
    refine g.lpe b112_0.eq_1 ?_
    have c1 : (i : Int) < (l.length : Int) := by omega
    obtain ⟨rv, r1, hrv, _, _, _, g1⟩ := getFeat hv i (by omega)
    have w1 : IntKind.i64.wrap ((i : Int) + 1) = ((i + 1 : Nat) : Int) := by rw [w64 (by omega) (by omega)]; push_cast; rfl
    have w2 : IntKind.i64.wrap ((i : Int) - 1) = (i : Int) - 1 := w64 (by omega) (by omega)
    simp only [h0, h5, h6, h7, c1, g1, RW, isL_one hrv, RX, VOp.fresh, bxC, bsC, un, most, callsOf, seval, Int.reducePow, ↓reduceIte, Nat.reduceEqDiff, reduceCtorEq]
    refine (shapeMay_pu g hrv).go (by simp [AV.tolds, AV.told, hrv.told tRing]) ?_
    rintro x ⟨b, rfl, hbb⟩
    have no : ¬ featsAt l i → ¬ ∀ j, i ≤ j → j < l.length → featsAt l j := fun h hall => h (hall i (Nat.le_refl _) (by omega))
    have step : featsAt l i → ∀ s' h', sg s' 0 = v → sg s' 5 = v → sg s' 6 = .int .i64 l.length → sg s' 7 = .int .i64 (i + 1 : Nat) → Lp P b112_0 s' h' (Un P k Q) := fun hok s' h' a0 a5 a6 a7 => by
      have all : (∀ j, i ≤ j → j < l.length → featsAt l j) ↔ ∀ j, i + 1 ≤ j → j < l.length → featsAt l j := ⟨fun h j h1 h2 => h j (by omega) h2, fun h j h1 h2 => by
        rcases Nat.lt_or_ge i j with h3 | h3
        · exact h j h3 h2
        · rw [show j = i by omega]; exact hok⟩
      refine ih (i + 1) _ _ k Q (by omega) a0 a5 a6 a7 (fun h => hK (all.2 h)) (fun h => hR (fun h' => h (all.1 h')))
    cases b
    · simp only [RX, VOp.fresh, bxC, bsC, un, most, callsOf, seval, Int.reducePow, ↓reduceIte, Nat.reduceEqDiff, reduceCtorEq]
      exact hR (no fun h => by have := hbb.2 h.1; cases this) _ _ (by simp only [sg_set, Nat.reduceEqDiff, ↓reduceIte])
    · simp only [h0, h7, RX, VOp.fresh, bxC, bsC, un, most, callsOf, seval, Int.reducePow, ↓reduceIte, Nat.reduceEqDiff, reduceCtorEq]
      by_cases hi0 : i = 0
      · have c2 : ¬ ((0 : Int) < (i : Int)) := by omega
        simp only [c2, h7, w1, RX, VOp.fresh, bxC, bsC, un, most, callsOf, seval, Int.reducePow, ↓reduceIte, Nat.reduceEqDiff, reduceCtorEq]
        refine step ⟨hbb.1 rfl, fun h => by omega⟩ _ _ ?_ ?_ ?_ ?_
        · simp only [h0, sg_set, Nat.reduceEqDiff, ↓reduceIte]
        · simp only [h5, sg_set, Nat.reduceEqDiff, ↓reduceIte]
        · simp only [h6, sg_set, Nat.reduceEqDiff, ↓reduceIte]
        · simp only [sg_set, Nat.reduceEqDiff, ↓reduceIte]
      · have c2 : (0 : Int) < (i : Int) := by omega
        obtain ⟨rv', r1', hrv', _, _, _, g1'⟩ := getFeat hv (i - 1) (by omega)
        have ec : ((i - 1 : Nat) : Int) = (i : Int) - 1 := by omega
        rw [ec] at g1'
        simp only [c2, w2, g1', RX, VOp.fresh, bxC, bsC, un, most, callsOf, seval, Int.reducePow, ↓reduceIte, Nat.reduceEqDiff, reduceCtorEq]
        by_cases hid : (l.getD (i - 1) feat0).id < (l.getD i feat0).id
        · have c3 : ¬ (l.getD i feat0).id ≤ (l.getD (i - 1) feat0).id := by omega
          simp only [c3, h7, w1, RX, VOp.fresh, bxC, bsC, un, most, callsOf, seval, Int.reducePow, ↓reduceIte, Nat.reduceEqDiff, reduceCtorEq]
          refine step ⟨hbb.1 rfl, fun h => hid⟩ _ _ ?_ ?_ ?_ ?_
          · simp only [h0, sg_set, Nat.reduceEqDiff, ↓reduceIte]
          · simp only [h5, sg_set, Nat.reduceEqDiff, ↓reduceIte]
          · simp only [h6, sg_set, Nat.reduceEqDiff, ↓reduceIte]
          · simp only [sg_set, Nat.reduceEqDiff, ↓reduceIte]
        · have c3 : (l.getD i feat0).id ≤ (l.getD (i - 1) feat0).id := by omega
          simp only [c3, RX, VOp.fresh, bxC, bsC, un, most, callsOf, seval, Int.reducePow, ↓reduceIte, Nat.reduceEqDiff, reduceCtorEq]
          exact hR (no fun h => hid (h.2 (by omega))) _ _ (by simp only [sg_set, Nat.reduceEqDiff, ↓reduceIte])
theorem rising_pu (g : Pg P tab) {l : List Feat} {v : AV} (hv : IsL 40 RFeat v l) : Pu P 112 [v] (IsB (featsOk l)) := by
  refine g.pu (vf := v112) rfl rfl ?_
  simp only [v112, hv.len, RX, VOp.fresh, bxC, bsC, un, most, callsOf, seval, Int.reducePow, ↓reduceIte, Nat.reduceEqDiff, reduceCtorEq]
  refine rising_loop g hv l.length 0 _ _ _ _ (by omega) ?_ ?_ ?_ ?_ ?_ ?_
  · simp only [sg_set, Nat.reduceEqDiff, ↓reduceIte]
  · simp only [sg_set, Nat.reduceEqDiff, ↓reduceIte]
  · simp only [sg_set, Nat.reduceEqDiff, ↓reduceIte]
  · simp only [sg_set, Nat.reduceEqDiff, ↓reduceIte]
    rfl
  · intro h s' h'
    simp only [RX, VOp.fresh, bxC, bsC, un, most, callsOf, seval, Int.reducePow, ↓reduceIte, Nat.reduceEqDiff, reduceCtorEq]
    exact fun i hi => h i (by omega) hi
  · intro h s' h' h2
    simp only [h2, RX, VOp.fresh, bxC, bsC, un, most, callsOf, seval, Int.reducePow, ↓reduceIte, Nat.reduceEqDiff, reduceCtorEq]
    exact fun hok => h fun j _ hj => hok j hj
end
structure Ms where
  kind : Int
  frm : Int
  to : Int
  node : Int
  seq : Int
  base : Int
  yes : Bool
  query : Int
  applied : Int
  busy : Bool
  box : Bx
  ops : List Op
  fs : List Feat
def msC (m : Ms) (a u : AV) : List AV := [.int .i64 m.kind, .int .i64 m.frm, .int .i64 m.to, .int .i64 m.node, .int .i64 m.seq, .int .i64 m.base, .bool m.yes, .int .i64 m.query, .int .i64 m.applied, .bool m.busy, .int .i64 m.box.x0, .int .i64 m.box.y0, .int .i64 m.box.x1, .int .i64 m.box.y1, a, u]
def zeroBox (b : Bx) : Prop := b.x0 = 0 ∧ b.y0 = 0 ∧ b.x1 = 0 ∧ b.y1 = 0
instance (b : Bx) : Decidable (zeroBox b) := by unfold zeroBox; infer_instance
def kTx (k : Int) : Bool := decide (0 ≤ k ∧ k ≤ 4)
def kOps (k : Int) : Bool := decide (k = 0)
def kYes (k : Int) : Bool := decide (k = 1 ∨ k = 2)
def kQuery (k : Int) : Bool := decide (k = 5 ∨ k = 6)
def kPart (k : Int) : Bool := decide (k = 6)
def rowV (k : Int) : AV := .agg [.bool (kTx k), .bool (kOps k), .bool (kYes k), .bool (kQuery k), .bool (kPart k)]
def opsM (m : Ms) : Prop := if kOps m.kind = true then (-1 ≤ m.base ∧ m.base ≤ 65535) ∧ opsOk 8 m.ops else m.base = 0 ∧ m.ops = []
def queryM (m : Ms) : Prop := if kQuery m.kind = true then (1 ≤ m.query ∧ m.query ≤ 65535) ∧ boxOk m.box else m.query = 0 ∧ zeroBox m.box
def partM (m : Ms) : Prop := if kPart m.kind = true then (0 ≤ m.applied ∧ m.applied ≤ 2147483647) ∧ m.fs.length ≤ 256 ∧ (m.busy = true → m.fs = []) ∧ featsOk m.fs else m.applied = 0 ∧ m.busy = false ∧ m.fs = []
def txM (m : Ms) : Prop := if kTx m.kind = true then txOk m.node m.seq else m.node = 0 ∧ m.seq = 0
def msOk (m : Ms) : Prop := (0 ≤ m.kind ∧ m.kind ≤ 6) ∧ nodeOk m.frm ∧ nodeOk m.to ∧ txM m ∧ (kYes m.kind = true ∨ m.yes = false) ∧ opsM m ∧ queryM m ∧ partM m
section
variable {P : Program}
theorem rowOf_pu (g : Pg P tab) (k : Int) : Pu P 77 [.int .i64 k] (fun v => v = .tup [rowV k, .bool (decide (0 ≤ k ∧ k ≤ 6))]) := by
  have h : (k = 0 ∨ k = 1 ∨ k = 2 ∨ k = 3 ∨ k = 4 ∨ k = 5 ∨ k = 6) ∨ (k ≠ 0 ∧ k ≠ 1 ∧ k ≠ 2 ∧ k ≠ 3 ∧ k ≠ 4 ∧ k ≠ 5 ∧ k ≠ 6) := by omega
  rcases h with h | ⟨h0, h1, h2, h3, h4, h5, h6⟩
  · rcases h with rfl | rfl | rfl | rfl | rfl | rfl | rfl <;> (refine g.pu (vf := v77) rfl rfl ?_; simp only [v77, RW, RX, VOp.fresh, bxC, bsC, un, most, callsOf, seval, Int.reducePow, ↓reduceIte, Nat.reduceEqDiff, reduceCtorEq]; exact ⟨_, .tup (.cons (.agg (.cons (.bool _) (.cons (.bool _) (.cons (.bool _) (.cons (.bool _) (.cons (.bool _) .nil)))))) (.cons (.bool _) .nil)), rfl⟩)
  · refine g.pu (vf := v77) rfl rfl ?_
    simp only [v77, RW, h0, h1, h2, h3, h4, h5, h6, RX, VOp.fresh, bxC, bsC, un, most, callsOf, seval, Int.reducePow, ↓reduceIte, Nat.reduceEqDiff, reduceCtorEq]
    refine ⟨_, .tup (.cons (.agg (.cons (.bool _) (.cons (.bool _) (.cons (.bool _) (.cons (.bool _) (.cons (.bool _) .nil)))))) (.cons (.bool _) .nil)), ?_⟩
    have n1 : ¬ (0 ≤ k ∧ k ≤ 6) := by omega
    have n2 : ¬ (0 ≤ k ∧ k ≤ 4) := by omega
    simp only [rowV, kTx, kOps, kYes, kQuery, kPart, h0, h1, h2, h5, h6, n1, n2, or_self, decide_false]
variable {m : Ms} {a u : AV} {t : List AV}
theorem opsMayM_pu (g : Pg P tab) (ha : IsL 112 ROp a m.ops) (tx yes q pt : Bool) : Pu P 99 [.agg [.bool tx, .bool (kOps m.kind), .bool yes, .bool q, .bool pt], .rp (msC m a u ++ t)] (IsB (opsM m)) := by
  refine g.pu (vf := v99) rfl rfl ?_
  unfold opsM
  cases kOps m.kind with
  | false =>
    simp only [v99, msC, ha.len, RX, VOp.fresh, bxC, bsC, un, most, callsOf, seval, Int.reducePow, ↓reduceIte, Nat.reduceEqDiff, reduceCtorEq]
    by_cases h1 : m.base = 0
    · simp only [h1, ha.len, len0, RX, VOp.fresh, bxC, bsC, un, most, callsOf, seval, Int.reducePow, ↓reduceIte, Nat.reduceEqDiff, reduceCtorEq]
    · simp only [h1, RX, VOp.fresh, bxC, bsC, un, most, callsOf, seval, Int.reducePow, ↓reduceIte, Nat.reduceEqDiff, reduceCtorEq]
  | true =>
    simp only [v99, msC, RX, VOp.fresh, bxC, bsC, un, most, callsOf, seval, Int.reducePow, ↓reduceIte, Nat.reduceEqDiff, reduceCtorEq]
    refine (baseMay_pu g _).go rfl ?_
    rintro v rfl
    by_cases h1 : -1 ≤ m.base ∧ m.base ≤ 65535
    · simp only [h1, RX, VOp.fresh, bxC, bsC, un, most, callsOf, seval, Int.reducePow, ↓reduceIte, Nat.reduceEqDiff, reduceCtorEq]
      refine (opsMay_pu g ha).go (by simp [AV.tolds, AV.told, ha.told tOp]) ?_
      rintro v ⟨b, rfl, hb⟩
      simp only [RX, VOp.fresh, bxC, bsC, un, most, callsOf, seval, Int.reducePow, ↓reduceIte, Nat.reduceEqDiff, reduceCtorEq]
      exact hb
    · simp only [h1, RX, VOp.fresh, bxC, bsC, un, most, callsOf, seval, Int.reducePow, ↓reduceIte, Nat.reduceEqDiff, reduceCtorEq]
theorem flat4 {a b c d a' b' c' d' : Int} : eqv (.flat [.int, .int, .int, .int]) (.agg [.int .i64 a, .int .i64 b, .int .i64 c, .int .i64 d]) (.agg [.int .i64 a', .int .i64 b', .int .i64 c', .int .i64 d']) = some (decide (a = a' ∧ b = b' ∧ c = c' ∧ d = d')) := by
  by_cases h1 : a = a' <;> by_cases h2 : b = b' <;> by_cases h3 : c = c' <;> by_cases h4 : d = d' <;> simp [eqv, sameCells, sameK, h1, h2, h3, h4]
theorem queryMayM_pu (g : Pg P tab) (tx ops yes pt : Bool) : Pu P 100 [.agg [.bool tx, .bool ops, .bool yes, .bool (kQuery m.kind), .bool pt], .rp (msC m a u ++ t)] (IsB (queryM m)) := by
  refine g.pu (vf := v100) rfl rfl ?_
  unfold queryM
  cases kQuery m.kind with
  | false =>
    simp only [v100, msC, RX, VOp.fresh, bxC, bsC, un, most, callsOf, seval, Int.reducePow, ↓reduceIte, Nat.reduceEqDiff, reduceCtorEq]
    by_cases h1 : m.query = 0
    · simp only [h1, flat4, zeroBox, RX, VOp.fresh, bxC, bsC, un, most, callsOf, seval, Int.reducePow, ↓reduceIte, Nat.reduceEqDiff, reduceCtorEq]
    · simp only [h1, RX, VOp.fresh, bxC, bsC, un, most, callsOf, seval, Int.reducePow, ↓reduceIte, Nat.reduceEqDiff, reduceCtorEq]
  | true =>
    simp only [v100, msC, RX, VOp.fresh, bxC, bsC, un, most, callsOf, seval, Int.reducePow, ↓reduceIte, Nat.reduceEqDiff, reduceCtorEq]
    by_cases h1 : 1 ≤ m.query
    · simp only [h1, RX, VOp.fresh, bxC, bsC, un, most, callsOf, seval, Int.reducePow, ↓reduceIte, Nat.reduceEqDiff, reduceCtorEq]
      by_cases h2 : m.query ≤ 65535
      · simp only [h2, RX, VOp.fresh, bxC, bsC, un, most, callsOf, seval, Int.reducePow, ↓reduceIte, Nat.reduceEqDiff, reduceCtorEq]
        refine (boxMay_pu g m.box).go rfl ?_
        rintro v rfl
        simp only [RX, VOp.fresh, bxC, bsC, un, most, callsOf, seval, Int.reducePow, ↓reduceIte, Nat.reduceEqDiff, reduceCtorEq]
      · simp only [h2, RX, VOp.fresh, bxC, bsC, un, most, callsOf, seval, Int.reducePow, ↓reduceIte, Nat.reduceEqDiff, reduceCtorEq]
    · simp only [h1, RX, VOp.fresh, bxC, bsC, un, most, callsOf, seval, Int.reducePow, ↓reduceIte, Nat.reduceEqDiff, reduceCtorEq]
theorem partMayM_pu (g : Pg P tab) (hu : IsL 40 RFeat u m.fs) (tx ops yes q : Bool) : Pu P 101 [.agg [.bool tx, .bool ops, .bool yes, .bool q, .bool (kPart m.kind)], .rp (msC m a u ++ t)] (IsB (partM m)) := by
  refine g.pu (vf := v101) rfl rfl ?_
  unfold partM
  have hcl : ((m.fs.length : Int) ≤ 256) = (m.fs.length ≤ 256) := by rw [eq_iff_iff]; omega
  cases kPart m.kind with
  | false =>
    cases hb : m.busy <;> simp only [v101, msC, hb, hu.len, RX, VOp.fresh, bxC, bsC, un, most, callsOf, seval, Int.reducePow, ↓reduceIte, Nat.reduceEqDiff, reduceCtorEq] <;> by_cases h1 : m.applied = 0 <;> simp only [h1, hu.len, len0, hb, RX, VOp.fresh, bxC, bsC, un, most, callsOf, seval, Int.reducePow, ↓reduceIte, Nat.reduceEqDiff, reduceCtorEq]
  | true =>
    cases hb : m.busy with
    | false =>
      simp only [v101, msC, hb, hu.len, RX, VOp.fresh, bxC, bsC, un, most, callsOf, seval, Int.reducePow, ↓reduceIte, Nat.reduceEqDiff, reduceCtorEq]
      by_cases h1 : 0 ≤ m.applied
      · by_cases h2 : m.applied ≤ 2147483647
        · by_cases h3 : m.fs.length ≤ 256
          · simp only [h1, h2, h3, hcl, hu.len, len0, hb, RX, VOp.fresh, bxC, bsC, un, most, callsOf, seval, Int.reducePow, ↓reduceIte, Nat.reduceEqDiff, reduceCtorEq]
            refine (rising_pu g hu).go (by simp [AV.tolds, AV.told, hu.told tFeat]) ?_
            rintro v ⟨b, rfl, hb⟩
            simp only [RX, VOp.fresh, bxC, bsC, un, most, callsOf, seval, Int.reducePow, ↓reduceIte, Nat.reduceEqDiff, reduceCtorEq]
            exact hb
          · simp only [h1, h2, h3, hcl, hu.len, RX, VOp.fresh, bxC, bsC, un, most, callsOf, seval, Int.reducePow, ↓reduceIte, Nat.reduceEqDiff, reduceCtorEq]
        · simp only [h1, h2, RX, VOp.fresh, bxC, bsC, un, most, callsOf, seval, Int.reducePow, ↓reduceIte, Nat.reduceEqDiff, reduceCtorEq]
      · simp only [h1, RX, VOp.fresh, bxC, bsC, un, most, callsOf, seval, Int.reducePow, ↓reduceIte, Nat.reduceEqDiff, reduceCtorEq]
    | true =>
      simp only [v101, msC, hb, hu.len, RX, VOp.fresh, bxC, bsC, un, most, callsOf, seval, Int.reducePow, ↓reduceIte, Nat.reduceEqDiff, reduceCtorEq]
      by_cases h1 : 0 ≤ m.applied
      · by_cases h2 : m.applied ≤ 2147483647
        · by_cases h3 : m.fs.length ≤ 256
          · by_cases h4 : m.fs = []
            · simp only [h1, h2, h3, hcl, hu.len, len0, hb, h4, RX, VOp.fresh, bxC, bsC, un, most, callsOf, seval, Int.reducePow, ↓reduceIte, Nat.reduceEqDiff, reduceCtorEq]
              rw [h4] at hu
              refine (rising_pu g hu).go (by simp [AV.tolds, AV.told, hu.told tFeat]) ?_
              rintro v ⟨b, rfl, hb⟩
              simp only [RX, VOp.fresh, bxC, bsC, un, most, callsOf, seval, Int.reducePow, ↓reduceIte, Nat.reduceEqDiff, reduceCtorEq]
              exact hb
            · simp only [h1, h2, h3, hcl, hu.len, len0, hb, h4, RX, VOp.fresh, bxC, bsC, un, most, callsOf, seval, Int.reducePow, ↓reduceIte, Nat.reduceEqDiff, reduceCtorEq]
          · simp only [h1, h2, h3, hcl, hu.len, RX, VOp.fresh, bxC, bsC, un, most, callsOf, seval, Int.reducePow, ↓reduceIte, Nat.reduceEqDiff, reduceCtorEq]
        · simp only [h1, h2, RX, VOp.fresh, bxC, bsC, un, most, callsOf, seval, Int.reducePow, ↓reduceIte, Nat.reduceEqDiff, reduceCtorEq]
      · simp only [h1, RX, VOp.fresh, bxC, bsC, un, most, callsOf, seval, Int.reducePow, ↓reduceIte, Nat.reduceEqDiff, reduceCtorEq]
theorem Pu.bool {f : Nat} {args : List AV} {p : Prop} (q : Pu P f args (IsB p)) (ha : AV.tolds args = true) : ∃ b : Bool, (∀ h, OK P f args h (.bool b) h) ∧ (b = true ↔ p) := by
  obtain ⟨v, v', h0, o, hf, b, rfl, hb⟩ := q
  exact ⟨b, fun h => o.pure (Fzs.refl ha) hf, hb⟩
def nodeAns : List AV → AV
  | [.int _ x] => .bool (decide (nodeOk x))
  | _ => .undef
def cMay (b1 b2 b3 : Bool) (f : Nat) (args : List AV) (h : Heap) : AV × Heap := (if f = 98 then nodeAns args else if f = 99 then .bool b1 else if f = 100 then .bool b2 else .bool b3, h)
theorem tolds_ms (ha : IsL 112 ROp a m.ops) (hu : IsL 40 RFeat u m.fs) : AV.tolds (msC m a u) = true := by
  simp [msC, AV.tolds, AV.told, ha.told tOp, hu.told tFeat]
open Classical in
theorem may_pu (g : Pg P tab) (ha : IsL 112 ROp a m.ops) (hu : IsL 40 RFeat u m.fs) (ht : AV.tolds t = true) : Pu P 71 [.rp (msC m a u ++ t)] (fun v => ∃ b : Bool, v = .tup [rowV m.kind, .bool b] ∧ (b = true ↔ msOk m)) := by
  refine g.pu (vf := v71) rfl rfl ?_
  have hm : AV.tolds (msC m a u ++ t) = true := by rw [Cat.told.tolds_append, tolds_ms ha hu, ht]; rfl
  have tr : ∀ k : Int, AV.told (rowV k) = true := fun k => rfl
  have tp : AV.tolds [rowV m.kind, .rp (msC m a u ++ t)] = true := by
    show (AV.told (rowV m.kind) && (AV.tolds (msC m a u ++ t) && true)) = true
    rw [hm, tr]; rfl
  obtain ⟨b1, o1, e1⟩ := (opsMayM_pu g (u := u) (t := t) ha (kTx m.kind) (kYes m.kind) (kQuery m.kind) (kPart m.kind)).bool tp
  obtain ⟨b2, o2, e2⟩ := (queryMayM_pu g (m := m) (a := a) (u := u) (t := t) (kTx m.kind) (kOps m.kind) (kYes m.kind) (kPart m.kind)).bool tp
  obtain ⟨b3, o3, e3⟩ := (partMayM_pu g (a := a) (t := t) hu (kTx m.kind) (kOps m.kind) (kYes m.kind) (kQuery m.kind)).bool tp
  obtain rfl : b1 = decide (opsM m) := by rw [Bool.eq_iff_iff, e1, decide_eq_true_iff]
  obtain rfl : b2 = decide (queryM m) := by rw [Bool.eq_iff_iff, e2, decide_eq_true_iff]
  obtain rfl : b3 = decide (partM m) := by rw [Bool.eq_iff_iff, e3, decide_eq_true_iff]
  have o4 : ∀ x h, OK P 98 [.int .i64 x] h (.bool (decide (nodeOk x))) h := fun x h => (node_pu g x).exact rfl
  have e4 : txM m ↔ (if kTx m.kind = true then txOk m.node m.seq else m.node = 0 ∧ m.seq = 0) := Iff.rfl
  have goal : ∀ b : Bool, (b = true ↔ msOk m) → Tl ⟨0, .e⟩ (.tup [rowV m.kind, .bool b]) (fun v => ∃ b : Bool, v = .tup [rowV m.kind, .bool b] ∧ (b = true ↔ msOk m)) := fun b hb => ⟨_, .tup (.cons (.agg (.cons (.bool _) (.cons (.bool _) (.cons (.bool _) (.cons (.bool _) (.cons (.bool _) .nil)))))) (.cons (.bool _) .nil)), b, rfl, hb⟩
  simp only [v71, msC, RX, VOp.fresh, bxC, bsC, un, most, callsOf, seval, Int.reducePow, ↓reduceIte, Nat.reduceEqDiff, reduceCtorEq]
  refine (rowOf_pu g m.kind).go rfl ?_
  rintro v rfl
  rw [rowV] at *
  simp only [RW, flat2, RX, VOp.fresh, bxC, bsC, un, most, callsOf, seval, Int.reducePow, ↓reduceIte, Nat.reduceEqDiff, reduceCtorEq]
  refine (nameMay_pu g _ _).go rfl ?_
  rintro v rfl
  rw [msC] at *
  unfold msOk at goal
  have eT : (if kTx m.kind = true then (0 ≤ m.node ∧ m.node < 8 ∧ 1 ≤ m.seq ∧ m.seq ≤ 65535) else (m.node = 0 ∧ m.seq = 0)) = txM m := rfl
  have tell : ∀ {h : Heap} {b : Bool} {R : AV → Prop}, R (.tup [.agg [.bool (kTx m.kind), .bool (kOps m.kind), .bool (kYes m.kind), .bool (kQuery m.kind), .bool (kPart m.kind)], .bool b]) → Tl h (.tup [.agg [.bool (kTx m.kind), .bool (kOps m.kind), .bool (kYes m.kind), .bool (kQuery m.kind), .bool (kPart m.kind)], .bool b]) R := fun r => ⟨_, .tup (.cons (.agg (.cons (.bool _) (.cons (.bool _) (.cons (.bool _) (.cons (.bool _) (.cons (.bool _) .nil)))))) (.cons (.bool _) .nil)), r⟩
  clear goal tr tp hm e1 e2 e3 e4
  simp only [List.cons_append, List.nil_append, msC] at o1 o2 o3
  unfold msOk
  generalize txM m = T at *
  generalize opsM m = A at *
  generalize queryM m = B at *
  generalize partM m = C at *
  cases hk : kTx m.kind <;> cases hy : kYes m.kind <;> cases hv : m.yes <;> simp only [hk, hy, hv, Bool.false_eq_true, if_true, if_false] at o1 o2 o3 eT tell <;> simp only [hk, hy, hv, Bool.false_eq_true, false_or, true_or, true_and, reduceCtorEq, and_false, false_and, iff_false, or_false, or_true, Bool.not_eq_true]
  all_goals
    simp only [hk, hv, RW, flat2, eT, RX, VOp.fresh, bxC, bsC, un, most, callsOf, seval, Int.reducePow, ↓reduceIte, Nat.reduceEqDiff, reduceCtorEq]
    refine EvD.sameN 45 (cMay (decide A) (decide B) (decide C)) rfl ?_
    simp +contextual (maxSteps := 2000000) only [hk, hy, hv, RW, flat2, cMay, nodeAns, o1, o2, o3, o4, eT, RX, VOp.fresh, bxC, bsC, un, most, callsOf, seval, Int.reducePow, ↓reduceIte, Nat.reduceEqDiff, reduceCtorEq]
  all_goals
    repeat' (first | apply And.intro | intro _)
    all_goals
      refine tell ?_
      refine ⟨_, rfl, ?_⟩
      simp only [decide_eq_true_eq, *, and_self, true_and, false_and, and_true, and_false, Bool.false_eq_true, reduceCtorEq, iff_self, not_true_eq_false, not_false_eq_true]
end
end Go.Proofs.Ytinonmcnofjeeaa.VM
namespace Go.Proofs.Ytinonmcnofjeeaa.VM
attribute [local irreducible] Af Nx EvO Ev Un Gd Cd EvR EvQ EvC Nc Gc Lp EvM NxM AfM GdM EvMR EvMQ EvMD EvMC Nm Gm
section
variable {P : Program} {m : Ms} {a u : AV}
theorem msgPut_bad (g : Pg P tab) (ha : IsL 112 ROp a m.ops) (hu : IsL 40 RFeat u m.fs) (hn : ¬ msOk m) : Pu P 25 [.agg (msC m a u)] (fun v => v = .tup [.str [], .int .i64 1600]) := by
  refine g.pu (vf := v25) rfl rfl ?_
  have hm := may_pu g ha hu (t := []) rfl
  rw [List.append_nil] at hm
  have ht := tolds_ms ha hu
  generalize msC m a u = c at hm ht
  simp only [v25, RX, VOp.fresh, bxC, bsC, un, most, callsOf, seval, Int.reducePow, ↓reduceIte, Nat.reduceEqDiff, reduceCtorEq]
  have hf : Fzs true (({ next := 0, t := T.e } : Heap).mk' 0 (.cells c 63 0)) [.ptr 0 0] [.rp c] := .cons (.ptr (by rw [Heap.get_mk, if_pos rfl]) (Fzs.refl ht)) .nil
  refine hm.cl hf ?_
  rintro x ⟨b, rfl, hb⟩
  cases b
  · rw [rowV]
    simp only [RW, RX, VOp.fresh, bxC, bsC, un, most, callsOf, seval, Int.reducePow, ↓reduceIte, Nat.reduceEqDiff, reduceCtorEq]
  · exact absurd (hb.1 rfl) hn
end
end Go.Proofs.Ytinonmcnofjeeaa.VM
namespace Go.Proofs.Ytinonmcnofjeeaa.VM
attribute [local irreducible] Af Nx EvO Ev Un Gd Cd EvR EvQ EvC Nc Gc Lp EvM NxM AfM GdM EvMR EvMQ EvMD EvMC Nm Gm
def boxB (b : Bx) : List Nat := numB b.x0 4 ++ (numB b.y0 4 ++ (numB b.x1 4 ++ numB b.y1 4))
def fsB (l : List Feat) : List Nat := numB l.length 2 ++ (l.map featB).flatten
theorem boxB_len (b : Bx) : (boxB b).length = 16 := by simp only [boxB, List.length_append, numB_len]
theorem By.box (b : Bx) : By (boxB b) := (By.num _ _).app ((By.num _ _).app ((By.num _ _).app (By.num _ _)))
theorem By.fs (l : List Feat) : By (fsB l) := (By.num _ _).app (By.flat By.feat)
theorem getD_feat {l : List Feat} {i : Nat} (hi : i < l.length) : l.getD i feat0 = l[i] := by simp [List.getD_eq_getElem?_getD, List.getElem?_eq_getElem hi]
section
variable {P : Program}
theorem wbox (g : Pg P tab) (b4 : Bx) {K : List (Nat × Blk)} {h : Heap} {b : Nat} {s : List Nat} (w : WR K h b s)
    (hl : s.length ≤ 1000000) {Q : AV → Heap → Prop} (q : ∀ v h', WR K h' b (s ++ boxB b4) → Q v h') : Cl P 72 [.ptr b 0, .agg (boxV b4)] h Q := by
  refine g.cl (vf := v72) rfl rfl ?_
  obtain ⟨x0, y0, x1, y1⟩ := b4
  have w0 := w.add (.cells [.int .i64 x0, .int .i64 y0, .int .i64 x1, .int .i64 y1] 60 0)
  simp only [v72, boxV, RX, VOp.fresh, bxC, bsC, un, most, callsOf, seval, Int.reducePow, ↓reduceIte, Nat.reduceEqDiff, reduceCtorEq]
  refine g.lpe b72_0.eq_1 ?_
  simp only [RX, VOp.fresh, bxC, bsC, un, most, callsOf, seval, Int.reducePow, ↓reduceIte, Nat.reduceEqDiff, reduceCtorEq]
  refine wnum (n := 4) g (num4_pu g _) (by decide) w0 (by omega) fun _ h1 w1 => ?_
  simp only [RX, VOp.fresh, bxC, bsC, un, most, callsOf, seval, Int.reducePow, ↓reduceIte, Nat.reduceEqDiff, reduceCtorEq]
  refine g.lpe b72_0.eq_1 ?_
  simp only [RX, VOp.fresh, bxC, bsC, un, most, callsOf, seval, Int.reducePow, ↓reduceIte, Nat.reduceEqDiff, reduceCtorEq]
  refine wnum (n := 4) g (num4_pu g _) (by decide) w1 (by simp only [List.length_append, numB_len]; omega) fun _ h2 w2 => ?_
  simp only [RX, VOp.fresh, bxC, bsC, un, most, callsOf, seval, Int.reducePow, ↓reduceIte, Nat.reduceEqDiff, reduceCtorEq]
  refine g.lpe b72_0.eq_1 ?_
  simp only [RX, VOp.fresh, bxC, bsC, un, most, callsOf, seval, Int.reducePow, ↓reduceIte, Nat.reduceEqDiff, reduceCtorEq]
  refine wnum (n := 4) g (num4_pu g _) (by decide) w2 (by simp only [List.length_append, numB_len]; omega) fun _ h3 w3 => ?_
  simp only [RX, VOp.fresh, bxC, bsC, un, most, callsOf, seval, Int.reducePow, ↓reduceIte, Nat.reduceEqDiff, reduceCtorEq]
  refine g.lpe b72_0.eq_1 ?_
  simp only [RX, VOp.fresh, bxC, bsC, un, most, callsOf, seval, Int.reducePow, ↓reduceIte, Nat.reduceEqDiff, reduceCtorEq]
  refine wnum (n := 4) g (num4_pu g _) (by decide) w3 (by simp only [List.length_append, numB_len]; omega) fun _ h4 w4 => ?_
  simp only [RX, VOp.fresh, bxC, bsC, un, most, callsOf, seval, Int.reducePow, ↓reduceIte, Nat.reduceEqDiff, reduceCtorEq]
  refine g.lpe b72_0.eq_1 ?_
  simp only [RX, VOp.fresh, bxC, bsC, un, most, callsOf, seval, Int.reducePow, ↓reduceIte, Nat.reduceEqDiff, reduceCtorEq]
  refine q _ _ ?_
  have := w4.less
  simpa only [boxB, List.append_assoc] using this
theorem wfs (g : Pg P tab) {m : Ms} {a u : AV} (hu : IsL 40 RFeat u m.fs) (hs : ∀ f ∈ m.fs, featSmall f) (hl : m.fs.length ≤ 1000) {K : List (Nat × Blk)} {e : TypeId} {ver : Nat} (hm : ((0, .cells (msC m a u) e ver) : Nat × Blk) ∈ K) {b : Nat} (acc : List Nat) (hacc : acc.length ≤ 10000) (n : Nat) :
    ∀ (i : Nat) (s : T AV) (h : Heap) (k : List Fr) (Q : Ex → T AV → Heap → Prop), i + n = m.fs.length → WR K h b (acc ++ ((m.fs.take i).map featB).flatten) → sg s 1 = .ptr 0 0 → sg s 6 = .ptr b 0 → sg s 81 = .int .i64 m.fs.length → sg s 82 = .int .i64 i →
      (∀ s' h', WR K h' b (acc ++ (m.fs.map featB).flatten) → sg s' 6 = .ptr b 0 → Un P k Q (.exit 2) s' h') → Lp P b25_1 s h (Un P k Q) := by
  induction n with
  | zero =>
    intro i s h k Q hi w h1 h6 h81 h82 hK
    refine g.lpe b25_1.eq_1 ?_
    have c1 : ¬ ((i : Int) < (m.fs.length : Int)) := by omega
    simp only [h81, h82, c1, RX, VOp.fresh, bxC, bsC, un, most, callsOf, seval, Int.reducePow, ↓reduceIte, Nat.reduceEqDiff, reduceCtorEq]
    rw [List.take_of_length_le (by omega)] at w
    refine hK _ _ w ?_
    · simp only [h6, sg_set, Nat.reduceEqDiff, ↓reduceIte]
  | succ n ih =>
    intro i s h k Q hi w h1 h6 h81 h82 hK
    refine g.lpe b25_1.eq_1 ?_
    have c1 : (i : Int) < (m.fs.length : Int) := by omega
    obtain ⟨rv, r1, hrv, _, _, _, g1⟩ := getFeat hu i (by omega)
    have w1 : IntKind.i64.wrap ((i : Int) + 1) = ((i + 1 : Nat) : Int) := by rw [w64 (by omega) (by omega)]; push_cast; rfl
    have hlt : (acc ++ ((m.fs.take i).map featB).flatten).length ≤ 100000000000 := by
      have := flat_lenT (F := featB) (B := 9000000) (l := m.fs) (fun x hx => featB_len (hs x hx)) i
      rw [List.length_append]
      have : m.fs.length * 9000000 ≤ 1000 * 9000000 := Nat.mul_le_mul_right _ hl
      omega
    have hk := (w.keep _ hm).2.2
    simp only [msC] at hk
    simp only [h1, h6, h81, h82, c1, hk, g1, RX, VOp.fresh, bxC, bsC, un, most, callsOf, seval, Int.reducePow, ↓reduceIte, Nat.reduceEqDiff, reduceCtorEq]
    refine wfeat g hrv (by rw [getD_feat (by omega)]; exact hs _ (List.getElem_mem _)) w hlt fun v h' w' => ?_
    simp only [h82, w1, RX, VOp.fresh, bxC, bsC, un, most, callsOf, seval, Int.reducePow, ↓reduceIte, Nat.reduceEqDiff, reduceCtorEq]
    rw [List.append_assoc, getD_feat (by omega), flat_take featB m.fs i (by omega)] at w'
    refine ih (i + 1) _ h' k Q (by omega) w' ?_ ?_ ?_ ?_ hK
    · simp only [h1, sg_set, Nat.reduceEqDiff, ↓reduceIte]
    · simp only [h6, sg_set, Nat.reduceEqDiff, ↓reduceIte]
    · simp only [h81, sg_set, Nat.reduceEqDiff, ↓reduceIte]
    · simp only [sg_set, Nat.reduceEqDiff, ↓reduceIte]
end
end Go.Proofs.Ytinonmcnofjeeaa.VM
