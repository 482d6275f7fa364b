/- Part of a proof: what stands for the program, and its walk. No condition. -/
import Derived.Below
import Derived.ChangeArms
import Derived.ChangeMaps5
import Derived.Laws.Cells
import Derived.Laws.IdiomCopy
import Derived.MapKept
import Derived.Orders
import Derived.Shelf.GgSortFunc.RowK
import Derived.Shelf.SlSortCmp.NoneTotal
import Derived.Shelf.SlSortCmp.WholeK
import Derived.Shelf.SortM.Plain
import Derived.Shelf.SortM.SortNone
import Derived.Shelf.Spec.SlicesInsertGrow
import Derived.SizedLaws
import Derived.WalkKit
import Derived.WalkLawsBesides
import GoSem.Claim
import Derived.Test.YteaieinpnpnkbaaDVc
set_option linter.unusedSimpArgs false
set_option linter.unusedVariables false
set_option linter.defProp false
set_option maxHeartbeats 1000000
namespace Go.Proofs.Yteaieinpnpnkbaa.VM
open Go.Proofs.Yteaieinpnpnkbaa.Hil
attribute [local irreducible] Af Nx EvO Ev Un Gd Cd EvR EvQ EvC Nc Gc Lp EvM NxM AfM GdM EvMR EvMQ EvMD EvMC Nm Gm
def metC (zs : List Int) : List AV := (List.range 4096).map fun i => .bool (decide (((i : Nat) : Int) ∈ zs))
theorem metC_len (zs : List Int) : (metC zs).length = 4096 := by simp [metC]
theorem metC_set {zs : List Int} {d : Nat} (h : d < 4096) : (metC zs).set d (.bool true) = metC (zs ++ [(d : Int)]) := by
  apply List.ext_getElem
  · simp [metC]
  · intro i h1 h2
    rw [List.getElem_set]
    simp only [metC, List.getElem_map, List.getElem_range]
    by_cases e : d = i
    · subst e; simp
    · rw [if_neg e]
      have : ((i : Nat) : Int) ∈ zs ++ [(d : Int)] ↔ ((i : Nat) : Int) ∈ zs := by
        rw [List.mem_append, List.mem_singleton]
        constructor
        · rintro (h | h)
          · exact h
          · omega
        · exact .inl
      simp only [this]
theorem metC_nil : metC [] = List.replicate 4096 (.bool false) := by
  unfold metC
  rw [show (fun i : Nat => AV.bool (decide (((i : Nat) : Int) ∈ ([] : List Int)))) = fun _ => .bool false from funext fun i => by simp, List.map_const', List.length_range]
theorem metC_at {zs : List Int} {d : Nat} (h : d < 4096) : part false (metC zs) d 1 = some (.bool (decide ((d : Int) ∈ zs))) := by
  have hl : d < (metC zs).length := by rw [metC_len]; exact h
  rw [part_f (List.drop_eq_getElem_cons hl)]
  simp [metC]
section
variable {P : Program}
theorem dpoint_pu (g : Pg P tab) (x y : Int) : Pu P 24 [.agg [.int .i64 x, .int .i64 y]] (fun v => v = .bool (decide (0 ≤ x ∧ x ≤ 4294967295 ∧ 0 ≤ y ∧ y ≤ 4294967295))) := by
  refine g.pu (vf := v24) rfl rfl ?_
  simp +contextual (maxSteps := 2000000) (disch := omega) only [v24, RX, VOp.fresh, bxC, bsC, un, most, callsOf, seval, Int.reducePow, ↓reduceIte, Nat.reduceEqDiff, reduceCtorEq]
theorem dboxMay_pu (g : Pg P tab) (a b c d : Int) : Pu P 32 [.agg [.int .i64 a, .int .i64 b, .int .i64 c, .int .i64 d]] (fun v => v = .bool (decide (bxOk a b c d))) := by
  refine g.pu (vf := v32) rfl rfl ?_
  simp only [v32, RX, VOp.fresh, bxC, bsC, un, most, callsOf, seval, Int.reducePow, ↓reduceIte, Nat.reduceEqDiff, reduceCtorEq]
  refine (dpoint_pu g _ _).go rfl ?_
  rintro v rfl
  by_cases h1 : 0 ≤ a ∧ a ≤ 4294967295 ∧ 0 ≤ b ∧ b ≤ 4294967295
  · simp only [h1, RX, VOp.fresh, bxC, bsC, un, most, callsOf, seval, Int.reducePow, ↓reduceIte, Nat.reduceEqDiff, reduceCtorEq]
    refine (dpoint_pu g _ _).go rfl ?_
    rintro v rfl
    by_cases h2 : 0 ≤ c ∧ c ≤ 4294967295 ∧ 0 ≤ d ∧ d ≤ 4294967295
    · simp +contextual (maxSteps := 2000000) only [h1, h2, bxOk, RX, VOp.fresh, bxC, bsC, un, most, callsOf, seval, Int.reducePow, ↓reduceIte, Nat.reduceEqDiff, reduceCtorEq]
    · have f : ¬ bxOk a b c d := fun z => by unfold bxOk at z; omega
      simp only [h2, f, RX, VOp.fresh, bxC, bsC, un, most, callsOf, seval, Int.reducePow, ↓reduceIte, Nat.reduceEqDiff, reduceCtorEq]
  · have f : ¬ bxOk a b c d := fun z => by unfold bxOk at z; omega
    simp only [h1, f, RX, VOp.fresh, bxC, bsC, un, most, callsOf, seval, Int.reducePow, ↓reduceIte, Nat.reduceEqDiff, reduceCtorEq]
theorem dof_col (g : Pg P tab) {a b c d : Int} (ok : bxOk a b c d) {bb e0 v0 mb x b0 m K : Nat} (hne : mb ≠ bb) (hb0 : b0 = (b / 67108864).toNat) (hm : b0 + m = (d / 67108864).toNat + 1) (hx : x < 64) (n : Nat) :
    ∀ (j : Nat) (s : T AV) (h : Heap) (zs : List Int) (em vm : Nat) (k : List Fr) (Q : Ex → T AV → Heap → Prop), j + n = m → K ≤ h.next → h.get mb = some (.cells (metC (zs ++ colC b0 x j)) em vm) → h.get bb = some (.cells [.int .i64 a, .int .i64 b, .int .i64 c, .int .i64 d] e0 v0) →
      sg s 1 = .ptr bb 0 → sg s 4 = .ptr mb 0 → sg s 5 = .int .i64 67108864 → sg s 6 = .int .i64 x → sg s 7 = .int .i64 ((b0 + j : Nat) : Int) →
      (∀ s' h' vm', K ≤ h'.next → h'.get mb = some (.cells (metC (zs ++ colC b0 x m)) em vm') → h'.get bb = some (.cells [.int .i64 a, .int .i64 b, .int .i64 c, .int .i64 d] e0 v0) → sg s' 1 = .ptr bb 0 → sg s' 4 = .ptr mb 0 → sg s' 5 = .int .i64 67108864 → sg s' 6 = .int .i64 x → Un P k Q (.exit 2) s' h') → Lp P b11_0 s h (Un P k Q) := by
  obtain ⟨o1, o2, o3, o4, o5, o6, o7, o8, o9, o10⟩ := id ok
  have q1 : IntKind.i64.wrap (d.tdiv 67108864) = d / 67108864 := by rw [Int.tdiv_eq_ediv_of_nonneg o7]; exact w64 (by omega) (by omega)
  have q2 := fun a : Int => bin_quo (k := .i64) (a := a) (b := 67108864) (by decide)
  induction n with
  | zero =>
    intro j s h zs em vm k Q hn hK hg hgb t1 t4 t5 t6 t7 hQ
    obtain rfl : j = m := by omega
    refine g.lpe b11_0.eq_1 ?_
    have c1 : ¬ ((b0 + j : Nat) : Int) ≤ d / 67108864 := by omega
    simp only [t1, t5, t7, hgb, q1, q2, c1, RX, VOp.fresh, bxC, bsC, un, most, callsOf, seval, Int.reducePow, ↓reduceIte, Nat.reduceEqDiff, reduceCtorEq]
    refine hQ _ _ _ hK hg hgb ?_ ?_ ?_ ?_
    · simp only [t1, sg_set, Nat.reduceEqDiff, ↓reduceIte]
    · simp only [t4, sg_set, Nat.reduceEqDiff, ↓reduceIte]
    · simp only [t5, sg_set, Nat.reduceEqDiff, ↓reduceIte]
    · simp only [t6, sg_set, Nat.reduceEqDiff, ↓reduceIte]
  | succ n ih =>
    intro j s h zs em vm k Q hn hK hg hgb t1 t4 t5 t6 t7 hQ
    refine g.lpe b11_0.eq_1 ?_
    have c1 : ((b0 + j : Nat) : Int) ≤ d / 67108864 := by omega
    have w1 : IntKind.i64.wrap (((b0 + j : Nat) : Int) + 1) = ((b0 + (j + 1) : Nat) : Int) := by rw [w64 (by omega) (by omega)]; push_cast; omega
    simp only [t1, t5, t6, t7, hgb, q1, q2, c1, RX, VOp.fresh, bxC, bsC, un, most, callsOf, seval, Int.reducePow, ↓reduceIte, Nat.reduceEqDiff, reduceCtorEq]
    refine (dcell_pu g (n := 6) (X := x) (Y := b0 + j) (by decide) (by decide) (by omega) (by omega)).go rfl ?_
    rintro _ rfl
    have hlt : hcell 6 x (b0 + j) < 4096 := hcell_lt 6 _ _
    have hc := colC_succ b0 x j
    generalize hcell 6 x (b0 + j) = z at *
    have hia : ∀ hh : Heap, iaV hh 1 (some 4096) (.ptr mb 0) (.int .i64 (z : Int)) = .val (.ptr mb z) hh := fun hh => by
      simp only [iaV]
      rw [if_pos ⟨by omega, by omega⟩, Int.toNat_natCast, Nat.mul_one, Nat.zero_add]
    have hw := wr_at hg (j := z) (by rw [metC_len]; exact hlt) (x := .bool true) rfl
    rw [metC_set hlt, List.append_assoc, ← hc] at hw
    simp only [t4, t7, w1, hia, hw, RW, RX, VOp.fresh, bxC, bsC, un, most, callsOf, seval, Int.reducePow, ↓reduceIte, Nat.reduceEqDiff, reduceCtorEq]
    refine ih (j + 1) _ _ zs em (vm + 1) k Q (by omega) (by rw [put_next]; exact hK) (by rw [Heap.get_put, if_pos rfl]) (by rw [Heap.get_put, if_neg (Ne.symm hne)]; exact hgb) ?_ ?_ ?_ ?_ ?_ hQ
    · simp only [t1, sg_set, Nat.reduceEqDiff, ↓reduceIte]
    · simp only [t4, sg_set, Nat.reduceEqDiff, ↓reduceIte]
    · simp only [t5, sg_set, Nat.reduceEqDiff, ↓reduceIte]
    · simp only [t6, sg_set, Nat.reduceEqDiff, ↓reduceIte]
    · simp only [sg_set, Nat.reduceEqDiff, ↓reduceIte]
theorem dof_grid (g : Pg P tab) {a b c d : Int} (ok : bxOk a b c d) {bb e0 v0 mb a0 b0 m N K : Nat} (hne : mb ≠ bb) (ha0 : a0 = (a / 67108864).toNat) (hb0 : b0 = (b / 67108864).toNat) (hm : b0 + m = (d / 67108864).toNat + 1) (hN : a0 + N = (c / 67108864).toNat + 1) (n : Nat) :
    ∀ (i : Nat) (s : T AV) (h : Heap) (em vm : Nat) (k : List Fr) (Q : Ex → T AV → Heap → Prop), i + n = N → K ≤ h.next → h.get mb = some (.cells (metC (gridC a0 b0 m i)) em vm) → h.get bb = some (.cells [.int .i64 a, .int .i64 b, .int .i64 c, .int .i64 d] e0 v0) →
      sg s 1 = .ptr bb 0 → sg s 4 = .ptr mb 0 → sg s 5 = .int .i64 67108864 → sg s 6 = .int .i64 ((a0 + i : Nat) : Int) →
      (∀ s' h' vm', K ≤ h'.next → h'.get mb = some (.cells (metC (gridC a0 b0 m N)) em vm') → sg s' 4 = .ptr mb 0 → Un P k Q (.exit 0) s' h') → Lp P b11_1 s h (Un P k Q) := by
  obtain ⟨o1, o2, o3, o4, o5, o6, o7, o8, o9, o10⟩ := id ok
  have q1 : IntKind.i64.wrap (c.tdiv 67108864) = c / 67108864 := by rw [Int.tdiv_eq_ediv_of_nonneg o5]; exact w64 (by omega) (by omega)
  have q3 : IntKind.i64.wrap (b.tdiv 67108864) = b / 67108864 := by rw [Int.tdiv_eq_ediv_of_nonneg o3]; exact w64 (by omega) (by omega)
  have q2 := fun a : Int => bin_quo (k := .i64) (a := a) (b := 67108864) (by decide)
  induction n with
  | zero =>
    intro i s h em vm k Q hn hK hg hgb t1 t4 t5 t6 hQ
    obtain rfl : i = N := by omega
    refine g.lpe b11_1.eq_1 ?_
    have c1 : ¬ ((a0 + i : Nat) : Int) ≤ c / 67108864 := by omega
    simp only [t1, t5, t6, hgb, q1, q2, c1, RX, VOp.fresh, bxC, bsC, un, most, callsOf, seval, Int.reducePow, ↓reduceIte, Nat.reduceEqDiff, reduceCtorEq]
    refine hQ _ _ _ hK hg ?_
    simp only [t4, sg_set, Nat.reduceEqDiff, ↓reduceIte]
  | succ n ih =>
    intro i s h em vm k Q hn hK hg hgb t1 t4 t5 t6 hQ
    refine g.lpe b11_1.eq_1 ?_
    have c1 : ((a0 + i : Nat) : Int) ≤ c / 67108864 := by omega
    have w1 : IntKind.i64.wrap (((a0 + i : Nat) : Int) + 1) = ((a0 + (i + 1) : Nat) : Int) := by rw [w64 (by omega) (by omega)]; push_cast; omega
    simp only [t1, t5, t6, hgb, q1, q2, q3, c1, RX, VOp.fresh, bxC, bsC, un, most, callsOf, seval, Int.reducePow, ↓reduceIte, Nat.reduceEqDiff, reduceCtorEq]
    refine dof_col g ok (bb := bb) (e0 := e0) (v0 := v0) (mb := mb) (x := a0 + i) hne hb0 hm (by omega) m 0 _ h (gridC a0 b0 m i) em vm _ _ (by omega) hK (by simpa [colC] using hg) hgb ?_ ?_ ?_ ?_ ?_ ?_
    · simp only [t1, sg_set, Nat.reduceEqDiff, ↓reduceIte]
    · simp only [t4, sg_set, Nat.reduceEqDiff, ↓reduceIte]
    · simp only [t5, sg_set, Nat.reduceEqDiff, ↓reduceIte]
    · simp only [t6, sg_set, Nat.reduceEqDiff, ↓reduceIte]
    · simp only [sg_set, Nat.reduceEqDiff, ↓reduceIte]
      rw [hb0, Nat.add_zero]
      congr 1; omega
    · intro s' h' vm' hK' hg' hgb' t1' t4' t5' t6'
      simp only [t6', w1, RX, VOp.fresh, bxC, bsC, un, most, callsOf, seval, Int.reducePow, ↓reduceIte, Nat.reduceEqDiff, reduceCtorEq]
      refine ih (i + 1) _ h' em vm' k Q (by omega) hK' (by rw [gridC_succ]; exact hg') hgb' ?_ ?_ ?_ ?_ hQ
      · simp only [t1', sg_set, Nat.reduceEqDiff, ↓reduceIte]
      · simp only [t4', sg_set, Nat.reduceEqDiff, ↓reduceIte]
      · simp only [t5', sg_set, Nat.reduceEqDiff, ↓reduceIte]
      · simp only [sg_set, Nat.reduceEqDiff, ↓reduceIte]
/-- the cells that are met, as far as a place -/
def metL (zs : List Int) (i : Nat) : List Int := ((List.range i).map fun j => ((j : Nat) : Int)).filter fun c => decide (c ∈ zs)
theorem metL_succ (zs : List Int) (i : Nat) : metL zs (i + 1) = if (i : Int) ∈ zs then metL zs i ++ [(i : Int)] else metL zs i := by
  unfold metL
  rw [List.range_succ, List.map_append, List.filter_append]
  by_cases h : (i : Int) ∈ zs
  · rw [if_pos h]; simp [h]
  · rw [if_neg h]; simp [h]
theorem metL_mem {zs : List Int} {i : Nat} {c : Int} : c ∈ metL zs i ↔ c ∈ zs ∧ 0 ≤ c ∧ c < i := by
  unfold metL
  rw [List.mem_filter, List.mem_map]
  constructor
  · rintro ⟨⟨j, hj, rfl⟩, h⟩
    have := List.mem_range.1 hj
    exact ⟨by simpa using h, by omega, by omega⟩
  · rintro ⟨h1, h2, h3⟩
    exact ⟨⟨c.toNat, List.mem_range.2 (by omega), by omega⟩, by simpa using h1⟩
theorem metL_inc (zs : List Int) (i : Nat) : (metL zs i).Pairwise (· < ·) := by
  unfold metL
  refine List.Pairwise.filter _ ?_
  rw [List.pairwise_map]
  exact List.pairwise_lt_range.imp fun h => by omega
theorem metL_len (zs : List Int) (i : Nat) : (metL zs i).length ≤ i := by
  unfold metL
  have := List.length_filter_le (fun c => decide (c ∈ zs)) ((List.range i).map fun j => ((j : Nat) : Int))
  simpa using this
theorem addR_last : ∀ (l : Rgs) (r : Int × Int), ∃ m x, addR l r = m ++ [(x, r.2)]
  | [], r => ⟨[], r.1, rfl⟩
  | [q], r => by
    unfold addR
    split
    · exact ⟨[], q.1, rfl⟩
    · exact ⟨[q], r.1, rfl⟩
  | q :: q' :: t, r => by
    obtain ⟨m, x, e⟩ := addR_last (q' :: t) r
    exact ⟨q :: m, x, by rw [addR, e]; rfl⟩
/-- where the last stretch ends -/
theorem covM_end (zs : List Int) : ∀ i : Nat, covM (metL zs i) = [] ∨ ∃ (m : Rgs) (x c : Int), covM (metL zs i) = m ++ [(x, (c + 1) * 1048576)] ∧ 0 ≤ c ∧ c < i ∧ (c + 1 = i ↔ (c ∈ zs ∧ c + 1 = i)) ∧ (((i : Int) - 1) ∈ zs → c + 1 = i)
  | 0 => .inl rfl
  | i + 1 => by
    rw [metL_succ]
    by_cases h : (i : Int) ∈ zs
    · rw [if_pos h, covM_snoc]
      obtain ⟨m, x, e⟩ := addR_last (covM (metL zs i)) ((i : Int) * 1048576, ((i : Int) + 1) * 1048576)
      exact .inr ⟨m, x, i, e, by omega, by omega, ⟨fun e => ⟨h, e⟩, fun e => e.2⟩, fun _ => by omega⟩
    · rw [if_neg h]
      rcases covM_end zs i with e | ⟨m, x, c, e, h0, h1, h2, h3⟩
      · exact .inl e
      · exact .inr ⟨m, x, c, e, h0, by omega, ⟨fun q => by omega, fun q => q.2⟩, fun q => absurd q (by rw [show ((i + 1 : Nat) : Int) - 1 = (i : Int) by omega]; exact h)⟩
theorem covM_nil_met {zs : List Int} {i : Nat} (h : covM (metL zs i) = []) : metL zs i = [] := by
  rcases List.eq_nil_or_concat (metL zs i) with e | ⟨m, q, e⟩
  · exact e
  · exfalso
    rw [e, List.concat_eq_append, covM_snoc] at h
    obtain ⟨m', x, e'⟩ := addR_last (covM m) (q * 1048576, (q + 1) * 1048576)
    rw [e'] at h
    simp at h
theorem cov_inc {q L : List Int} (hq : q.Pairwise (· < ·)) (hb : ∀ c ∈ q, 0 ≤ c ∧ c < 4096) (hL : ∀ c, c ∈ L ↔ c ∈ q) : Sep (-1) (covM q) ∧ ∀ d, rHas (covM q) d ↔ inCells L d := by
  obtain ⟨e, u, he⟩ := cov_fold q (out := []) (a := 0) (L := L) (by simpa using Upto.nil) (by omega) hb (fun c _ => hL c) hq
  refine ⟨u.1, fun d => ?_⟩
  have h3 := u.2.2 d
  unfold covM
  rw [h3]
  constructor
  · exact fun ⟨_, _, h⟩ => h
  · intro hd
    have h4 := hb _ ((hL _).1 hd)
    refine ⟨by omega, ?_, hd⟩
    rcases Int.lt_or_le d e with c | c
    · exact c
    · exact absurd hd (he d c)
theorem cov_met {a b c d : Int} (ok : bxOk a b c d) {N : Nat} (hN : N = 4096) : covM (metL (bxL a b c d) N) = bxCov a b c d := by
  obtain ⟨h1, h2⟩ := bxCov_of ok
  obtain ⟨h3, h4⟩ := cov_inc (L := bxL a b c d) (metL_inc (bxL a b c d) N) (fun c hc => by have := metL_mem.1 hc; omega) fun c => by
    rw [metL_mem]
    exact ⟨fun h => ⟨h, by have := grid_lt h; omega⟩, fun h => h.1⟩
  exact h3.uniq h1 fun d => by rw [h4, h2]
end
end Go.Proofs.Yteaieinpnpnkbaa.VM
namespace Go.Proofs.Yteaieinpnpnkbaa.VM
open Go.Proofs.Yteaieinpnpnkbaa.Hil
attribute [local irreducible] Af Nx EvO Ev Un Gd Cd EvR EvQ EvC Nc Gc Lp EvM NxM AfM GdM EvMR EvMQ EvMD EvMC Nm Gm
section
variable {P : Program}
theorem dof_out (g : Pg P tab) {zs : List Int} {mb em vm N0 : Nat} (hmb : mb < N0) (n : Nat) :
    ∀ (i : Nat) (s : T AV) (h : Heap) (k : List Fr) (Q : Ex → T AV → Heap → Prop), i + n = 4096 → h.get mb = some (.cells (metC zs) em vm) → Row h (sg s 10) 2 (rcells (covM (metL zs i))) (covM (metL zs i)).length → (∀ q ∈ blkOf (sg s 10), N0 ≤ q) → N0 ≤ h.next →
      sg s 4 = .ptr mb 0 → sg s 11 = .int .i64 1048576 → sg s 12 = .int .i64 i →
      (∀ s' h', Row h' (sg s' 10) 2 (rcells (covM (metL zs (i + n)))) (covM (metL zs (i + n))).length → Un P k Q (.exit 4) s' h') → Lp P b11_2 s h (Un P k Q) := by
  induction n with
  | zero =>
    intro i s h k Q hn hg r hq hN t4 t11 t12 hQ
    refine g.lpe b11_2.eq_1 ?_
    have c1 : ¬ (i : Int) < 4096 := by omega
    simp only [t12, c1, RX, VOp.fresh, bxC, bsC, un, most, callsOf, seval, Int.reducePow, ↓reduceIte, Nat.reduceEqDiff, reduceCtorEq]
    refine hQ _ _ ?_
    simp only [sg_set, Nat.reduceEqDiff, ↓reduceIte]
    exact r
  | succ n ih =>
    intro i s h k Q hn hg r hq hN t4 t11 t12 hQ
    refine g.lpe b11_2.eq_1 ?_
    have c1 : (i : Int) < 4096 := by omega
    have w1 : IntKind.i64.wrap ((i : Int) + 1) = ((i + 1 : Nat) : Int) := by rw [w64 (by omega) (by omega)]; push_cast; rfl
    have hia : ∀ hh : Heap, iaV hh 1 (some 4096) (.ptr mb 0) (.int .i64 (i : Int)) = .val (.ptr mb i) hh := fun hh => by
      simp only [iaV]
      rw [if_pos ⟨by omega, by omega⟩, Int.toNat_natCast, Nat.mul_one, Nat.zero_add]
    have hp := metC_at (zs := zs) (d := i) (by omega)
    have hms := metL_succ zs i
    rw [show i + (n + 1) = (i + 1) + n by omega] at hQ
    by_cases hm : (i : Int) ∈ zs
    · rw [if_pos hm] at hms
      have s1 : IntKind.i64.wrap ((i : Int) * 1048576) = (i : Int) * 1048576 := w64 (by omega) (by omega)
      have s2 : IntKind.i64.wrap (((i + 1 : Nat) : Int) * 1048576) = ((i : Int) + 1) * 1048576 := by rw [w64 (by omega) (by omega)]; push_cast; rfl
      have hcl := covM_len (metL zs i)
      have hml := metL_len zs i
      have hlen := r.len
      have hlt := r.lt
      have hend := covM_end zs i
      have hnm := covM_nil_met (zs := zs) (i := i)
      have hsn := covM_snoc (metL zs i) (i : Int)
      rw [← hms] at hsn
      have ihx := fun s h => ih (i + 1) s h k Q (by omega)
      rw [hsn] at ihx
      generalize covM (metL zs i) = out at *
      -- one more behind
      have x2 := Ext.mk (h := h) (.cells [.int .i64 ((i : Int) * 1048576), .int .i64 (((i : Int) + 1) * 1048576)] 41 0)
      have n3 : (h.mk' h.next (.cells [.int .i64 ((i : Int) * 1048576), .int .i64 (((i : Int) + 1) * 1048576)] 41 0)).next = h.next + 1 := by rw [mk_next]; omega
      obtain ⟨h3, e3, r3, n4, k3⟩ := (r.ext x2).push (nb := h.next) (eb := 41) (vb := 0) (c := rcell ((i : Int) * 1048576, ((i : Int) + 1) * 1048576)) (by rw [Heap.get_mk, if_pos rfl]; rfl) rfl rfl (bytes := 16) (by unfold most2; omega) 41
      rw [← rcells_snoc] at r3
      rw [n3] at e3 r3 n4 k3
      have g3 : h3.get mb = some (.cells (metC zs) em vm) := by rw [k3 mb (fun hc => by have := hq mb hc; omega) (by omega), x2.2 mb (by omega)]; exact hg
      have behind : addR out ((i : Int) * 1048576, ((i : Int) + 1) * 1048576) = out ++ [((i : Int) * 1048576, ((i : Int) + 1) * 1048576)] → ∀ s', sg s' 10 = .sl (h.next + 1) 0 (out.length + 1) (out.length + 1) 2 → sg s' 4 = .ptr mb 0 → sg s' 11 = .int .i64 1048576 → sg s' 12 = .int .i64 ((i + 1 : Nat) : Int) → Lp P b11_2 s' h3 (Un P k Q) := fun e s' a10 a4 a11 a12 => by
        refine ihx s' h3 g3 ?_ ?_ (by omega) a4 a11 a12 hQ
        · rw [a10, e, List.length_append]; exact r3
        · rw [a10]; intro q hq; simp only [blkOf, List.mem_singleton] at hq; omega
      by_cases i0 : i = 0
      · have c2 : ¬ (0 : Int) < (i : Int) := by omega
        have e0 : out = [] := by
          rcases hend with e | ⟨m, x, c, e, h0, h1, _⟩
          · exact e
          · omega
        simp only [t4, t11, t12, c1, c2, w1, hia, hg, hp, hm, s1, s2, n3, e3, RX, VOp.fresh, bxC, bsC, un, most, callsOf, seval, Int.reducePow, ↓reduceIte, Nat.reduceEqDiff, reduceCtorEq]
        refine behind (by rw [e0]; rfl) _ ?_ ?_ ?_ ?_
        · simp only [sg_set, Nat.reduceEqDiff, ↓reduceIte]
        · simp only [t4, sg_set, Nat.reduceEqDiff, ↓reduceIte]
        · simp only [t11, sg_set, Nat.reduceEqDiff, ↓reduceIte]
        · simp only [sg_set, Nat.reduceEqDiff, ↓reduceIte]
      · have c2 : (0 : Int) < (i : Int) := by omega
        have w2 : IntKind.i64.wrap ((i : Int) - 1) = ((i - 1 : Nat) : Int) := by rw [w64 (by omega) (by omega)]; omega
        have hia2 : ∀ hh : Heap, iaV hh 1 (some 4096) (.ptr mb 0) (.int .i64 ((i - 1 : Nat) : Int)) = .val (.ptr mb (i - 1)) hh := fun hh => by
          simp only [iaV]
          rw [if_pos ⟨by omega, by omega⟩, Int.toNat_natCast, Nat.mul_one, Nat.zero_add]
        have hp2 := metC_at (zs := zs) (d := i - 1) (by omega)
        by_cases hm2 : ((i - 1 : Nat) : Int) ∈ zs
        · rcases hend with e | ⟨m, x, c, e, h0, h1, h2, h4⟩
          · exfalso
            have := hnm e
            have h5 : ((i - 1 : Nat) : Int) ∈ metL zs i := metL_mem.2 ⟨hm2, by omega, by omega⟩
            rw [this] at h5
            simp at h5
          · have hc := h4 (by rw [show (i : Int) - 1 = ((i - 1 : Nat) : Int) by omega]; exact hm2)
            subst e
            have c0 : (((m ++ [(x, (c + 1) * 1048576)]).length : Nat) : Int) ≤ 4096 := by omega
            have w3 : IntKind.i64.wrap ((((m ++ [(x, (c + 1) * 1048576)]).length : Nat) : Int) - 1) = (m.length : Int) := by rw [List.length_append, List.length_singleton] at *; rw [w64 (by omega) (by omega)]; omega
            obtain ⟨bb, eb, vb, hv8, hgr, hbn, hiar⟩ := r.at (i := m.length) (by simp)
            have hw := wr_at hgr (j := m.length * 2 + 1) (by rw [rcells_len, List.length_append, List.length_singleton]; omega) (x := .int .i64 (((i : Int) + 1) * 1048576)) rfl
            rw [rcells_set] at hw
            have hbq := hq bb (by rw [hv8]; simp [blkOf])
            simp only [t4, t11, t12, c1, c2, w1, w2, w3, hia, hia2, hg, hp, hp2, hm, hm2, s2, hlen, hiar, hw, RW, RX, VOp.fresh, bxC, bsC, un, most, callsOf, seval, Int.reducePow, ↓reduceIte, Nat.reduceEqDiff, reduceCtorEq]
            refine ihx _ _ ?_ ?_ ?_ ?_ ?_ ?_ ?_ hQ
            · rw [Heap.get_put, if_neg (by omega)]; exact hg
            · simp only [sg_set, Nat.reduceEqDiff, ↓reduceIte]
              rw [addR_snoc, if_pos (show (c + 1) * 1048576 = (i : Int) * 1048576 by rw [hc])]
              refine .inr ⟨bb, eb, vb + 1, ?_, by simp, by rw [put_next]; omega, by rw [rcells_len], by rw [Heap.get_put, if_pos rfl]⟩
              rw [hv8]; simp
            · simp only [sg_set, Nat.reduceEqDiff, ↓reduceIte]
              exact hq
            · rw [put_next]; exact hN
            · simp only [t4, sg_set, Nat.reduceEqDiff, ↓reduceIte]
            · simp only [t11, sg_set, Nat.reduceEqDiff, ↓reduceIte]
            · simp only [sg_set, Nat.reduceEqDiff, ↓reduceIte]
        · simp only [t4, t11, t12, c1, c2, w1, w2, hia, hia2, hg, hp, hp2, hm, hm2, s1, s2, n3, e3, RX, VOp.fresh, bxC, bsC, un, most, callsOf, seval, Int.reducePow, ↓reduceIte, Nat.reduceEqDiff, reduceCtorEq]
          refine behind ?_ _ ?_ ?_ ?_ ?_
          · rcases hend with e | ⟨m, x, c, e, h0, h1, h2, h4⟩
            · rw [e]; rfl
            · rw [e, addR_snoc, if_neg]
              intro q
              have q : (c + 1) * 1048576 = (i : Int) * 1048576 := q
              have := (h2.1 (by omega)).1
              exact hm2 (by rw [show ((i - 1 : Nat) : Int) = c by omega]; exact this)
          · simp only [sg_set, Nat.reduceEqDiff, ↓reduceIte]
          · simp only [t4, sg_set, Nat.reduceEqDiff, ↓reduceIte]
          · simp only [t11, sg_set, Nat.reduceEqDiff, ↓reduceIte]
          · simp only [sg_set, Nat.reduceEqDiff, ↓reduceIte]
    · rw [if_neg hm] at hms
      simp only [t4, t12, c1, w1, hia, hg, hp, hm, RX, VOp.fresh, bxC, bsC, un, most, callsOf, seval, Int.reducePow, ↓reduceIte, Nat.reduceEqDiff, reduceCtorEq]
      refine ih (i + 1) _ h k Q (by omega) hg ?_ ?_ hN ?_ ?_ ?_ hQ
      · simp only [sg_set, Nat.reduceEqDiff, ↓reduceIte]
        rw [hms]; exact r
      · simp only [sg_set, Nat.reduceEqDiff, ↓reduceIte]
        exact hq
      · simp only [t4, sg_set, Nat.reduceEqDiff, ↓reduceIte]
      · simp only [t11, sg_set, Nat.reduceEqDiff, ↓reduceIte]
      · simp only [sg_set, Nat.reduceEqDiff, ↓reduceIte]
theorem dof_pu (g : Pg P tab) (a b c d : Int) : Pu P 11 [.agg [.int .i64 a, .int .i64 b, .int .i64 c, .int .i64 d]] (fun v => (¬ bxOk a b c d ∧ v = .tup [.nils, .int .i64 600]) ∨ (bxOk a b c d ∧ v = .tup [tRgs (bxCov a b c d), .int .i64 0])) := by
  refine g.pu (vf := v11) rfl rfl ?_
  have e0 : v11.body = .seq (blk 0 v11.body) (.seq (blk 1 v11.body) (.seq (blk 2 v11.body) (rst 3 v11.body))) := rfl
  rw [e0]
  generalize hR : rst 3 v11.body = R
  simp only [v11, blk, RW, RX, VOp.fresh, bxC, bsC, un, most, callsOf, seval, Int.reducePow, ↓reduceIte, Nat.reduceEqDiff, reduceCtorEq, -List.reduceReplicate]
  refine (dboxMay_pu g a b c d).go rfl ?_
  rintro _ rfl
  by_cases ok : bxOk a b c d
  · obtain ⟨o1, o2, o3, o4, o5, o6, o7, o8, o9, o10⟩ := id ok
    have q1 : IntKind.i64.wrap (a.tdiv 67108864) = a / 67108864 := by rw [Int.tdiv_eq_ediv_of_nonneg o1]; exact w64 (by omega) (by omega)
    have q2 := fun a : Int => bin_quo (k := .i64) (a := a) (b := 67108864) (by decide)
    rw [← metC_nil]
    generalize hz : metC [] = mz
    simp only [ok, RW, RX, VOp.fresh, bxC, bsC, un, most, callsOf, seval, Int.reducePow, ↓reduceIte, Nat.reduceEqDiff, reduceCtorEq, -List.reduceReplicate]
    subst hR
    simp only [v11, rst, q1, q2, RW, RX, VOp.fresh, bxC, bsC, un, most, callsOf, seval, Int.reducePow, ↓reduceIte, Nat.reduceEqDiff, reduceCtorEq, -List.reduceReplicate]
    obtain ⟨N, hN⟩ : ∃ N, (a / 67108864).toNat + N = (c / 67108864).toNat + 1 := ⟨(c / 67108864).toNat + 1 - (a / 67108864).toNat, by omega⟩
    obtain ⟨m, hm⟩ : ∃ m, (b / 67108864).toNat + m = (d / 67108864).toNat + 1 := ⟨(d / 67108864).toNat + 1 - (b / 67108864).toNat, by omega⟩
    refine dof_grid g ok (bb := 0) (e0 := 23) (v0 := 0) (mb := 1) (m := m) (N := N) (K := 2) (by decide) rfl rfl hm hN N 0 _ _ 57 0 _ _ (by omega) (by rw [mk_next, mk_next]; omega) ?_ ?_ ?_ ?_ ?_ ?_ fun s' h' vm' hK hg t4 => ?_
    · rw [Heap.get_mk, if_pos rfl, ← hz]; rfl
    · rw [Heap.get_mk, if_neg (by decide), Heap.get_mk, if_pos rfl]
    · simp only [sg_set, Nat.reduceEqDiff, ↓reduceIte]
    · simp only [sg_set, Nat.reduceEqDiff, ↓reduceIte]
    · simp only [sg_set, Nat.reduceEqDiff, ↓reduceIte]
    · simp only [sg_set, Nat.reduceEqDiff, ↓reduceIte]
      refine congrArg (AV.int .i64) ?_
      omega
    · have eL : gridC (a / 67108864).toNat (b / 67108864).toNat m N = bxL a b c d := by
        unfold bxL
        rw [show (d / 67108864).toNat - (b / 67108864).toNat + 1 = m by omega, show (c / 67108864).toNat - (a / 67108864).toNat + 1 = N by omega]
      rw [eL] at hg
      simp only [RX, VOp.fresh, bxC, bsC, un, most, callsOf, seval, Int.reducePow, ↓reduceIte, Nat.reduceEqDiff, reduceCtorEq]
      obtain ⟨M, hM⟩ : ∃ M : Nat, M = 4096 := ⟨_, rfl⟩
      refine dof_out g (zs := bxL a b c d) (mb := 1) (em := 57) (vm := vm') (N0 := 2) (by decide) M 0 _ h' _ _ (by omega) hg ?_ ?_ ?_ ?_ ?_ ?_ fun s2 h2 r2 => ?_
      · simp only [sg_set, Nat.reduceEqDiff, ↓reduceIte]
        exact .nil _ _
      · simp only [sg_set, Nat.reduceEqDiff, ↓reduceIte]
        intro q hq; simp [blkOf] at hq
      · exact hK
      · simp only [t4, sg_set, Nat.reduceEqDiff, ↓reduceIte]
      · simp only [sg_set, Nat.reduceEqDiff, ↓reduceIte]
      · simp only [sg_set, Nat.reduceEqDiff, ↓reduceIte]
        rfl
      · simp only [RX, VOp.fresh, bxC, bsC, un, most, callsOf, seval, Int.reducePow, ↓reduceIte, Nat.reduceEqDiff, reduceCtorEq]
        rw [Nat.zero_add, cov_met ok hM] at r2
        exact ⟨_, r2.tup, .inr rfl⟩
  · simp only [ok, RW, RX, VOp.fresh, bxC, bsC, un, most, callsOf, seval, Int.reducePow, ↓reduceIte, Nat.reduceEqDiff, reduceCtorEq, -List.reduceReplicate]
    exact ⟨_, .tup (.cons .nils (.cons (.int _ _) .nil)), .inl rfl⟩
end
end Go.Proofs.Yteaieinpnpnkbaa.VM
namespace Go.Proofs.Yteaieinpnpnkbaa.VM
open Go.Proofs.Yteaieinpnpnkbaa.Hil
attribute [local irreducible] Af Nx EvO Ev Un Gd Cd EvR EvQ EvC Nc Gc Lp EvM NxM AfM GdM EvMR EvMQ EvMD EvMC Nm Gm
theorem bxCov_all : bxCov 0 0 4294967295 4294967295 = [(0, 4294967296)] := by
  have ok : bxOk 0 0 4294967295 4294967295 := by decide
  obtain ⟨h1, h2⟩ := bxCov_of ok
  refine h1.uniq (y := [(0, 4294967296)]) (a := -1) ⟨by decide, by decide, by decide, trivial⟩ fun d => ?_
  rw [h2, rHas_cons]
  have n0 : ¬ rHas [] d := rHas_nil
  simp only [n0, or_false]
  constructor
  · intro h
    have := grid_lt h
    exact ⟨by omega, by omega⟩
  · rintro ⟨c1, c2⟩
    have c1 : 0 ≤ d := c1
    have c2 : d < 4294967296 := c2
    refine (bx_mem ok).2 ⟨(hdec 6 (d / 1048576).toNat).1, (hdec 6 (d / 1048576).toNat).2, ?_⟩
    have h3 := hdec_lt 6 (d / 1048576).toNat
    have h4 := cell_dec 6 (d / 1048576).toNat
    rw [Nat.mod_eq_of_lt (by omega)] at h4
    rw [h4]
    exact ⟨by omega, by omega, by omega, by omega, by omega⟩
theorem bxCov_one : bxCov 0 0 0 0 = [(0, 1048576)] := by
  have ok : bxOk 0 0 0 0 := by decide
  obtain ⟨h1, h2⟩ := bxCov_of ok
  refine h1.uniq (y := [(0, 1048576)]) (a := -1) ⟨by decide, by decide, by decide, trivial⟩ fun d => ?_
  rw [h2, rHas_cons]
  have n0 : ¬ rHas [] d := rHas_nil
  simp only [n0, or_false]
  have e : hcell 6 0 0 = 0 := by decide
  unfold inCells
  rw [bx_mem ok]
  constructor
  · rintro ⟨x, y, h3, h4, h5, h6, h7⟩
    obtain rfl : x = 0 := by omega
    obtain rfl : y = 0 := by omega
    rw [e] at h7
    exact ⟨by show 0 ≤ d; omega, by show d < 1048576; omega⟩
  · rintro ⟨c1, c2⟩
    have c1 : 0 ≤ d := c1
    have c2 : d < 1048576 := c2
    exact ⟨0, 0, by omega, by omega, by omega, by omega, by rw [e]; omega⟩
def awT : List (Nat × List AV × AV) := [(10, [.agg [.int .i64 0, .int .i64 0, .int .i64 4294967295, .int .i64 4294967295]], .tup [tRgs [(0, 4294967296)], .int .i64 0]),
  (10, [.agg [.int .i64 0, .int .i64 0, .int .i64 0, .int .i64 0]], .tup [tRgs [(0, 1048576)], .int .i64 0]),
  (10, [.agg [.int .i64 1, .int .i64 0, .int .i64 0, .int .i64 0]], .tup [.nils, .int .i64 600]),
  (14, [tRgs [(0, 5)], tRgs [(5, 9)]], .tup [tRgs [(0, 9)], .int .i64 0]),
  (16, [tRgs [(0, 5)], tRgs [(4, 9)]], .tup [tRgs [(4, 5)], .int .i64 0]),
  (17, [tRgs [(0, 5)], tRgs [(1, 2)]], .tup [tRgs [(0, 1), (2, 5)], .int .i64 0]),
  (14, [tRgs [(5, 5)], .nils], .tup [.nils, .int .i64 600])]
theorem MixR.one {op : Bool → Bool → Bool} {a b r : Rgs} {z : AV} (m : MixR op a b z) (ha : sepB (-1) a = true) (hb : sepB (-1) b = true) (hr : sepB (-1) r = true) (h : ∀ d, rHas r d ↔ op (hasB a d) (hasB b d) = true) : z = .tup [tRgs r, .int .i64 0] := by
  rcases m with ⟨n, _⟩ | ⟨_, _, q, h1, h2, rfl⟩
  · exact absurd ⟨ha, hb⟩ n
  · rw [h1.uniq (sepB_iff.1 hr) fun d => by rw [h2, h]]
section
variable {P : Program}
theorem awT_ok (g : Pg P tab) (hi : SortI P) (hs : SortE P) : ∀ p ∈ awT, Pu P p.1 p.2.1 (fun v => v = p.2.2) := by
  have is1 : ∀ a b : Int, -10 ≤ a → a ≤ 10 → -10 ≤ b → b ≤ 10 → IsL 16 RRg (tRgs [(a, b)]) [(a, b)] := fun a b h1 h2 h3 h4 => tRgs_is (fun r hr => by
    rw [List.mem_singleton.1 hr]; exact ⟨⟨by show -9223372036854775808 ≤ a; omega, by show a ≤ 9223372036854775807; omega⟩, ⟨by show -9223372036854775808 ≤ b; omega, by show b ≤ 9223372036854775807; omega⟩⟩) (by show 1 * 16 ≤ reachBytes; decide)
  intro p hp
  simp only [awT, List.mem_cons, List.not_mem_nil, or_false] at hp
  rcases hp with rfl | rfl | rfl | rfl | rfl | rfl | rfl
  · refine (of_pu g hi 0 0 4294967295 4294967295).mono ?_
    rintro v (⟨n, _⟩ | ⟨_, rfl⟩)
    · exact absurd (by decide) n
    · rw [bxCov_all]
  · refine (of_pu g hi 0 0 0 0).mono ?_
    rintro v (⟨n, _⟩ | ⟨_, rfl⟩)
    · exact absurd (by decide) n
    · rw [bxCov_one]
  · refine (of_pu g hi 1 0 0 0).mono ?_
    rintro v (⟨n, rfl⟩ | ⟨ok, _⟩)
    · rfl
    · exact absurd ok (by decide)
  · refine (Union_pu g hs (is1 0 5 (by decide) (by decide) (by decide) (by decide)) (is1 5 9 (by decide) (by decide) (by decide) (by decide))).mono fun v m => m.one rfl rfl rfl fun d => ?_
    simp [rHas, hasB]; omega
  · refine (Common_pu g hs (is1 0 5 (by decide) (by decide) (by decide) (by decide)) (is1 4 9 (by decide) (by decide) (by decide) (by decide))).mono fun v m => m.one rfl rfl rfl fun d => ?_
    simp [rHas, hasB]; omega
  · refine (Less_pu g hs (is1 0 5 (by decide) (by decide) (by decide) (by decide)) (is1 1 2 (by decide) (by decide) (by decide) (by decide))).mono fun v m => m.one rfl rfl rfl fun d => ?_
    simp [rHas, hasB]; omega
  · refine (Union_pu g hs (is1 5 5 (by decide) (by decide) (by decide) (by decide)) (isL_nil 16 RRg)).mono fun v m => ?_
    rcases m with ⟨_, rfl⟩ | ⟨n, _⟩
    · rfl
    · exact absurd n (by decide)
theorem awake6_pu (g : Pg P tab) (hi : SortI P) (hs : SortE P) : Pu P 23 [] (fun v => v = .bool true) := g.runT (awT_ok g hi hs) (n := 400) (by kernel_rfl)
end
end Go.Proofs.Yteaieinpnpnkbaa.VM
namespace Go.Proofs.Yteaieinpnpnkbaa.VM
attribute [local irreducible] Af Nx EvO Ev Un Gd Cd EvR EvQ EvC Nc Gc Lp EvM NxM AfM GdM EvMR EvMQ EvMD EvMC Nm Gm
theorem wRgs {c : List AV} (h : Ws [.sl 16 [.int .i64, .int .i64]] c) : ∃ (w : AV) (l : Rgs), c = [w] ∧ IsL 16 RRg w l := by
  cases h with | cons h t => cases t; obtain ⟨l, hl⟩ := h.isL wRg; exact ⟨_, l, rfl, hl⟩
theorem MixR.tup {op : Bool → Bool → Bool} {a b : Rgs} {z : AV} (m : MixR op a b z) : ∃ x e, z = .tup [x, .int .i64 e] ∧ x.told = true := by
  rcases m with ⟨_, rfl⟩ | ⟨_, _, r, hr, _, rfl⟩
  · exact ⟨_, _, rfl, rfl⟩
  · exact ⟨_, _, rfl, hr.is.told tRg⟩
end Go.Proofs.Yteaieinpnpnkbaa.VM
namespace Go.Proofs.Yteaieinpnpnkbaa.VM
attribute [local irreducible] Af Nx EvO Ev Un Gd Cd EvR EvQ EvC Nc Gc Lp EvM NxM AfM GdM EvMR EvMQ EvMD EvMC Nm Gm
theorem cat_rcells : ∀ {l : Rgs} {c : List AV}, Cat RRg l c → c = rcells l
  | _, _, .nil => rfl
  | _, _, .cons (a := a) (l := l) h t => by rw [cat_rcells t, h.1]; rfl
theorem rg_row {w : AV} {x : Rgs} (h : IsL 16 RRg w x) : lenV w = some x.length ∧ ∀ hh : Heap, cellsOf hh 2 x.length w = some (rcells x) := by
  rcases h.2 with ⟨rfl, rfl⟩ | ⟨c, rfl, hc⟩
  · exact ⟨rfl, fun hh => rfl⟩
  · rw [cat_rcells hc]
    refine ⟨rfl, fun hh => ?_⟩
    show cut (rcells x) 0 (x.length * 2) = _
    rw [cut_eq, List.drop_zero, ← rcells_len, List.take_length, if_pos rfl]
def tRs (l : Rgs) : AV := .rs (rcells l) l.length
theorem tRs_is {w : AV} {x : Rgs} (h : IsL 16 RRg w x) : IsL 16 RRg (tRs x) x := isL_rs (rcells_cat h.rgs64) h.1
def mark7 : List AV := [.int .i64 77777, .int .i64 0, .int .i64 77777, .int .i64 0]
theorem lent_fz {h : Heap} {b e ver : Nat} {l : Rgs} (hg : h.get b = some (.cells (rcells l ++ mark7) e ver)) : Fz true h (.sl b 0 l.length (l.length + 2) 2) (tRs l) := by
  unfold tRs
  by_cases h0 : l.length = 0
  · rw [h0, List.eq_nil_of_length_eq_zero h0]; exact .sl0
  · refine .sl (by omega) hg (cs := rcells l) ?_ (Fzs.refl (rcells_told l))
    rw [cut_eq, List.drop_zero, ← rcells_len, List.take_left, if_pos rfl]
section
variable {P : Program}
theorem lend_cl (g : Pg P tab) {w : AV} {x : Rgs} (hw : IsL 16 RRg w x) {h : Heap} {Q : AV → Heap → Prop}
    (q : ∀ b h' e ver, h'.get b = some (.cells (rcells x ++ mark7) e ver) → h.next ≤ b → b < h'.next → Ext h h' → Q (.sl b 0 x.length (x.length + 2) 2) h') : Cl P 9 [w] h Q := by
  obtain ⟨r1, r2⟩ := rg_row hw
  have hbd := hw.1
  have e0 : reachBytes = 140737488351232 := rfl
  rw [e0] at hbd
  have hln := hw.len
  refine g.cl (vf := v9) rfl rfl ?_
  simp only [v9, RX, VOp.fresh, bxC, bsC, un, most, callsOf, seval, Int.reducePow, ↓reduceIte, Nat.reduceEqDiff, reduceCtorEq]
  refine Cl.mono (Q := fun v h1 => SRow h1 v 2 (rcells x) x.length ∧ Ext h h1 ∧ (∀ c ∈ blkOf v, h.next ≤ c) ∧ v ≠ .nils) ?_ fun v h1 hq => ?_
  · refine g.cl (vf := v27) rfl rfl ?_
    have x1 := Ext.mk (h := h) (.cells [] 41 0)
    have n1 : (h.mk' h.next (.cells [] 41 0)).next = h.next + 1 := by rw [mk_next]; omega
    have s0 : SRow (h.mk' h.next (.cells [] 41 0)) (.sl h.next 0 0 0 2) 2 [] 0 := .inr ⟨h.next, 41, 0, rfl, by omega, by rw [Heap.get_mk, if_pos rfl], rfl, rfl⟩
    obtain ⟨v', h3, e3, s3, hn, hb, hk⟩ := s0.app (r2 _) r1 (rcells_len x) (rcells_one x) (bytes := 16) (by unfold most2; omega) 41
    rw [List.nil_append, Nat.zero_add] at s3
    simp only [v27, e3, RX, VOp.fresh, bxC, bsC, un, most, callsOf, seval, Int.reducePow, ↓reduceIte, Nat.reduceEqDiff, reduceCtorEq]
    refine ⟨s3, ⟨by omega, fun c hc => by rw [hk c (by omega) (fun hm => by simp only [blkOf, List.mem_singleton] at hm; omega), x1.2 c hc]⟩, fun c hc => ?_, ?_⟩
    · rcases hb c hc with h1 | h1
      · simp only [blkOf, List.mem_singleton] at h1; omega
      · omega
    · intro e
      subst e
      simp only [appendV, r1, r2] at e3
      split at e3
      · simp only [Nat.beq_refl, cond_true] at e3
        split at e3
        · split at e3 <;> cases e3
        · split at e3
          · split at e3 <;> cases e3
          · cases e3
      · cases e3
  · obtain ⟨s3, x3, hb3, hv⟩ := hq
    have x4 := Ext.mk (h := h1) (.cells mark7 41 0)
    have n4 : (h1.mk' h1.next (.cells mark7 41 0)).next = h1.next + 1 := by rw [mk_next]; omega
    have g4 : (h1.mk' h1.next (.cells mark7 41 0)).get h1.next = some (.cells mark7 41 0) := by rw [Heap.get_mk, if_pos rfl]
    obtain ⟨v', h5, e5, s5, hn5, hb5, hk5⟩ := (s3.ext x4).app (x := .sl h1.next 0 2 2 2) (m := 2) (cells_of g4 rfl 2) rfl rfl rfl (bytes := 16) (by unfold most2; omega) 41
    rcases s5 with ⟨_, h0, _⟩ | ⟨b, eb, vb, rfl, hbn, hg, _⟩
    · omega
    have sl := slVhi (sz := 2) (b := b) (off := 0) (len := x.length + 2) (cap := x.length + 2) (hi := x.length) (k2 := .i64) (by omega)
    have hbb : h.next ≤ b := by
      rcases hb5 b (by simp [blkOf]) with h1 | h1
      · exact hb3 b h1
      · have := x3.1; omega
    have e5' : appendV (h1.mk' h1.next (.cells [.int .i64 77777, .int .i64 0, .int .i64 77777, .int .i64 0] 41 0)) 2 16 41 v (.sl h1.next 0 2 2 2) = some (.sl b 0 (x.length + 2) (x.length + 2) 2, h5) := e5
    simp only [hln, e5', sl, RX, VOp.fresh, bxC, bsC, un, most, callsOf, seval, Int.reducePow, ↓reduceIte, Nat.reduceEqDiff, reduceCtorEq]
    refine q b h5 eb vb hg hbb hbn ⟨by have := x3.1; omega, fun c hc => ?_⟩
    have := x3.1
    rw [hk5 c (by omega) (fun hm => by have := hb3 c hm; omega), x4.2 c (by omega), x3.2 c hc]
theorem kept_cl (g : Pg P tab) {w : AV} {x : Rgs} (hw : IsL 16 RRg w x) {h : Heap} {b e ver : Nat} (hg : h.get b = some (.cells (rcells x ++ mark7) e ver)) {Q : AV → Heap → Prop} (q : Q (.bool true) h) : Cl P 22 [.sl b 0 x.length (x.length + 2) 2, w] h Q := by
  have hbd := hw.bound (by decide)
  have hln := hw.len
  have w1 : IntKind.i64.wrap ((x.length : Int) + 2) = ((x.length + 2 : Nat) : Int) := by rw [w64 (by omega) (by omega)]; push_cast; rfl
  have w2 : IntKind.i64.wrap ((x.length : Int) + 1) = ((x.length + 1 : Nat) : Int) := by rw [w64 (by omega) (by omega)]; push_cast; rfl
  have sl := slVhi (sz := 2) (b := b) (off := 0) (len := x.length) (cap := x.length + 2) (hi := x.length + 2) (k2 := .i64) (by omega)
  have ia1 : ∀ hh : Heap, iaV hh 2 none (.sl b 0 (x.length + 2) (x.length + 2) 2) (.int .i64 (x.length : Int)) = .val (.ptr b (x.length * 2)) hh := fun hh => by
    rw [iaV_sl, if_pos ⟨by omega, by omega, rfl⟩, Int.toNat_natCast, Nat.zero_add]
  have ia2 : ∀ hh : Heap, iaV hh 2 none (.sl b 0 (x.length + 2) (x.length + 2) 2) (.int .i64 ((x.length + 1 : Nat) : Int)) = .val (.ptr b ((x.length + 1) * 2)) hh := fun hh => by
    rw [iaV_sl, if_pos ⟨by omega, by omega, rfl⟩, Int.toNat_natCast, Nat.zero_add]
  have d1 : (rcells x ++ mark7).drop (x.length * 2) = mark7 := List.drop_left' (rcells_len x)
  have d2 : (rcells x ++ mark7).drop ((x.length + 1) * 2) = [.int .i64 77777, .int .i64 0] := by
    rw [show (x.length + 1) * 2 = x.length * 2 + 2 by omega, ← List.drop_drop, d1]; rfl
  have p1 : part true (rcells x ++ mark7) (x.length * 2) 2 = some (.agg [.int .i64 77777, .int .i64 0]) := by simp only [part, cut, d1]; rfl
  have p2 : part true (rcells x ++ mark7) ((x.length + 1) * 2) 2 = some (.agg [.int .i64 77777, .int .i64 0]) := by simp only [part, cut, d2]; rfl
  refine g.cl (vf := v22) rfl rfl ?_
  simp only [v22, w1, sl, RX, VOp.fresh, bxC, bsC, un, most, callsOf, seval, Int.reducePow, ↓reduceIte, Nat.reduceEqDiff, reduceCtorEq]
  refine (same_pu g (tRs_is hw) hw).cl (.cons (lent_fz hg) (.cons (Fz.refl (hw.told tRg)) .nil)) ?_
  rintro _ rfl
  simp only [hln, ia1, ia2, hg, p1, p2, w2, flat2, RX, VOp.fresh, bxC, bsC, un, most, callsOf, seval, Int.reducePow, ↓reduceIte, Nat.reduceEqDiff, reduceCtorEq]
  exact q
end
end Go.Proofs.Yteaieinpnpnkbaa.VM
namespace Go.Proofs.Yteaieinpnpnkbaa.VM
attribute [local irreducible] Af Nx EvO Ev Un Gd Cd EvR EvQ EvC Nc Gc Lp EvM NxM AfM GdM EvMR EvMQ EvMD EvMC Nm Gm
theorem wB4 {c : List AV} (h : Ws [.int .i64, .int .i64, .int .i64, .int .i64] c) : ∃ p q r s : Int, c = [.int .i64 p, .int .i64 q, .int .i64 r, .int .i64 s] := by
  cases h with | cons h1 t => cases t with | cons h2 t => cases t with | cons h3 t => cases t with | cons h4 t =>
    cases t; cases h1 with | int _ n1 w1 => cases h2 with | int _ n2 w2 => cases h3 with | int _ n3 w3 => cases h4 with | int _ n4 w4 => exact ⟨n1, n2, n3, n4, rfl⟩
theorem MixR.same {op : Bool → Bool → Bool} {a b : Rgs} {z z' : AV} (m : MixR op a b z) (m' : MixR op a b z') : z = z' := by
  rcases m with ⟨n, rfl⟩ | ⟨h1, h2, r, hr, e, rfl⟩
  · rcases m' with ⟨_, rfl⟩ | ⟨h1, h2, _⟩
    · rfl
    · exact absurd ⟨h1, h2⟩ n
  · rcases m' with ⟨n, rfl⟩ | ⟨_, _, r', hr', e', rfl⟩
    · exact absurd ⟨h1, h2⟩ n
    · rw [hr.uniq hr' fun d => by rw [e, e']]
theorem MixR.isl {op : Bool → Bool → Bool} {a b : Rgs} {z : AV} (m : MixR op a b z) : ∃ x e r, z = .tup [x, .int .i64 e] ∧ IsL 16 RRg x r := by
  rcases m with ⟨_, rfl⟩ | ⟨_, _, r, hr, _, rfl⟩
  · exact ⟨_, _, [], rfl, isL_nil _ _⟩
  · exact ⟨_, _, r, rfl, hr.is⟩
section
variable {P : Program}
theorem covers_pu (g : Pg P tab) (hi : SortI P) (hs : SortE P) {x y : Rgs} {v w : AV} (hv : IsL 16 RRg v x) (hw : IsL 16 RRg w y) (a b c d k : Int) : Pu P 3 [.agg [.int .i64 a, .int .i64 b, .int .i64 c, .int .i64 d], v, w, .int .i64 k] (fun v => v = .bool true) := by
  have nums : ∀ n : Int, Pu P 13 [.int .i64 n] (fun v => v = .int .i64 n) := num_pu g
  have tv := hv.told tRg
  have tw := hw.told tRg
  have ip := tRs_is hv
  have iq := tRs_is hw
  refine g.pu (vf := v3) rfl rfl ?_
  simp only [v3, RW, RX, VOp.fresh, bxC, bsC, un, most, callsOf, seval, Int.reducePow, ↓reduceIte, Nat.reduceEqDiff, reduceCtorEq]
  refine lend_cl g hv fun bp h1 e1 ver1 g1 l1 l1' x1 => ?_
  simp only [RX, VOp.fresh, bxC, bsC, un, most, callsOf, seval, Int.reducePow, ↓reduceIte, Nat.reduceEqDiff, reduceCtorEq]
  refine lend_cl g hw fun bq h2 e2 ver2 g2 l2 l2' x2 => ?_
  have g0 : h2.get 0 = some (.cells [.int .i64 a, .int .i64 b, .int .i64 c, .int .i64 d] 23 0) := by rw [x2.2 0 (by have := x1.1; rw [mk_next] at this; omega), x1.2 0 (by rw [mk_next]; omega), Heap.get_mk, if_pos rfl]
  have gp : h2.get bp = some (.cells (rcells x ++ mark7) e1 ver1) := (x2.2 bp l1').trans g1
  have fp := lent_fz gp
  have fq := lent_fz g2
  simp only [g0, RX, VOp.fresh, bxC, bsC, un, most, callsOf, seval, Int.reducePow, ↓reduceIte, Nat.reduceEqDiff, reduceCtorEq]
  refine (of_pu g hi a b c d).go rfl fun z hz => ?_
  obtain ⟨u, eu, ru, rfl, iu⟩ : ∃ u eu ru, z = .tup [u, .int .i64 eu] ∧ IsL 16 RRg u ru := by
    rcases hz with ⟨_, rfl⟩ | ⟨ok, rfl⟩
    · exact ⟨_, _, [], rfl, isL_nil _ _⟩
    · exact ⟨_, _, _, rfl, (bxCov_of ok).1.is⟩
  have hz' : Pu P 11 [.agg [.int .i64 a, .int .i64 b, .int .i64 c, .int .i64 d]] (fun v => v = .tup [u, .int .i64 eu]) := (dof_pu g a b c d).mono fun v hv => by
    rcases hz with ⟨n, e⟩ | ⟨ok, e⟩
    · rcases hv with ⟨_, rfl⟩ | ⟨ok, _⟩
      · exact e.symm
      · exact absurd ok n
    · rcases hv with ⟨n, _⟩ | ⟨_, rfl⟩
      · exact absurd ok n
      · exact e.symm
  have tu := iu.told tRg
  clear hz
  simp only [g0, RX, VOp.fresh, bxC, bsC, un, most, callsOf, seval, Int.reducePow, ↓reduceIte, Nat.reduceEqDiff, reduceCtorEq]
  refine hz'.go rfl ?_
  rintro _ rfl
  simp only [RX, VOp.fresh, bxC, bsC, un, most, callsOf, seval, Int.reducePow, ↓reduceIte, Nat.reduceEqDiff, reduceCtorEq]
  refine (same_pu g iu iu).go (by simp [AV.tolds, tu]) ?_
  rintro _ rfl
  simp only [RX, VOp.fresh, bxC, bsC, un, most, callsOf, seval, Int.reducePow, ↓reduceIte, Nat.reduceEqDiff, reduceCtorEq]
  refine (nums _).go rfl ?_
  rintro _ rfl
  simp only [RX, VOp.fresh, bxC, bsC, un, most, callsOf, seval, Int.reducePow, ↓reduceIte, Nat.reduceEqDiff, reduceCtorEq]
  -- union
  refine (Union_pu g hs ip iq).cl (.cons fp (.cons fq .nil)) fun z m1 => ?_
  obtain ⟨u1, eu1, r1, rfl, i1⟩ := m1.isl
  have t1 := i1.told tRg
  simp only [RX, VOp.fresh, bxC, bsC, un, most, callsOf, seval, Int.reducePow, ↓reduceIte, Nat.reduceEqDiff, reduceCtorEq]
  refine (dmix_pu g (how := 0) (.inl rfl) hv hw).go (by simp [AV.tolds, AV.told, tv, tw]) fun z n1 => ?_
  obtain rfl := MixR.same m1 n1
  simp only [RX, VOp.fresh, bxC, bsC, un, most, callsOf, seval, Int.reducePow, ↓reduceIte, Nat.reduceEqDiff, reduceCtorEq]
  refine (Common_pu g hs ip iq).cl (.cons fp (.cons fq .nil)) fun z m2 => ?_
  obtain ⟨u2, eu2, r2, rfl, i2⟩ := m2.isl
  have t2 := i2.told tRg
  simp only [RX, VOp.fresh, bxC, bsC, un, most, callsOf, seval, Int.reducePow, ↓reduceIte, Nat.reduceEqDiff, reduceCtorEq]
  refine (dmix_pu g (how := 1) (.inr (.inl rfl)) hv hw).go (by simp [AV.tolds, AV.told, tv, tw]) fun z n2 => ?_
  obtain rfl := MixR.same m2 n2
  simp only [RX, VOp.fresh, bxC, bsC, un, most, callsOf, seval, Int.reducePow, ↓reduceIte, Nat.reduceEqDiff, reduceCtorEq]
  refine (Less_pu g hs ip iq).cl (.cons fp (.cons fq .nil)) fun z m3 => ?_
  obtain ⟨u3, eu3, r3, rfl, i3⟩ := m3.isl
  have t3 := i3.told tRg
  simp only [RX, VOp.fresh, bxC, bsC, un, most, callsOf, seval, Int.reducePow, ↓reduceIte, Nat.reduceEqDiff, reduceCtorEq]
  refine (dmix_pu g (how := 2) (.inr (.inr rfl)) hv hw).go (by simp [AV.tolds, AV.told, tv, tw]) fun z n3 => ?_
  obtain rfl := MixR.same m3 n3
  clear m1 m2 m3 n1 n2 n3
  simp only [RX, VOp.fresh, bxC, bsC, un, most, callsOf, seval, Int.reducePow, ↓reduceIte, Nat.reduceEqDiff, reduceCtorEq]
  refine (same_pu g i1 i1).go (by simp [AV.tolds, t1]) ?_
  rintro _ rfl
  simp only [RX, VOp.fresh, bxC, bsC, un, most, callsOf, seval, Int.reducePow, ↓reduceIte, Nat.reduceEqDiff, reduceCtorEq]
  refine (nums _).go rfl ?_
  rintro _ rfl
  simp only [RX, VOp.fresh, bxC, bsC, un, most, callsOf, seval, Int.reducePow, ↓reduceIte, Nat.reduceEqDiff, reduceCtorEq]
  refine (same_pu g i2 i2).go (by simp [AV.tolds, t2]) ?_
  rintro _ rfl
  simp only [RX, VOp.fresh, bxC, bsC, un, most, callsOf, seval, Int.reducePow, ↓reduceIte, Nat.reduceEqDiff, reduceCtorEq]
  refine (nums _).go rfl ?_
  rintro _ rfl
  simp only [RX, VOp.fresh, bxC, bsC, un, most, callsOf, seval, Int.reducePow, ↓reduceIte, Nat.reduceEqDiff, reduceCtorEq]
  refine (same_pu g i3 i3).go (by simp [AV.tolds, t3]) ?_
  rintro _ rfl
  simp only [RX, VOp.fresh, bxC, bsC, un, most, callsOf, seval, Int.reducePow, ↓reduceIte, Nat.reduceEqDiff, reduceCtorEq]
  refine (nums _).go rfl ?_
  rintro _ rfl
  simp only [RX, VOp.fresh, bxC, bsC, un, most, callsOf, seval, Int.reducePow, ↓reduceIte, Nat.reduceEqDiff, reduceCtorEq]
  refine (may_pu g ip).cl (.cons fp .nil) ?_
  rintro _ rfl
  simp only [RX, VOp.fresh, bxC, bsC, un, most, callsOf, seval, Int.reducePow, ↓reduceIte, Nat.reduceEqDiff, reduceCtorEq]
  refine (dmay_pu g hv).go (by simp [AV.tolds, tv]) ?_
  rintro _ rfl
  simp only [HE, RX, VOp.fresh, bxC, bsC, un, most, callsOf, seval, Int.reducePow, ↓reduceIte, Nat.reduceEqDiff, reduceCtorEq]
  refine (has_pu g ip k).cl (.cons fp (.cons (.int _ _) .nil)) ?_
  rintro _ rfl
  simp only [RX, VOp.fresh, bxC, bsC, un, most, callsOf, seval, Int.reducePow, ↓reduceIte, Nat.reduceEqDiff, reduceCtorEq]
  refine (dhas_pu g hv k).go (by simp [AV.tolds, AV.told, tv]) ?_
  rintro _ rfl
  simp only [HE, RX, VOp.fresh, bxC, bsC, un, most, callsOf, seval, Int.reducePow, ↓reduceIte, Nat.reduceEqDiff, reduceCtorEq]
  refine kept_cl g hv gp ?_
  simp only [RX, VOp.fresh, bxC, bsC, un, most, callsOf, seval, Int.reducePow, ↓reduceIte, Nat.reduceEqDiff, reduceCtorEq]
  refine kept_cl g hw g2 ?_
  simp only [RX, VOp.fresh, bxC, bsC, un, most, callsOf, seval, Int.reducePow, ↓reduceIte, Nat.reduceEqDiff, reduceCtorEq]
  refine (awake6_pu g hi hs).go rfl ?_
  rintro _ rfl
  simp only [RX, VOp.fresh, bxC, bsC, un, most, callsOf, seval, Int.reducePow, ↓reduceIte, Nat.reduceEqDiff, reduceCtorEq]
end
end Go.Proofs.Yteaieinpnpnkbaa.VM
