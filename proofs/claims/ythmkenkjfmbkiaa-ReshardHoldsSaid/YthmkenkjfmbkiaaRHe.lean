/- Part of a proof: what stands for the program, and its walk. No condition. -/
import Derived.Below
import Derived.ChangeArms
import Derived.ChangeMaps5
import Derived.Laws.Cells
import Derived.Laws.IdiomCopy
import Derived.MapKept
import Derived.OrdersIn
import Derived.RangeFuncLeaves
import Derived.RangeFuncRecord
import Derived.Shelf.GgSortFunc.RowK
import Derived.Shelf.SortM.Plain
import Derived.Shelf.SortM.SortNone
import Derived.Shelf.Spec.SlicesInsertGrow
import Derived.SizedLaws
import Derived.WalkKit
import Derived.WalkLawsBesides
import GoSem.Claim
import Derived.Test.YthmkenkjfmbkiaaRHd
set_option linter.unusedSimpArgs false
set_option linter.unusedVariables false
set_option linter.defProp false
set_option maxHeartbeats 1000000
namespace Go.Proofs.Ythmkenkjfmbkiaa.VM
open Go.Proofs.Ythmkenkjfmbkiaa.Hil
/-- m cells of a column, n columns -/
def colC (b x m : Nat) : List Int := (List.range m).map fun j => ((hcell 6 x (b + j) : Nat) : Int)
def gridC (a b m n : Nat) : List Int := ((List.range n).map fun i => colC b (a + i) m).flatten
theorem colC_succ (b x m : Nat) : colC b x (m + 1) = colC b x m ++ [((hcell 6 x (b + m) : Nat) : Int)] := by simp [colC, List.range_succ]
theorem gridC_succ (a b m n : Nat) : gridC a b m (n + 1) = gridC a b m n ++ colC b (a + n) m := by simp [gridC, List.range_succ]
theorem mem_grid {a b m n : Nat} {c : Int} : c ∈ gridC a b m n ↔ ∃ i j, i < n ∧ j < m ∧ c = ((hcell 6 (a + i) (b + j) : Nat) : Int) := by
  simp only [gridC, colC, List.mem_flatten, List.mem_map, List.mem_range]
  constructor
  · rintro ⟨_, ⟨i, hi, rfl⟩, hc⟩
    obtain ⟨j, hj, rfl⟩ := List.mem_map.1 hc
    exact ⟨i, j, hi, List.mem_range.1 hj, rfl⟩
  · rintro ⟨i, j, hi, hj, rfl⟩
    exact ⟨_, ⟨i, hi, rfl⟩, List.mem_map.2 ⟨j, List.mem_range.2 hj, rfl⟩⟩
theorem grid_nodup {a b m n : Nat} (ha : a + n ≤ 64) (hb : b + m ≤ 64) : (gridC a b m n).Nodup := by
  induction n with
  | zero => simp [gridC]
  | succ n ih =>
    rw [gridC_succ, List.nodup_append]
    refine ⟨ih (by omega), ?_, fun x hx y hy e => ?_⟩
    · unfold colC
      rw [List.nodup_iff_pairwise_ne, List.pairwise_map]
      refine List.Pairwise.imp_of_mem ?_ (List.nodup_iff_pairwise_ne.1 List.nodup_range)
      intro j k hj hk hne e
      have hj := List.mem_range.1 hj
      have hk := List.mem_range.1 hk
      have := (cell_inj (n := 6) (x := a + n) (y := b + j) (u := a + n) (v := b + k) (by omega) (by omega) (by omega) (by omega) (by omega)).2
      omega
    · subst e
      obtain ⟨i, j, hi, hj, e1⟩ := mem_grid.1 hx
      unfold colC at hy
      obtain ⟨k, hk, e2⟩ := List.mem_map.1 hy
      have hk := List.mem_range.1 hk
      have := (cell_inj (n := 6) (x := a + i) (y := b + j) (u := a + n) (v := b + k) (by omega) (by omega) (by omega) (by omega) (by omega)).1
      omega
theorem grid_lt {a b m n : Nat} {c : Int} (h : c ∈ gridC a b m n) : 0 ≤ c ∧ c < 4096 := by
  obtain ⟨i, j, _, _, rfl⟩ := mem_grid.1 h
  have := hcell_lt 6 (a + i) (b + j)
  omega
/-- stretches of cells, one behind the other -/
def covM (l : List Int) : Rgs := l.foldl (fun out c => addR out (c * 1048576, (c + 1) * 1048576)) []
theorem covM_snoc (l : List Int) (c : Int) : covM (l ++ [c]) = addR (covM l) (c * 1048576, (c + 1) * 1048576) := by simp [covM]
theorem addR_len : ∀ (l : Rgs) (r : Int × Int), (addR l r).length ≤ l.length + 1
  | [], _ => Nat.le_refl _
  | [q], r => by unfold addR; split <;> simp
  | q :: q' :: t, r => by rw [addR, List.length_cons, List.length_cons]; have := addR_len (q' :: t) r; omega
theorem covM_len (l : List Int) : (covM l).length ≤ l.length := by
  have : ∀ (l : List Int) (o : Rgs), (l.foldl (fun out c => addR out (c * 1048576, (c + 1) * 1048576)) o).length ≤ o.length + l.length := by
    intro l
    induction l with
    | nil => intro o; exact Nat.le_refl _
    | cons c l ih => intro o; rw [List.foldl_cons, List.length_cons]; have := ih (addR o (c * 1048576, (c + 1) * 1048576)); have := addR_len o (c * 1048576, (c + 1) * 1048576); omega
  simpa [covM] using this l []
def inCells (l : List Int) (d : Int) : Prop := d / 1048576 ∈ l
theorem cov_fold : ∀ (q : List Int) {out : Rgs} {a : Int} {L : List Int}, Upto out (a * 1048576) (inCells L) → 0 ≤ a → (∀ c ∈ q, a ≤ c ∧ c < 4096) → (∀ c, a ≤ c → (c ∈ L ↔ c ∈ q)) → q.Pairwise (· < ·) →
    ∃ e, Upto (q.foldl (fun out c => addR out (c * 1048576, (c + 1) * 1048576)) out) e (inCells L) ∧ ∀ d, e ≤ d → ¬ inCells L d
  | [], out, a, L, u, h0, _, h2, _ => ⟨a * 1048576, u, fun d hd h => by
      have := (h2 (d / 1048576) (by omega)).1 h
      simp at this⟩
  | c :: q, out, a, L, u, h0, h1, h2, hp => by
    rw [List.foldl_cons]
    have hc := h1 c (.head _)
    rw [List.pairwise_cons] at hp
    have u1 : Upto out (c * 1048576) (inCells L) := u.skip (by omega) fun d hd1 hd2 h => by
      have h3 := (h2 (d / 1048576) (by omega)).1 h
      rcases List.mem_cons.1 h3 with e | h3
      · omega
      · have := hp.1 _ h3; omega
    have u2 : Upto (addR out (c * 1048576, (c + 1) * 1048576)) ((c + 1) * 1048576) (inCells L) := u1.add (by omega) (by omega) (by omega) fun d hd1 hd2 => by
      have : d / 1048576 = c := by omega
      unfold inCells
      rw [this]
      exact (h2 c hc.1).2 (.head _)
    refine cov_fold q u2 (by omega) (fun x hx => ⟨by have := hp.1 x hx; omega, (h1 x (.tail _ hx)).2⟩) (fun x hx => ?_) hp.2
    rw [h2 x (by omega), List.mem_cons]
    constructor
    · rintro (e | h)
      · omega
      · exact h
    · exact .inr
theorem isort_perm (l : List Int) : (isort l).Perm l := List.mergeSort_perm _ _
theorem isort_le (l : List Int) : (isort l).Pairwise (· ≤ ·) := by
  have h := List.pairwise_mergeSort (le := fun (x y : Int) => decide (x ≤ y)) (fun a b c h1 h2 => by simp at *; omega) (fun a b => by simp; omega) l
  exact h.imp fun h => by simpa using h
theorem isort_lt {l : List Int} (h : l.Nodup) : (isort l).Pairwise (· < ·) := by
  have h1 := (isort_perm l).nodup_iff.2 h
  have h2 := isort_le l
  rw [List.nodup_iff_pairwise_ne] at h1
  exact (h1.and h2).imp fun ⟨a, b⟩ => by omega
/-- the stretches of a set of cells -/
theorem cov_of {l : List Int} (h : l.Nodup) (hb : ∀ c ∈ l, 0 ≤ c ∧ c < 4096) : Sep (-1) (covM (isort l)) ∧ ∀ d, rHas (covM (isort l)) d ↔ inCells l d := by
  have hm : ∀ c, c ∈ isort l ↔ c ∈ l := fun c => (isort_perm l).mem_iff
  obtain ⟨e, u, he⟩ := cov_fold (isort l) (out := []) (a := 0) (L := l) (by simpa using Upto.nil) (by omega) (fun c hc => hb c ((hm c).1 hc)) (fun c _ => (hm c).symm) (isort_lt h)
  refine ⟨u.1, fun d => ?_⟩
  have h3 := u.2.2 d
  unfold covM
  rw [h3]
  constructor
  · exact fun ⟨_, _, h⟩ => h
  · intro hd
    have h4 := hb _ hd
    refine ⟨by omega, ?_, hd⟩
    rcases Int.lt_or_le d e with c | c
    · exact c
    · exact absurd hd (he d c)
/-- a box that may be -/
def bxOk (a b c d : Int) : Prop := 0 ≤ a ∧ a ≤ 4294967295 ∧ 0 ≤ b ∧ b ≤ 4294967295 ∧ 0 ≤ c ∧ c ≤ 4294967295 ∧ 0 ≤ d ∧ d ≤ 4294967295 ∧ a ≤ c ∧ b ≤ d
instance (a b c d : Int) : Decidable (bxOk a b c d) := by unfold bxOk; infer_instance
/-- the cells of a box -/
def bxL (a b c d : Int) : List Int := gridC (a / 67108864).toNat (b / 67108864).toNat ((d / 67108864).toNat - (b / 67108864).toNat + 1) ((c / 67108864).toNat - (a / 67108864).toNat + 1)
theorem bx_nodup {a b c d : Int} (h : bxOk a b c d) : (bxL a b c d).Nodup := by
  obtain ⟨h1, h2, h3, h4, h5, h6, h7, h8, h9, h10⟩ := h
  exact grid_nodup (by omega) (by omega)
/-- the cover of a box -/
def bxCov (a b c d : Int) : Rgs := covM (isort (bxL a b c d))
theorem bxCov_of {a b c d : Int} (h : bxOk a b c d) : Sep (-1) (bxCov a b c d) ∧ ∀ k, rHas (bxCov a b c d) k ↔ inCells (bxL a b c d) k := cov_of (bx_nodup h) fun c hc => grid_lt hc
end Go.Proofs.Ythmkenkjfmbkiaa.VM
namespace Go.Proofs.Ythmkenkjfmbkiaa.VM
open Go.Proofs.Ythmkenkjfmbkiaa.Hil
attribute [local irreducible] Af Nx EvO Ev Un Gd Cd EvR EvQ EvC Nc Gc Lp EvM NxM AfM GdM EvMR EvMQ EvMD EvMC Nm Gm
section
variable {P : Program}
theorem Row.tup {h : Heap} {v : AV} {l : Rgs} (r : Row h v 2 (rcells l) l.length) {e : Int} : Fz false h (.tup [v, .int .i64 e]) (.tup [tRgs l, .int .i64 e]) := by
  refine .tup (.cons ?_ (.cons (.int _ _) .nil))
  rcases r with ⟨rfl, e0, _⟩ | ⟨b, eb, vb, rfl, h0, h1, h2, h3⟩
  · unfold tRgs; rw [e0, cRow_z]; exact .nils
  · unfold tRgs; rw [cRow_s _ h0]
    have hc : cut (rcells l) 0 (l.length * 2) = some (rcells l) := by rw [cut_eq, List.drop_zero, ← h2, List.take_length, if_pos rfl]
    refine .sl h0 h3 hc ?_
    clear h3 h2 hc
    induction l with
    | nil => exact .nil
    | cons r l ih =>
      have : rcells (r :: l) = .int .i64 r.1 :: .int .i64 r.2 :: rcells l := rfl
      rw [this]
      rcases Nat.eq_zero_or_pos l.length with e | e
      · rw [List.eq_nil_of_length_eq_zero e]; exact .cons (.int _ _) (.cons (.int _ _) .nil)
      · exact .cons (.int _ _) (.cons (.int _ _) (ih e))
end
end Go.Proofs.Ythmkenkjfmbkiaa.VM
namespace Go.Proofs.Ythmkenkjfmbkiaa.VM
open Go.Proofs.Ythmkenkjfmbkiaa.Hil
attribute [local irreducible] Af Nx EvO Ev Un Gd Cd EvR EvQ EvC Nc Gc Lp EvM NxM AfM GdM EvMR EvMQ EvMD EvMC Nm Gm
def metC (zs : List Int) : List AV := (List.range 4096).map fun i => .bool (decide (((i : Nat) : Int) ∈ zs))
theorem metC_len (zs : List Int) : (metC zs).length = 4096 := by simp [metC]
theorem metC_set {zs : List Int} {d : Nat} (h : d < 4096) : (metC zs).set d (.bool true) = metC (zs ++ [(d : Int)]) := by
  apply List.ext_getElem
  · simp [metC]
  · intro i h1 h2
    rw [List.getElem_set]
    simp only [metC, List.getElem_map, List.getElem_range]
    by_cases e : d = i
    · subst e; simp
    · rw [if_neg e]
      have : ((i : Nat) : Int) ∈ zs ++ [(d : Int)] ↔ ((i : Nat) : Int) ∈ zs := by
        rw [List.mem_append, List.mem_singleton]
        constructor
        · rintro (h | h)
          · exact h
          · omega
        · exact .inl
      simp only [this]
theorem metC_nil : metC [] = List.replicate 4096 (.bool false) := by
  unfold metC
  rw [show (fun i : Nat => AV.bool (decide (((i : Nat) : Int) ∈ ([] : List Int)))) = fun _ => .bool false from funext fun i => by simp, List.map_const', List.length_range]
theorem metC_at {zs : List Int} {d : Nat} (h : d < 4096) : part false (metC zs) d 1 = some (.bool (decide ((d : Int) ∈ zs))) := by
  have hl : d < (metC zs).length := by rw [metC_len]; exact h
  rw [part_f (List.drop_eq_getElem_cons hl)]
  simp [metC]
section
variable {P : Program}
theorem dpoint_pu (g : Pg P tab) (x y : Int) : Pu P 100 [.agg [.int .i64 x, .int .i64 y]] (fun v => v = .bool (decide (0 ≤ x ∧ x ≤ 4294967295 ∧ 0 ≤ y ∧ y ≤ 4294967295))) := by
  refine g.pu (vf := v100) rfl rfl ?_
  simp +contextual (maxSteps := 2000000) (disch := omega) only [v100, RX, VOp.fresh, bxC, bsC, un, most, callsOf, seval, Int.reducePow, ↓reduceIte, Nat.reduceEqDiff, reduceCtorEq]
theorem dboxMay_pu (g : Pg P tab) (a b c d : Int) : Pu P 80 [.agg [.int .i64 a, .int .i64 b, .int .i64 c, .int .i64 d]] (fun v => v = .bool (decide (bxOk a b c d))) := by
  refine g.pu (vf := v80) rfl rfl ?_
  simp only [v80, RX, VOp.fresh, bxC, bsC, un, most, callsOf, seval, Int.reducePow, ↓reduceIte, Nat.reduceEqDiff, reduceCtorEq]
  refine (dpoint_pu g _ _).go rfl ?_
  rintro v rfl
  by_cases h1 : 0 ≤ a ∧ a ≤ 4294967295 ∧ 0 ≤ b ∧ b ≤ 4294967295
  · simp only [h1, RX, VOp.fresh, bxC, bsC, un, most, callsOf, seval, Int.reducePow, ↓reduceIte, Nat.reduceEqDiff, reduceCtorEq]
    refine (dpoint_pu g _ _).go rfl ?_
    rintro v rfl
    by_cases h2 : 0 ≤ c ∧ c ≤ 4294967295 ∧ 0 ≤ d ∧ d ≤ 4294967295
    · simp +contextual (maxSteps := 2000000) only [h1, h2, bxOk, RX, VOp.fresh, bxC, bsC, un, most, callsOf, seval, Int.reducePow, ↓reduceIte, Nat.reduceEqDiff, reduceCtorEq]
    · have f : ¬ bxOk a b c d := fun z => by unfold bxOk at z; omega
      simp only [h2, f, RX, VOp.fresh, bxC, bsC, un, most, callsOf, seval, Int.reducePow, ↓reduceIte, Nat.reduceEqDiff, reduceCtorEq]
  · have f : ¬ bxOk a b c d := fun z => by unfold bxOk at z; omega
    simp only [h1, f, RX, VOp.fresh, bxC, bsC, un, most, callsOf, seval, Int.reducePow, ↓reduceIte, Nat.reduceEqDiff, reduceCtorEq]
theorem dof_col (g : Pg P tab) {a b c d : Int} (ok : bxOk a b c d) {bb e0 v0 mb x b0 m K : Nat} (hne : mb ≠ bb) (hb0 : b0 = (b / 67108864).toNat) (hm : b0 + m = (d / 67108864).toNat + 1) (hx : x < 64) (n : Nat) :
    ∀ (j : Nat) (s : T AV) (h : Heap) (zs : List Int) (em vm : Nat) (k : List Fr) (Q : Ex → T AV → Heap → Prop), j + n = m → K ≤ h.next → h.get mb = some (.cells (metC (zs ++ colC b0 x j)) em vm) → h.get bb = some (.cells [.int .i64 a, .int .i64 b, .int .i64 c, .int .i64 d] e0 v0) →
      sg s 1 = .ptr bb 0 → sg s 4 = .ptr mb 0 → sg s 5 = .int .i64 67108864 → sg s 6 = .int .i64 x → sg s 7 = .int .i64 ((b0 + j : Nat) : Int) →
      (∀ s' h' vm', K ≤ h'.next → h'.get mb = some (.cells (metC (zs ++ colC b0 x m)) em vm') → h'.get bb = some (.cells [.int .i64 a, .int .i64 b, .int .i64 c, .int .i64 d] e0 v0) → sg s' 1 = .ptr bb 0 → sg s' 4 = .ptr mb 0 → sg s' 5 = .int .i64 67108864 → sg s' 6 = .int .i64 x → Un P k Q (.exit 2) s' h') → Lp P b54_0 s h (Un P k Q) := by
  obtain ⟨o1, o2, o3, o4, o5, o6, o7, o8, o9, o10⟩ := id ok
  have q1 : IntKind.i64.wrap (d.tdiv 67108864) = d / 67108864 := by rw [Int.tdiv_eq_ediv_of_nonneg o7]; exact w64 (by omega) (by omega)
  have q2 := fun a : Int => bin_quo (k := .i64) (a := a) (b := 67108864) (by decide)
  induction n with
  | zero =>
    intro j s h zs em vm k Q hn hK hg hgb t1 t4 t5 t6 t7 hQ
    obtain rfl : j = m := by omega
    refine g.lpe b54_0.eq_1 ?_
    have c1 : ¬ ((b0 + j : Nat) : Int) ≤ d / 67108864 := by omega
    simp only [t1, t5, t7, hgb, q1, q2, c1, RX, VOp.fresh, bxC, bsC, un, most, callsOf, seval, Int.reducePow, ↓reduceIte, Nat.reduceEqDiff, reduceCtorEq]
    refine hQ _ _ _ hK hg hgb ?_ ?_ ?_ ?_
    · simp only [t1, sg_set, Nat.reduceEqDiff, ↓reduceIte]
    · simp only [t4, sg_set, Nat.reduceEqDiff, ↓reduceIte]
    · simp only [t5, sg_set, Nat.reduceEqDiff, ↓reduceIte]
    · simp only [t6, sg_set, Nat.reduceEqDiff, ↓reduceIte]
  | succ n ih =>
    intro j s h zs em vm k Q hn hK hg hgb t1 t4 t5 t6 t7 hQ
    refine g.lpe b54_0.eq_1 ?_
    have c1 : ((b0 + j : Nat) : Int) ≤ d / 67108864 := by omega
    have w1 : IntKind.i64.wrap (((b0 + j : Nat) : Int) + 1) = ((b0 + (j + 1) : Nat) : Int) := by rw [w64 (by omega) (by omega)]; push_cast; omega
    simp only [t1, t5, t6, t7, hgb, q1, q2, c1, RX, VOp.fresh, bxC, bsC, un, most, callsOf, seval, Int.reducePow, ↓reduceIte, Nat.reduceEqDiff, reduceCtorEq]
    refine (dcell_pu g (n := 6) (X := x) (Y := b0 + j) (by decide) (by decide) (by omega) (by omega)).go rfl ?_
    rintro _ rfl
    have hlt : hcell 6 x (b0 + j) < 4096 := hcell_lt 6 _ _
    have hc := colC_succ b0 x j
    generalize hcell 6 x (b0 + j) = z at *
    have hia : ∀ hh : Heap, iaV hh 1 (some 4096) (.ptr mb 0) (.int .i64 (z : Int)) = .val (.ptr mb z) hh := fun hh => by
      simp only [iaV]
      rw [if_pos ⟨by omega, by omega⟩, Int.toNat_natCast, Nat.mul_one, Nat.zero_add]
    have hw := wr_at hg (j := z) (by rw [metC_len]; exact hlt) (x := .bool true) rfl
    rw [metC_set hlt, List.append_assoc, ← hc] at hw
    simp only [t4, t7, w1, hia, hw, RW, RX, VOp.fresh, bxC, bsC, un, most, callsOf, seval, Int.reducePow, ↓reduceIte, Nat.reduceEqDiff, reduceCtorEq]
    refine ih (j + 1) _ _ zs em (vm + 1) k Q (by omega) (by rw [put_next]; exact hK) (by rw [Heap.get_put, if_pos rfl]) (by rw [Heap.get_put, if_neg (Ne.symm hne)]; exact hgb) ?_ ?_ ?_ ?_ ?_ hQ
    · simp only [t1, sg_set, Nat.reduceEqDiff, ↓reduceIte]
    · simp only [t4, sg_set, Nat.reduceEqDiff, ↓reduceIte]
    · simp only [t5, sg_set, Nat.reduceEqDiff, ↓reduceIte]
    · simp only [t6, sg_set, Nat.reduceEqDiff, ↓reduceIte]
    · simp only [sg_set, Nat.reduceEqDiff, ↓reduceIte]
theorem dof_grid (g : Pg P tab) {a b c d : Int} (ok : bxOk a b c d) {bb e0 v0 mb a0 b0 m N K : Nat} (hne : mb ≠ bb) (ha0 : a0 = (a / 67108864).toNat) (hb0 : b0 = (b / 67108864).toNat) (hm : b0 + m = (d / 67108864).toNat + 1) (hN : a0 + N = (c / 67108864).toNat + 1) (n : Nat) :
    ∀ (i : Nat) (s : T AV) (h : Heap) (em vm : Nat) (k : List Fr) (Q : Ex → T AV → Heap → Prop), i + n = N → K ≤ h.next → h.get mb = some (.cells (metC (gridC a0 b0 m i)) em vm) → h.get bb = some (.cells [.int .i64 a, .int .i64 b, .int .i64 c, .int .i64 d] e0 v0) →
      sg s 1 = .ptr bb 0 → sg s 4 = .ptr mb 0 → sg s 5 = .int .i64 67108864 → sg s 6 = .int .i64 ((a0 + i : Nat) : Int) →
      (∀ s' h' vm', K ≤ h'.next → h'.get mb = some (.cells (metC (gridC a0 b0 m N)) em vm') → sg s' 4 = .ptr mb 0 → Un P k Q (.exit 0) s' h') → Lp P b54_1 s h (Un P k Q) := by
  obtain ⟨o1, o2, o3, o4, o5, o6, o7, o8, o9, o10⟩ := id ok
  have q1 : IntKind.i64.wrap (c.tdiv 67108864) = c / 67108864 := by rw [Int.tdiv_eq_ediv_of_nonneg o5]; exact w64 (by omega) (by omega)
  have q3 : IntKind.i64.wrap (b.tdiv 67108864) = b / 67108864 := by rw [Int.tdiv_eq_ediv_of_nonneg o3]; exact w64 (by omega) (by omega)
  have q2 := fun a : Int => bin_quo (k := .i64) (a := a) (b := 67108864) (by decide)
  induction n with
  | zero =>
    intro i s h em vm k Q hn hK hg hgb t1 t4 t5 t6 hQ
    obtain rfl : i = N := by omega
    refine g.lpe b54_1.eq_1 ?_
    have c1 : ¬ ((a0 + i : Nat) : Int) ≤ c / 67108864 := by omega
    simp only [t1, t5, t6, hgb, q1, q2, c1, RX, VOp.fresh, bxC, bsC, un, most, callsOf, seval, Int.reducePow, ↓reduceIte, Nat.reduceEqDiff, reduceCtorEq]
    refine hQ _ _ _ hK hg ?_
    simp only [t4, sg_set, Nat.reduceEqDiff, ↓reduceIte]
  | succ n ih =>
    intro i s h em vm k Q hn hK hg hgb t1 t4 t5 t6 hQ
    refine g.lpe b54_1.eq_1 ?_
    have c1 : ((a0 + i : Nat) : Int) ≤ c / 67108864 := by omega
    have w1 : IntKind.i64.wrap (((a0 + i : Nat) : Int) + 1) = ((a0 + (i + 1) : Nat) : Int) := by rw [w64 (by omega) (by omega)]; push_cast; omega
    simp only [t1, t5, t6, hgb, q1, q2, q3, c1, RX, VOp.fresh, bxC, bsC, un, most, callsOf, seval, Int.reducePow, ↓reduceIte, Nat.reduceEqDiff, reduceCtorEq]
    refine dof_col g ok (bb := bb) (e0 := e0) (v0 := v0) (mb := mb) (x := a0 + i) hne hb0 hm (by omega) m 0 _ h (gridC a0 b0 m i) em vm _ _ (by omega) hK (by simpa [colC] using hg) hgb ?_ ?_ ?_ ?_ ?_ ?_
    · simp only [t1, sg_set, Nat.reduceEqDiff, ↓reduceIte]
    · simp only [t4, sg_set, Nat.reduceEqDiff, ↓reduceIte]
    · simp only [t5, sg_set, Nat.reduceEqDiff, ↓reduceIte]
    · simp only [t6, sg_set, Nat.reduceEqDiff, ↓reduceIte]
    · simp only [sg_set, Nat.reduceEqDiff, ↓reduceIte]
      rw [hb0, Nat.add_zero]
      congr 1; omega
    · intro s' h' vm' hK' hg' hgb' t1' t4' t5' t6'
      simp only [t6', w1, RX, VOp.fresh, bxC, bsC, un, most, callsOf, seval, Int.reducePow, ↓reduceIte, Nat.reduceEqDiff, reduceCtorEq]
      refine ih (i + 1) _ h' em vm' k Q (by omega) hK' (by rw [gridC_succ]; exact hg') hgb' ?_ ?_ ?_ ?_ hQ
      · simp only [t1', sg_set, Nat.reduceEqDiff, ↓reduceIte]
      · simp only [t4', sg_set, Nat.reduceEqDiff, ↓reduceIte]
      · simp only [t5', sg_set, Nat.reduceEqDiff, ↓reduceIte]
      · simp only [sg_set, Nat.reduceEqDiff, ↓reduceIte]
/-- the cells that are met, as far as a place -/
def metL (zs : List Int) (i : Nat) : List Int := ((List.range i).map fun j => ((j : Nat) : Int)).filter fun c => decide (c ∈ zs)
theorem metL_succ (zs : List Int) (i : Nat) : metL zs (i + 1) = if (i : Int) ∈ zs then metL zs i ++ [(i : Int)] else metL zs i := by
  unfold metL
  rw [List.range_succ, List.map_append, List.filter_append]
  by_cases h : (i : Int) ∈ zs
  · rw [if_pos h]; simp [h]
  · rw [if_neg h]; simp [h]
theorem metL_mem {zs : List Int} {i : Nat} {c : Int} : c ∈ metL zs i ↔ c ∈ zs ∧ 0 ≤ c ∧ c < i := by
  unfold metL
  rw [List.mem_filter, List.mem_map]
  constructor
  · rintro ⟨⟨j, hj, rfl⟩, h⟩
    have := List.mem_range.1 hj
    exact ⟨by simpa using h, by omega, by omega⟩
  · rintro ⟨h1, h2, h3⟩
    exact ⟨⟨c.toNat, List.mem_range.2 (by omega), by omega⟩, by simpa using h1⟩
theorem metL_inc (zs : List Int) (i : Nat) : (metL zs i).Pairwise (· < ·) := by
  unfold metL
  refine List.Pairwise.filter _ ?_
  rw [List.pairwise_map]
  exact List.pairwise_lt_range.imp fun h => by omega
theorem metL_len (zs : List Int) (i : Nat) : (metL zs i).length ≤ i := by
  unfold metL
  have := List.length_filter_le (fun c => decide (c ∈ zs)) ((List.range i).map fun j => ((j : Nat) : Int))
  simpa using this
theorem addR_last : ∀ (l : Rgs) (r : Int × Int), ∃ m x, addR l r = m ++ [(x, r.2)]
  | [], r => ⟨[], r.1, rfl⟩
  | [q], r => by
    unfold addR
    split
    · exact ⟨[], q.1, rfl⟩
    · exact ⟨[q], r.1, rfl⟩
  | q :: q' :: t, r => by
    obtain ⟨m, x, e⟩ := addR_last (q' :: t) r
    exact ⟨q :: m, x, by rw [addR, e]; rfl⟩
/-- where the last stretch ends -/
theorem covM_end (zs : List Int) : ∀ i : Nat, covM (metL zs i) = [] ∨ ∃ (m : Rgs) (x c : Int), covM (metL zs i) = m ++ [(x, (c + 1) * 1048576)] ∧ 0 ≤ c ∧ c < i ∧ (c + 1 = i ↔ (c ∈ zs ∧ c + 1 = i)) ∧ (((i : Int) - 1) ∈ zs → c + 1 = i)
  | 0 => .inl rfl
  | i + 1 => by
    rw [metL_succ]
    by_cases h : (i : Int) ∈ zs
    · rw [if_pos h, covM_snoc]
      obtain ⟨m, x, e⟩ := addR_last (covM (metL zs i)) ((i : Int) * 1048576, ((i : Int) + 1) * 1048576)
      exact .inr ⟨m, x, i, e, by omega, by omega, ⟨fun e => ⟨h, e⟩, fun e => e.2⟩, fun _ => by omega⟩
    · rw [if_neg h]
      rcases covM_end zs i with e | ⟨m, x, c, e, h0, h1, h2, h3⟩
      · exact .inl e
      · exact .inr ⟨m, x, c, e, h0, by omega, ⟨fun q => by omega, fun q => q.2⟩, fun q => absurd q (by rw [show ((i + 1 : Nat) : Int) - 1 = (i : Int) by omega]; exact h)⟩
theorem covM_nil_met {zs : List Int} {i : Nat} (h : covM (metL zs i) = []) : metL zs i = [] := by
  rcases List.eq_nil_or_concat (metL zs i) with e | ⟨m, q, e⟩
  · exact e
  · exfalso
    rw [e, List.concat_eq_append, covM_snoc] at h
    obtain ⟨m', x, e'⟩ := addR_last (covM m) (q * 1048576, (q + 1) * 1048576)
    rw [e'] at h
    simp at h
theorem cov_inc {q L : List Int} (hq : q.Pairwise (· < ·)) (hb : ∀ c ∈ q, 0 ≤ c ∧ c < 4096) (hL : ∀ c, c ∈ L ↔ c ∈ q) : Sep (-1) (covM q) ∧ ∀ d, rHas (covM q) d ↔ inCells L d := by
  obtain ⟨e, u, he⟩ := cov_fold q (out := []) (a := 0) (L := L) (by simpa using Upto.nil) (by omega) hb (fun c _ => hL c) hq
  refine ⟨u.1, fun d => ?_⟩
  have h3 := u.2.2 d
  unfold covM
  rw [h3]
  constructor
  · exact fun ⟨_, _, h⟩ => h
  · intro hd
    have h4 := hb _ ((hL _).1 hd)
    refine ⟨by omega, ?_, hd⟩
    rcases Int.lt_or_le d e with c | c
    · exact c
    · exact absurd hd (he d c)
theorem cov_met {a b c d : Int} (ok : bxOk a b c d) {N : Nat} (hN : N = 4096) : covM (metL (bxL a b c d) N) = bxCov a b c d := by
  obtain ⟨h1, h2⟩ := bxCov_of ok
  obtain ⟨h3, h4⟩ := cov_inc (L := bxL a b c d) (metL_inc (bxL a b c d) N) (fun c hc => by have := metL_mem.1 hc; omega) fun c => by
    rw [metL_mem]
    exact ⟨fun h => ⟨h, by have := grid_lt h; omega⟩, fun h => h.1⟩
  exact h3.uniq h1 fun d => by rw [h4, h2]
end
end Go.Proofs.Ythmkenkjfmbkiaa.VM
namespace Go.Proofs.Ythmkenkjfmbkiaa.VM
open Go.Proofs.Ythmkenkjfmbkiaa.Hil
attribute [local irreducible] Af Nx EvO Ev Un Gd Cd EvR EvQ EvC Nc Gc Lp EvM NxM AfM GdM EvMR EvMQ EvMD EvMC Nm Gm
section
variable {P : Program}
theorem dof_out (g : Pg P tab) {zs : List Int} {mb em vm N0 : Nat} (hmb : mb < N0) (n : Nat) :
    ∀ (i : Nat) (s : T AV) (h : Heap) (k : List Fr) (Q : Ex → T AV → Heap → Prop), i + n = 4096 → h.get mb = some (.cells (metC zs) em vm) → Row h (sg s 10) 2 (rcells (covM (metL zs i))) (covM (metL zs i)).length → (∀ q ∈ blkOf (sg s 10), N0 ≤ q) → N0 ≤ h.next →
      sg s 4 = .ptr mb 0 → sg s 11 = .int .i64 1048576 → sg s 12 = .int .i64 i →
      (∀ s' h', Row h' (sg s' 10) 2 (rcells (covM (metL zs (i + n)))) (covM (metL zs (i + n))).length → Un P k Q (.exit 4) s' h') → Lp P b54_2 s h (Un P k Q) := by
  induction n with
  | zero =>
    intro i s h k Q hn hg r hq hN t4 t11 t12 hQ
    refine g.lpe b54_2.eq_1 ?_
    have c1 : ¬ (i : Int) < 4096 := by omega
    simp only [t12, c1, RX, VOp.fresh, bxC, bsC, un, most, callsOf, seval, Int.reducePow, ↓reduceIte, Nat.reduceEqDiff, reduceCtorEq]
    refine hQ _ _ ?_
    simp only [sg_set, Nat.reduceEqDiff, ↓reduceIte]
    exact r
  | succ n ih =>
    intro i s h k Q hn hg r hq hN t4 t11 t12 hQ
    refine g.lpe b54_2.eq_1 ?_
    have c1 : (i : Int) < 4096 := by omega
    have w1 : IntKind.i64.wrap ((i : Int) + 1) = ((i + 1 : Nat) : Int) := by rw [w64 (by omega) (by omega)]; push_cast; rfl
    have hia : ∀ hh : Heap, iaV hh 1 (some 4096) (.ptr mb 0) (.int .i64 (i : Int)) = .val (.ptr mb i) hh := fun hh => by
      simp only [iaV]
      rw [if_pos ⟨by omega, by omega⟩, Int.toNat_natCast, Nat.mul_one, Nat.zero_add]
    have hp := metC_at (zs := zs) (d := i) (by omega)
    have hms := metL_succ zs i
    rw [show i + (n + 1) = (i + 1) + n by omega] at hQ
    by_cases hm : (i : Int) ∈ zs
    · rw [if_pos hm] at hms
      have s1 : IntKind.i64.wrap ((i : Int) * 1048576) = (i : Int) * 1048576 := w64 (by omega) (by omega)
      have s2 : IntKind.i64.wrap (((i + 1 : Nat) : Int) * 1048576) = ((i : Int) + 1) * 1048576 := by rw [w64 (by omega) (by omega)]; push_cast; rfl
      have hcl := covM_len (metL zs i)
      have hml := metL_len zs i
      have hlen := r.len
      have hlt := r.lt
      have hend := covM_end zs i
      have hnm := covM_nil_met (zs := zs) (i := i)
      have hsn := covM_snoc (metL zs i) (i : Int)
      rw [← hms] at hsn
      have ihx := fun s h => ih (i + 1) s h k Q (by omega)
      rw [hsn] at ihx
      generalize covM (metL zs i) = out at *
      -- one more behind
      have x2 := Ext.mk (h := h) (.cells [.int .i64 ((i : Int) * 1048576), .int .i64 (((i : Int) + 1) * 1048576)] 104 0)
      have n3 : (h.mk' h.next (.cells [.int .i64 ((i : Int) * 1048576), .int .i64 (((i : Int) + 1) * 1048576)] 104 0)).next = h.next + 1 := by rw [mk_next]; omega
      obtain ⟨h3, e3, r3, n4, k3⟩ := (r.ext x2).push (nb := h.next) (eb := 104) (vb := 0) (c := rcell ((i : Int) * 1048576, ((i : Int) + 1) * 1048576)) (by rw [Heap.get_mk, if_pos rfl]; rfl) rfl rfl (bytes := 16) (by unfold most2; omega) 104
      rw [← rcells_snoc] at r3
      rw [n3] at e3 r3 n4 k3
      have g3 : h3.get mb = some (.cells (metC zs) em vm) := by rw [k3 mb (fun hc => by have := hq mb hc; omega) (by omega), x2.2 mb (by omega)]; exact hg
      have behind : addR out ((i : Int) * 1048576, ((i : Int) + 1) * 1048576) = out ++ [((i : Int) * 1048576, ((i : Int) + 1) * 1048576)] → ∀ s', sg s' 10 = .sl (h.next + 1) 0 (out.length + 1) (out.length + 1) 2 → sg s' 4 = .ptr mb 0 → sg s' 11 = .int .i64 1048576 → sg s' 12 = .int .i64 ((i + 1 : Nat) : Int) → Lp P b54_2 s' h3 (Un P k Q) := fun e s' a10 a4 a11 a12 => by
        refine ihx s' h3 g3 ?_ ?_ (by omega) a4 a11 a12 hQ
        · rw [a10, e, List.length_append]; exact r3
        · rw [a10]; intro q hq; simp only [blkOf, List.mem_singleton] at hq; omega
      by_cases i0 : i = 0
      · have c2 : ¬ (0 : Int) < (i : Int) := by omega
        have e0 : out = [] := by
          rcases hend with e | ⟨m, x, c, e, h0, h1, _⟩
          · exact e
          · omega
        simp only [t4, t11, t12, c1, c2, w1, hia, hg, hp, hm, s1, s2, n3, e3, RX, VOp.fresh, bxC, bsC, un, most, callsOf, seval, Int.reducePow, ↓reduceIte, Nat.reduceEqDiff, reduceCtorEq]
        refine behind (by rw [e0]; rfl) _ ?_ ?_ ?_ ?_
        · simp only [sg_set, Nat.reduceEqDiff, ↓reduceIte]
        · simp only [t4, sg_set, Nat.reduceEqDiff, ↓reduceIte]
        · simp only [t11, sg_set, Nat.reduceEqDiff, ↓reduceIte]
        · simp only [sg_set, Nat.reduceEqDiff, ↓reduceIte]
      · have c2 : (0 : Int) < (i : Int) := by omega
        have w2 : IntKind.i64.wrap ((i : Int) - 1) = ((i - 1 : Nat) : Int) := by rw [w64 (by omega) (by omega)]; omega
        have hia2 : ∀ hh : Heap, iaV hh 1 (some 4096) (.ptr mb 0) (.int .i64 ((i - 1 : Nat) : Int)) = .val (.ptr mb (i - 1)) hh := fun hh => by
          simp only [iaV]
          rw [if_pos ⟨by omega, by omega⟩, Int.toNat_natCast, Nat.mul_one, Nat.zero_add]
        have hp2 := metC_at (zs := zs) (d := i - 1) (by omega)
        by_cases hm2 : ((i - 1 : Nat) : Int) ∈ zs
        · rcases hend with e | ⟨m, x, c, e, h0, h1, h2, h4⟩
          · exfalso
            have := hnm e
            have h5 : ((i - 1 : Nat) : Int) ∈ metL zs i := metL_mem.2 ⟨hm2, by omega, by omega⟩
            rw [this] at h5
            simp at h5
          · have hc := h4 (by rw [show (i : Int) - 1 = ((i - 1 : Nat) : Int) by omega]; exact hm2)
            subst e
            have c0 : (((m ++ [(x, (c + 1) * 1048576)]).length : Nat) : Int) ≤ 4096 := by omega
            have w3 : IntKind.i64.wrap ((((m ++ [(x, (c + 1) * 1048576)]).length : Nat) : Int) - 1) = (m.length : Int) := by rw [List.length_append, List.length_singleton] at *; rw [w64 (by omega) (by omega)]; omega
            obtain ⟨bb, eb, vb, hv8, hgr, hbn, hiar⟩ := r.at (i := m.length) (by simp)
            have hw := wr_at hgr (j := m.length * 2 + 1) (by rw [rcells_len, List.length_append, List.length_singleton]; omega) (x := .int .i64 (((i : Int) + 1) * 1048576)) rfl
            rw [rcells_set] at hw
            have hbq := hq bb (by rw [hv8]; simp [blkOf])
            simp only [t4, t11, t12, c1, c2, w1, w2, w3, hia, hia2, hg, hp, hp2, hm, hm2, s2, hlen, hiar, hw, RW, RX, VOp.fresh, bxC, bsC, un, most, callsOf, seval, Int.reducePow, ↓reduceIte, Nat.reduceEqDiff, reduceCtorEq]
            refine ihx _ _ ?_ ?_ ?_ ?_ ?_ ?_ ?_ hQ
            · rw [Heap.get_put, if_neg (by omega)]; exact hg
            · simp only [sg_set, Nat.reduceEqDiff, ↓reduceIte]
              rw [addR_snoc, if_pos (show (c + 1) * 1048576 = (i : Int) * 1048576 by rw [hc])]
              refine .inr ⟨bb, eb, vb + 1, ?_, by simp, by rw [put_next]; omega, by rw [rcells_len], by rw [Heap.get_put, if_pos rfl]⟩
              rw [hv8]; simp
            · simp only [sg_set, Nat.reduceEqDiff, ↓reduceIte]
              exact hq
            · rw [put_next]; exact hN
            · simp only [t4, sg_set, Nat.reduceEqDiff, ↓reduceIte]
            · simp only [t11, sg_set, Nat.reduceEqDiff, ↓reduceIte]
            · simp only [sg_set, Nat.reduceEqDiff, ↓reduceIte]
        · simp only [t4, t11, t12, c1, c2, w1, w2, hia, hia2, hg, hp, hp2, hm, hm2, s1, s2, n3, e3, RX, VOp.fresh, bxC, bsC, un, most, callsOf, seval, Int.reducePow, ↓reduceIte, Nat.reduceEqDiff, reduceCtorEq]
          refine behind ?_ _ ?_ ?_ ?_ ?_
          · rcases hend with e | ⟨m, x, c, e, h0, h1, h2, h4⟩
            · rw [e]; rfl
            · rw [e, addR_snoc, if_neg]
              intro q
              have q : (c + 1) * 1048576 = (i : Int) * 1048576 := q
              have := (h2.1 (by omega)).1
              exact hm2 (by rw [show ((i - 1 : Nat) : Int) = c by omega]; exact this)
          · simp only [sg_set, Nat.reduceEqDiff, ↓reduceIte]
          · simp only [t4, sg_set, Nat.reduceEqDiff, ↓reduceIte]
          · simp only [t11, sg_set, Nat.reduceEqDiff, ↓reduceIte]
          · simp only [sg_set, Nat.reduceEqDiff, ↓reduceIte]
    · rw [if_neg hm] at hms
      simp only [t4, t12, c1, w1, hia, hg, hp, hm, RX, VOp.fresh, bxC, bsC, un, most, callsOf, seval, Int.reducePow, ↓reduceIte, Nat.reduceEqDiff, reduceCtorEq]
      refine ih (i + 1) _ h k Q (by omega) hg ?_ ?_ hN ?_ ?_ ?_ hQ
      · simp only [sg_set, Nat.reduceEqDiff, ↓reduceIte]
        rw [hms]; exact r
      · simp only [sg_set, Nat.reduceEqDiff, ↓reduceIte]
        exact hq
      · simp only [t4, sg_set, Nat.reduceEqDiff, ↓reduceIte]
      · simp only [t11, sg_set, Nat.reduceEqDiff, ↓reduceIte]
      · simp only [sg_set, Nat.reduceEqDiff, ↓reduceIte]
theorem dof_pu (g : Pg P tab) (a b c d : Int) : Pu P 54 [.agg [.int .i64 a, .int .i64 b, .int .i64 c, .int .i64 d]] (fun v => (¬ bxOk a b c d ∧ v = .tup [.nils, .int .i64 600]) ∨ (bxOk a b c d ∧ v = .tup [tRgs (bxCov a b c d), .int .i64 0])) := by
  refine g.pu (vf := v54) rfl rfl ?_
  have e0 : v54.body = .seq (blk 0 v54.body) (.seq (blk 1 v54.body) (.seq (blk 2 v54.body) (rst 3 v54.body))) := rfl
  rw [e0]
  generalize hR : rst 3 v54.body = R
  simp only [v54, blk, RW, RX, VOp.fresh, bxC, bsC, un, most, callsOf, seval, Int.reducePow, ↓reduceIte, Nat.reduceEqDiff, reduceCtorEq, -List.reduceReplicate]
  refine (dboxMay_pu g a b c d).go rfl ?_
  rintro _ rfl
  by_cases ok : bxOk a b c d
  · obtain ⟨o1, o2, o3, o4, o5, o6, o7, o8, o9, o10⟩ := id ok
    have q1 : IntKind.i64.wrap (a.tdiv 67108864) = a / 67108864 := by rw [Int.tdiv_eq_ediv_of_nonneg o1]; exact w64 (by omega) (by omega)
    have q2 := fun a : Int => bin_quo (k := .i64) (a := a) (b := 67108864) (by decide)
    rw [← metC_nil]
    generalize hz : metC [] = mz
    simp only [ok, RW, RX, VOp.fresh, bxC, bsC, un, most, callsOf, seval, Int.reducePow, ↓reduceIte, Nat.reduceEqDiff, reduceCtorEq, -List.reduceReplicate]
    subst hR
    simp only [v54, rst, q1, q2, RW, RX, VOp.fresh, bxC, bsC, un, most, callsOf, seval, Int.reducePow, ↓reduceIte, Nat.reduceEqDiff, reduceCtorEq, -List.reduceReplicate]
    obtain ⟨N, hN⟩ : ∃ N, (a / 67108864).toNat + N = (c / 67108864).toNat + 1 := ⟨(c / 67108864).toNat + 1 - (a / 67108864).toNat, by omega⟩
    obtain ⟨m, hm⟩ : ∃ m, (b / 67108864).toNat + m = (d / 67108864).toNat + 1 := ⟨(d / 67108864).toNat + 1 - (b / 67108864).toNat, by omega⟩
    refine dof_grid g ok (bb := 0) (e0 := 96) (v0 := 0) (mb := 1) (m := m) (N := N) (K := 2) (by decide) rfl rfl hm hN N 0 _ _ 129 0 _ _ (by omega) (by rw [mk_next, mk_next]; omega) ?_ ?_ ?_ ?_ ?_ ?_ fun s' h' vm' hK hg t4 => ?_
    · rw [Heap.get_mk, if_pos rfl, ← hz]; rfl
    · rw [Heap.get_mk, if_neg (by decide), Heap.get_mk, if_pos rfl]
    · simp only [sg_set, Nat.reduceEqDiff, ↓reduceIte]
    · simp only [sg_set, Nat.reduceEqDiff, ↓reduceIte]
    · simp only [sg_set, Nat.reduceEqDiff, ↓reduceIte]
    · simp only [sg_set, Nat.reduceEqDiff, ↓reduceIte]
      refine congrArg (AV.int .i64) ?_
      omega
    · have eL : gridC (a / 67108864).toNat (b / 67108864).toNat m N = bxL a b c d := by
        unfold bxL
        rw [show (d / 67108864).toNat - (b / 67108864).toNat + 1 = m by omega, show (c / 67108864).toNat - (a / 67108864).toNat + 1 = N by omega]
      rw [eL] at hg
      simp only [RX, VOp.fresh, bxC, bsC, un, most, callsOf, seval, Int.reducePow, ↓reduceIte, Nat.reduceEqDiff, reduceCtorEq]
      obtain ⟨M, hM⟩ : ∃ M : Nat, M = 4096 := ⟨_, rfl⟩
      refine dof_out g (zs := bxL a b c d) (mb := 1) (em := 129) (vm := vm') (N0 := 2) (by decide) M 0 _ h' _ _ (by omega) hg ?_ ?_ ?_ ?_ ?_ ?_ fun s2 h2 r2 => ?_
      · simp only [sg_set, Nat.reduceEqDiff, ↓reduceIte]
        exact .nil _ _
      · simp only [sg_set, Nat.reduceEqDiff, ↓reduceIte]
        intro q hq; simp [blkOf] at hq
      · exact hK
      · simp only [t4, sg_set, Nat.reduceEqDiff, ↓reduceIte]
      · simp only [sg_set, Nat.reduceEqDiff, ↓reduceIte]
      · simp only [sg_set, Nat.reduceEqDiff, ↓reduceIte]
        rfl
      · simp only [RX, VOp.fresh, bxC, bsC, un, most, callsOf, seval, Int.reducePow, ↓reduceIte, Nat.reduceEqDiff, reduceCtorEq]
        rw [Nat.zero_add, cov_met ok hM] at r2
        exact ⟨_, r2.tup, .inr rfl⟩
  · simp only [ok, RW, RX, VOp.fresh, bxC, bsC, un, most, callsOf, seval, Int.reducePow, ↓reduceIte, Nat.reduceEqDiff, reduceCtorEq, -List.reduceReplicate]
    exact ⟨_, .tup (.cons .nils (.cons (.int _ _) .nil)), .inl rfl⟩
end
end Go.Proofs.Ythmkenkjfmbkiaa.VM
namespace Go.Proofs.Ythmkenkjfmbkiaa.VM
attribute [local irreducible] Af Nx EvO Ev Un Gd Cd EvR EvQ EvC Nc Gc Lp EvM NxM AfM GdM EvMR EvMQ EvMD EvMC Nm Gm
section
variable {P : Program}
def aPt (p : Pt) : AV := .agg [.int .i64 p.x, .int .i64 p.y]
end
end Go.Proofs.Ythmkenkjfmbkiaa.VM
namespace Go.Proofs.Ythmkenkjfmbkiaa.VM
attribute [local irreducible] Af Nx EvO Ev Un Gd Cd EvR EvQ EvC Nc Gc Lp EvM NxM AfM GdM EvMR EvMQ EvMD EvMC Nm Gm
def aBx (b : Bx) : AV := .agg [.int .i64 b.x0, .int .i64 b.y0, .int .i64 b.x1, .int .i64 b.y1]
def imn (x y : Int) : Int := if y < x then y else x
def imx (x y : Int) : Int := if y > x then y else x
def bxPt (p : Pt) : Bx := ⟨p.x, p.y, p.x, p.y⟩
def bxJ (a b : Bx) : Bx := ⟨imn a.x0 b.x0, imn a.y0 b.y0, imx a.x1 b.x1, imx a.y1 b.y1⟩
def bxAll (l : List Pt) (b : Bx) : Bx := l.foldl (fun b p => bxJ b (bxPt p)) b
def fPts (f : Feat) : List Pt := f.rings.flatten
def fBox (f : Feat) : Bx := bxAll (fPts f) (bxPt ((f.rings.getD 0 []).getD 0 ⟨0, 0⟩))
def bOk (b : Bx) : Prop := bxOk b.x0 b.y0 b.x1 b.y1
instance (b : Bx) : Decidable (bOk b) := by unfold bOk; infer_instance
theorem imn_le (x y : Int) : imn x y ≤ x ∧ imn x y ≤ y ∧ (imn x y = x ∨ imn x y = y) := by unfold imn; split <;> omega
theorem imx_le (x y : Int) : x ≤ imx x y ∧ y ≤ imx x y ∧ (imx x y = x ∨ imx x y = y) := by unfold imx; split <;> omega
theorem bxJ_ok {a b : Bx} (h : bOk a) (k : bOk b) : bOk (bxJ a b) := by
  unfold bOk bxOk at *
  have h1 := imn_le a.x0 b.x0
  have h2 := imn_le a.y0 b.y0
  have h3 := imx_le a.x1 b.x1
  have h4 := imx_le a.y1 b.y1
  simp only [bxJ]
  omega
theorem bxPt_ok {p : Pt} (h : ptOk p) : bOk (bxPt p) := by
  unfold bOk bxOk bxPt
  unfold ptOk coordOk at h
  simp only
  omega
theorem featOk.first {f : Feat} (h : featOk f) : 0 < f.rings.length ∧ 0 < (f.rings.getD 0 []).length := by
  obtain ⟨_, _, h1, _, h2⟩ := h
  refine ⟨by omega, ?_⟩
  rcases h2 with ⟨_, _, h3, _⟩ | ⟨_, _, h3⟩ | ⟨_, h3⟩
  · omega
  · have := h3.1; omega
  · have := (h3 0 (by omega)).1; omega
theorem featOk.pts {f : Feat} (h : featOk f) : ∀ p ∈ fPts f, ptOk p := by
  intro p hp
  obtain ⟨_, _, h1, _, h2⟩ := h
  obtain ⟨r, hr, hp⟩ := List.mem_flatten.1 hp
  obtain ⟨i, hi, rfl⟩ := List.getElem_of_mem hr
  obtain ⟨j, hj, rfl⟩ := List.getElem_of_mem hp
  have e : f.rings.getD i [] = f.rings[i] := getD_ring hi
  rcases h2 with ⟨_, h3, h4, h5⟩ | ⟨_, h3, h4⟩ | ⟨_, h3⟩
  · obtain rfl : i = 0 := by omega
    rw [e] at h4 h5
    obtain rfl : j = 0 := by omega
    rwa [getP hj] at h5
  · obtain rfl : i = 0 := by omega
    rw [e] at h4
    have := (h4.2.2 j hj).1
    rwa [getP hj] at this
  · have h4 := h3 i hi
    rw [e] at h4
    have := (h4.2.2 j hj).1
    rwa [getP hj] at this
theorem fmin {k : IntKind} {x y : Int} : foldO min2 (.int k x) [.int k y] = some (.int k (imn x y)) := rfl
theorem fmax {k : IntKind} {x y : Int} : foldO max2 (.int k x) [.int k y] = some (.int k (imx x y)) := rfl
section
variable {P : Program}
theorem bxAll_ok : ∀ {l : List Pt} {b : Bx}, (∀ p ∈ l, ptOk p) → bOk b → bOk (bxAll l b)
  | [], _, _, h => h
  | p :: l, b, hl, h => bxAll_ok (l := l) (fun q hq => hl q (.tail _ hq)) (bxJ_ok h (bxPt_ok (hl p (.head _))))
theorem bxAll_snoc (l : List Pt) (p : Pt) (b : Bx) : bxAll (l ++ [p]) b = bxJ (bxAll l b) (bxPt p) := by simp [bxAll]
end
end Go.Proofs.Ythmkenkjfmbkiaa.VM
namespace Go.Proofs.Ythmkenkjfmbkiaa.VM
attribute [local irreducible] Af Nx EvO Ev Un Gd Cd EvR EvQ EvC Nc Gc Lp EvM NxM AfM GdM EvMR EvMQ EvMD EvMC Nm Gm
theorem take_snoc {s : List Int} {i : Nat} (h : i < s.length) : s.take (i + 1) = s.take i ++ [s.getD i 0] := by
  rw [List.take_succ_eq_append_getElem h]; simp [List.getD_eq_getElem?_getD, List.getElem?_eq_getElem h]
def kc (l : List Int) : List AV := l.map (.int .i64)
section
variable {P : Program}
theorem kc_len {l : List Int} : (kc l).length = l.length := by simp [kc]
/-- the row as it is told: what is kept, each once -/
def UpL (s W : List Int) : Prop := W.Pairwise (· < ·) ∧ ∀ x, x ∈ W ↔ x ∈ s
theorem pw_ge : ∀ {W : List Int} {a : Int}, W.Pairwise (· < ·) → (∀ x ∈ W, a ≤ x ∧ x < 8) → a ≤ 8 → (W.length : Int) ≤ 8 - a
  | [], a, _, _, h => by simp; omega
  | x :: W, a, hp, hb, h => by
    rw [List.pairwise_cons] at hp
    have h1 := hb x (.head _)
    have := pw_ge (a := x + 1) hp.2 (fun y hy => ⟨by have := hp.1 y hy; omega, (hb y (.tail _ hy)).2⟩) (by omega)
    simp only [List.length_cons]; omega
theorem kc_cat : ∀ {l : List Int}, (∀ x ∈ l, I64 x) → Cat RInt l (kc l)
  | [], _ => .nil
  | x :: l, h => .cons (c := [.int .i64 x]) ⟨rfl, h x (.head _)⟩ (kc_cat fun y hy => h y (.tail _ hy))
theorem up_is {s W : List Int} (u : UpL s W) (hs : ∀ x ∈ s, 0 ≤ x ∧ x < 8) : IsL 8 RInt (.rs (kc W) W.length) W := by
  have hb : ∀ x ∈ W, 0 ≤ x ∧ x < 8 := fun x hx => hs x ((u.2 x).1 hx)
  have hl := pw_ge u.1 hb (by decide)
  refine isL_rs (kc_cat fun x hx => ?_) ?_
  · have := hb x hx; constructor <;> omega
  · rw [show reachBytes = 140737488351232 from rfl]; omega
end
end Go.Proofs.Ythmkenkjfmbkiaa.VM
namespace Go.Proofs.Ythmkenkjfmbkiaa.VM
attribute [local irreducible] Af Nx EvO Ev Un Gd Cd EvR EvQ EvC Nc Gc Lp EvM NxM AfM GdM EvMR EvMQ EvMD EvMC Nm Gm
open Classical in
noncomputable def ixC (l : List Int) (d : Int) : Nat := if h : ∃ k, IxAt l d k then h.choose else 0
theorem ixC_ok {l : List Int} {d : Int} (h : ∃ k, IxAt l d k) : IxAt l d (ixC l d) := by unfold ixC; rw [dif_pos h]; exact h.choose_spec
theorem ix_mono {l : List Int} (hr : Rise l) {d d' : Int} {a b : Nat} (x : IxAt l d a) (y : IxAt l d' b) (h : d ≤ d') : a ≤ b := by
  rcases Nat.lt_or_ge b a with c | c
  · exfalso
    have h1 := x.1
    have h2 := y.2.2 (by omega)
    have h3 := x.2.1
    rcases Nat.lt_or_ge (b + 1) a with e | e
    · have := hr.lt e h1; omega
    · have : a = b + 1 := by omega
      subst this
      omega
  · exact c
theorem mpOk.ix {m : Mp} (ok : mpOk 8 m) {d : Int} (h : 0 ≤ d) : IxAt m.starts d (ixC m.starts d) := ixC_ok (ixAt_ex ok.rise (by have := ok.2.2.2.2.1; omega) (by rw [ok.2.2.2.2.2.2.2.1]; exact h))
noncomputable def ownP (m : Mp) (r : Int × Int) : List Int := (m.owners.drop (ixC m.starts r.1)).take (ixC m.starts (r.2 - 1) + 1 - ixC m.starts r.1)
noncomputable def ownsL (m : Mp) (l : Rgs) : List Int := (l.map (ownP m)).flatten
theorem ownsL_snoc (m : Mp) (l : Rgs) (r : Int × Int) : ownsL m (l ++ [r]) = ownsL m l ++ ownP m r := by simp [ownsL]
theorem ownP_len {m : Mp} (ok : mpOk 8 m) {r : Int × Int} (h0 : 0 ≤ r.1) (h1 : r.1 < r.2) : (ownP m r).length = ixC m.starts (r.2 - 1) + 1 - ixC m.starts r.1 ∧ ixC m.starts r.1 ≤ ixC m.starts (r.2 - 1) ∧ ixC m.starts (r.2 - 1) + 1 ≤ m.owners.length := by
  have x := ok.ix (d := r.1) h0
  have y := ok.ix (d := r.2 - 1) (by omega)
  have e := ok.2.2.2.2.2.2.1
  have hm := ix_mono ok.rise x y (by omega)
  refine ⟨?_, hm, by have := y.1; omega⟩
  unfold ownP
  rw [List.length_take, List.length_drop]
  have := y.1
  omega
theorem sep_at : ∀ {l : Rgs} {a : Int}, Sep a l → ∀ i, i < l.length → a < (l.getD i (0, 0)).1 ∧ (l.getD i (0, 0)).1 < (l.getD i (0, 0)).2 ∧ (l.getD i (0, 0)).2 ≤ 4294967296 ∧ (0 < i → (l.getD (i - 1) (0, 0)).2 < (l.getD i (0, 0)).1)
  | [], _, _, i, h => by simp at h
  | r :: t, a, s, 0, h => ⟨s.1, s.2.1, s.2.2.1, fun h => absurd h (Nat.lt_irrefl _)⟩
  | r :: t, a, s, i + 1, h => by
    have := sep_at s.2.2.2 i (by simpa using h)
    refine ⟨?_, this.2.1, this.2.2.1, fun _ => ?_⟩
    · have h1 := s.1; have h2 := s.2.1; have h3 := this.1
      show a < (t.getD i (0, 0)).1
      omega
    · cases i with
      | zero => exact this.1
      | succ i => exact this.2.2.2 (by omega)
theorem rtake_snoc {l : Rgs} {i : Nat} (h : i < l.length) : l.take (i + 1) = l.take i ++ [l.getD i (0, 0)] := by
  rw [List.take_succ_eq_append_getElem h]; simp [List.getD_eq_getElem?_getD, List.getElem?_eq_getElem h]
theorem owns_8 {m : Mp} (ok : mpOk 8 m) {l : Rgs} : ∀ x ∈ ownsL m l, 0 ≤ x ∧ x < 8 := by
  intro x hx
  obtain ⟨s, hs, hx⟩ := List.mem_flatten.1 hx
  obtain ⟨r, _, rfl⟩ := List.mem_map.1 hs
  have hx := List.mem_of_mem_drop (List.mem_of_mem_take hx)
  obtain ⟨j, hj, rfl⟩ := List.getElem_of_mem hx
  have := ok.2.2.2.2.2.2.2.2 j (by have := ok.2.2.2.2.2.2.1; omega)
  unfold mpAt at this
  have e : m.owners.getD j 0 = m.owners[j] := getN hj
  rw [e] at this
  exact this.2.2
section
variable {P : Program}
/-- what ranges' owners are: each once, rising -/
def OwnsR (m : Mp) (l : Rgs) (W : List Int) : Prop := UpL (ownsL m l) W
end
end Go.Proofs.Ythmkenkjfmbkiaa.VM
namespace Go.Proofs.Ythmkenkjfmbkiaa.VM
attribute [local irreducible] Af Nx EvO Ev Un Gd Cd EvR EvQ EvC Nc Gc Lp EvM NxM AfM GdM EvMR EvMQ EvMD EvMC Nm Gm
def met8 (zs : List Int) : List AV := (List.range 8).map fun i => .bool (decide (((i : Nat) : Int) ∈ zs))
theorem met8_len (zs : List Int) : (met8 zs).length = 8 := by simp [met8]
theorem met8_set {zs : List Int} {x : Int} (h0 : 0 ≤ x) (h1 : x < 8) : (met8 zs).set x.toNat (.bool true) = met8 (zs ++ [x]) := by
  apply List.ext_getElem
  · simp [met8]
  · intro i h1 h2
    rw [List.getElem_set]
    simp only [met8, List.getElem_map, List.getElem_range]
    by_cases e : x.toNat = i
    · have : ((i : Nat) : Int) = x := by omega
      rw [this]; simp [e]
    · rw [if_neg e]
      have : ((i : Nat) : Int) ∈ zs ++ [x] ↔ ((i : Nat) : Int) ∈ zs := by
        rw [List.mem_append, List.mem_singleton]
        constructor
        · rintro (h | h)
          · exact h
          · omega
        · exact .inl
      simp only [this]
theorem met8_at {zs : List Int} {d : Nat} (h : d < 8) : part false (met8 zs) d 1 = some (.bool (decide ((d : Int) ∈ zs))) := by
  have hl : d < (met8 zs).length := by rw [met8_len]; exact h
  rw [part_f (List.drop_eq_getElem_cons hl)]
  simp [met8]
section
variable {P : Program}
theorem rown_in (g : Pg P tab) {m : Mp} {v u : AV} (hv : IsL 8 RInt v m.starts) (hu : IsL 8 RInt u m.owners) (ok : mpOk 8 m) {l : Rgs} {w : AV} (hw : IsL 16 RRg w l) (hl : Sep (-1) l) {mb e2 v2 ab ea : Nat} (hne : ab ≠ mb) {i : Nat} (hi : i < l.length) {zs : List Int} (n : Nat) :
    ∀ (j ver : Nat) (t : T AV) (h : Heap) (k : List Fr) (Q : Ex → T AV → Heap → Prop), j + n = (ownP m (l.getD i (0, 0))).length → sg t 1 = w → sg t 2 = .ptr mb 0 → sg t 6 = .ptr ab 0 → sg t 7 = .int .i64 i → sg t 8 = .int .i64 ((ixC m.starts (l.getD i (0, 0)).1 + j : Nat) : Int) →
    h.get mb = some (.cells [.int .i64 m.epoch, v, u] e2 v2) → h.get ab = some (.cells (met8 (zs ++ (ownP m (l.getD i (0, 0))).take j)) ea ver) → ab < h.next →
    (∀ t' h' ver', ab < h'.next → sg t' 1 = w → sg t' 2 = .ptr mb 0 → sg t' 6 = .ptr ab 0 → sg t' 7 = .int .i64 i → h'.get mb = some (.cells [.int .i64 m.epoch, v, u] e2 v2) → h'.get ab = some (.cells (met8 (zs ++ ownP m (l.getD i (0, 0)))) ea ver') → Un P k Q (.exit 2) t' h') → Lp P b40_0 t h (Un P k Q) := by
  obtain ⟨a1, a2, a3, a4⟩ := sep_at hl i hi
  obtain ⟨p1, p2, p3⟩ := ownP_len ok (r := l.getD i (0, 0)) (by omega) a2
  have l32 : m.starts.length ≤ 32 := ok.2.2.2.2.2.1
  have e32 : m.owners.length = m.starts.length := ok.2.2.2.2.2.2.1
  have y := ok.ix (d := (l.getD i (0, 0)).2 - 1) (by omega)
  obtain ⟨r1, _, g1⟩ := atRg hw i hi
  have w2 : IntKind.i64.wrap ((l.getD i (0, 0)).2 - 1) = (l.getD i (0, 0)).2 - 1 := w64 (by omega) (by omega)
  have hat : ∀ x, x < (ownP m (l.getD i (0, 0))).length → (ownP m (l.getD i (0, 0))).getD x 0 = m.owners.getD (ixC m.starts (l.getD i (0, 0)).1 + x) 0 := fun x hx => by
    unfold ownP
    rw [p1] at hx
    rw [List.getD_eq_getElem?_getD, List.getElem?_take, if_pos hx, List.getElem?_drop, ← List.getD_eq_getElem?_getD]
  generalize hrg : l.getD i (0, 0) = rg at *
  have cond : ∀ (j : Nat) (t : T AV) (h : Heap) (k : List Fr) (Q : Ex → T AV → Heap → Prop), sg t 1 = w → sg t 2 = .ptr mb 0 → sg t 7 = .int .i64 i → True := fun _ _ _ _ _ _ _ _ => trivial
  induction n with
  | zero =>
    intro j ver t h k Q hn t1 t2 t6 t7 t8 hg ha hN hK
    refine g.lpe b40_0.eq_1 ?_
    simp only [t1, t2, t7, t8, hg, g1, w2, RW, RX, VOp.fresh, bxC, bsC, un, most, callsOf, seval, Int.reducePow, ↓reduceIte, Nat.reduceEqDiff, reduceCtorEq]
    refine (rat_pu g hv ok.rise l32 y).go (by simp [AV.tolds, AV.told, hv.told tInt, hu.told tInt]) ?_
    rintro _ rfl
    have c1 : ¬ (((ixC m.starts rg.1 + j : Nat) : Int) ≤ (ixC m.starts (rg.2 - 1) : Int)) := by omega
    simp only [t8, c1, RX, VOp.fresh, bxC, bsC, un, most, callsOf, seval, Int.reducePow, ↓reduceIte, Nat.reduceEqDiff, reduceCtorEq]
    rw [List.take_of_length_le (by omega)] at ha
    refine hK _ h ver hN ?_ ?_ ?_ ?_ hg ha
    · simp only [t1, sg_set, Nat.reduceEqDiff, ↓reduceIte]
    · simp only [t2, sg_set, Nat.reduceEqDiff, ↓reduceIte]
    · simp only [t6, sg_set, Nat.reduceEqDiff, ↓reduceIte]
    · simp only [t7, sg_set, Nat.reduceEqDiff, ↓reduceIte]
  | succ n ih =>
    intro j ver t h k Q hn t1 t2 t6 t7 t8 hg ha hN hK
    refine g.lpe b40_0.eq_1 ?_
    simp only [t1, t2, t7, t8, hg, g1, w2, RW, RX, VOp.fresh, bxC, bsC, un, most, callsOf, seval, Int.reducePow, ↓reduceIte, Nat.reduceEqDiff, reduceCtorEq]
    refine (rat_pu g hv ok.rise l32 y).go (by simp [AV.tolds, AV.told, hv.told tInt, hu.told tInt]) ?_
    rintro _ rfl
    have c1 : (((ixC m.starts rg.1 + j : Nat) : Int) ≤ (ixC m.starts (rg.2 - 1) : Int)) := by omega
    have w1 : IntKind.i64.wrap (((ixC m.starts rg.1 + j : Nat) : Int) + 1) = ((ixC m.starts rg.1 + (j + 1) : Nat) : Int) := by rw [w64 (by omega) (by omega)]; push_cast; omega
    obtain ⟨r2, _, g2⟩ := getInt hu (ixC m.starts rg.1 + j) (by omega)
    have hx8 := owns_8 (l := [rg]) ok (m.owners.getD (ixC m.starts rg.1 + j) 0) (by
      rw [← hat j (by omega)]
      have : ownsL m [rg] = ownP m rg := by simp [ownsL]
      rw [this, getN (show j < (ownP m rg).length by omega)]
      exact List.getElem_mem _)
    have hts : (ownP m rg).take (j + 1) = (ownP m rg).take j ++ [m.owners.getD (ixC m.starts rg.1 + j) 0] := by
      rw [take_snoc (by omega), hat j (by omega)]
    generalize hxe : m.owners.getD (ixC m.starts rg.1 + j) 0 = x at *
    have hia : ∀ hh : Heap, iaV hh 1 (some 8) (.ptr ab 0) (.int .i64 x) = .val (.ptr ab x.toNat) hh := fun hh => by
      simp only [iaV]
      rw [if_pos ⟨by omega, by omega⟩, Nat.mul_one, Nat.zero_add]
    have hwr := wr_at ha (j := x.toNat) (by rw [met8_len]; omega) (x := .bool true) rfl
    rw [met8_set hx8.1 hx8.2, List.append_assoc, ← hts] at hwr
    simp only [t2, t6, t8, c1, hg, g2, hia, hwr, w1, RW, RX, VOp.fresh, bxC, bsC, un, most, callsOf, seval, Int.reducePow, ↓reduceIte, Nat.reduceEqDiff, reduceCtorEq]
    refine ih (j + 1) (ver + 1) _ _ k Q (by omega) ?_ ?_ ?_ ?_ ?_ (by rw [Heap.get_put, if_neg (Ne.symm hne)]; exact hg) (by rw [Heap.get_put, if_pos rfl]) (by rw [put_next]; exact hN) hK
    · simp only [t1, sg_set, Nat.reduceEqDiff, ↓reduceIte]
    · simp only [t2, sg_set, Nat.reduceEqDiff, ↓reduceIte]
    · simp only [t6, sg_set, Nat.reduceEqDiff, ↓reduceIte]
    · simp only [t7, sg_set, Nat.reduceEqDiff, ↓reduceIte]
    · simp only [sg_set, Nat.reduceEqDiff, ↓reduceIte]
theorem rown_loop (g : Pg P tab) {m : Mp} {v u : AV} (hv : IsL 8 RInt v m.starts) (hu : IsL 8 RInt u m.owners) (ok : mpOk 8 m) {l : Rgs} {w : AV} (hw : IsL 16 RRg w l) (hl : Sep (-1) l) {mb e2 v2 ab ea : Nat} (hne : ab ≠ mb) (n : Nat) :
    ∀ (i ver : Nat) (t : T AV) (h : Heap) (k : List Fr) (Q : Ex → T AV → Heap → Prop), i + n = l.length → sg t 1 = w → sg t 2 = .ptr mb 0 → sg t 6 = .ptr ab 0 → sg t 7 = .int .i64 i →
    h.get mb = some (.cells [.int .i64 m.epoch, v, u] e2 v2) → h.get ab = some (.cells (met8 (ownsL m (l.take i))) ea ver) → ab < h.next →
    (∀ t' h' ver', ab < h'.next → sg t' 6 = .ptr ab 0 → h'.get ab = some (.cells (met8 (ownsL m l)) ea ver') → Un P k Q (.exit 0) t' h') → Lp P b40_1 t h (Un P k Q) := by
  have hbd := hw.bound (by decide)
  have l32 : m.starts.length ≤ 32 := ok.2.2.2.2.2.1
  induction n with
  | zero =>
    intro i ver t h k Q hn t1 t2 t6 t7 hg ha hN hK
    refine g.lpe b40_1.eq_1 ?_
    have c1 : ¬ ((i : Int) < (l.length : Int)) := by omega
    simp only [t1, t7, hw.len, c1, RX, VOp.fresh, bxC, bsC, un, most, callsOf, seval, Int.reducePow, ↓reduceIte, Nat.reduceEqDiff, reduceCtorEq]
    rw [List.take_of_length_le (by omega)] at ha
    refine hK _ h ver hN ?_ ha
    simp only [t6, sg_set, Nat.reduceEqDiff, ↓reduceIte]
  | succ n ih =>
    intro i ver t h k Q hn t1 t2 t6 t7 hg ha hN hK
    refine g.lpe b40_1.eq_1 ?_
    have c1 : ((i : Int) < (l.length : Int)) := by omega
    have w1 : IntKind.i64.wrap ((i : Int) + 1) = ((i + 1 : Nat) : Int) := by rw [w64 (by omega) (by omega)]; push_cast; rfl
    obtain ⟨a1, a2, a3, a4⟩ := sep_at hl i (by omega)
    obtain ⟨r1, _, g1⟩ := atRg hw i (by omega)
    simp only [t1, t2, t7, hg, hw.len, c1, g1, RW, RX, VOp.fresh, bxC, bsC, un, most, callsOf, seval, Int.reducePow, ↓reduceIte, Nat.reduceEqDiff, reduceCtorEq]
    refine (rat_pu g hv ok.rise l32 (ok.ix (d := (l.getD i (0, 0)).1) (by omega))).go (by simp [AV.tolds, AV.told, hv.told tInt, hu.told tInt]) ?_
    rintro _ rfl
    simp only [t7, RX, VOp.fresh, bxC, bsC, un, most, callsOf, seval, Int.reducePow, ↓reduceIte, Nat.reduceEqDiff, reduceCtorEq]
    refine rown_in g hv hu ok hw hl (mb := mb) (e2 := e2) (v2 := v2) (ab := ab) (ea := ea) hne (i := i) (by omega) (zs := ownsL m (l.take i)) (ownP m (l.getD i (0, 0))).length 0 ver _ h _ _ (by omega) ?_ ?_ ?_ ?_ ?_ hg (by rw [List.take_zero, List.append_nil]; exact ha) hN fun t' h' ver' hN' u1 u2 u6 u7 hg' ha' => ?_
    · simp only [t1, sg_set, Nat.reduceEqDiff, ↓reduceIte]
    · simp only [t2, sg_set, Nat.reduceEqDiff, ↓reduceIte]
    · simp only [t6, sg_set, Nat.reduceEqDiff, ↓reduceIte]
    · simp only [t7, sg_set, Nat.reduceEqDiff, ↓reduceIte]
    · simp only [sg_set, Nat.reduceEqDiff, ↓reduceIte]
      rfl
    · simp only [u7, w1, RX, VOp.fresh, bxC, bsC, un, most, callsOf, seval, Int.reducePow, ↓reduceIte, Nat.reduceEqDiff, reduceCtorEq]
      refine ih (i + 1) ver' _ h' k Q (by omega) ?_ ?_ ?_ ?_ hg' (by rw [rtake_snoc (by omega), ownsL_snoc]; exact ha') hN' hK
      · simp only [u1, sg_set, Nat.reduceEqDiff, ↓reduceIte]
      · simp only [u2, sg_set, Nat.reduceEqDiff, ↓reduceIte]
      · simp only [u6, sg_set, Nat.reduceEqDiff, ↓reduceIte]
      · simp only [sg_set, Nat.reduceEqDiff, ↓reduceIte]
theorem rown_out (g : Pg P tab) {zs : List Int} {ab ea va : Nat} (n : Nat) :
    ∀ (i : Nat) (o : AV) (t : T AV) (h : Heap) (k : List Fr) (Q : Ex → T AV → Heap → Prop), i + n = 8 → h.get ab = some (.cells (met8 zs) ea va) → sg t 9 = o → SRow h o 1 (kc (metL zs i)) (metL zs i).length → (∀ c ∈ blkOf o, ab < c) → ab < h.next →
      sg t 6 = .ptr ab 0 → sg t 10 = .int .i64 i →
      (∀ t' h' o', sg t' 9 = o' → SRow h' o' 1 (kc (metL zs 8)) (metL zs 8).length → Un P k Q (.exit 4) t' h') → Lp P b40_2 t h (Un P k Q) := by
  induction n with
  | zero =>
    intro i o t h k Q hn ha t9 r hb hlt t6 t10 hK
    refine g.lpe b40_2.eq_1 ?_
    have c1 : ¬ ((i : Int) < 8) := by omega
    simp only [t10, c1, RX, VOp.fresh, bxC, bsC, un, most, callsOf, seval, Int.reducePow, ↓reduceIte, Nat.reduceEqDiff, reduceCtorEq]
    obtain rfl : i = 8 := by omega
    refine hK _ h o ?_ r
    simp only [t9, sg_set, Nat.reduceEqDiff, ↓reduceIte]
  | succ n ih =>
    intro i o t h k Q hn ha t9 r hb hlt t6 t10 hK
    refine g.lpe b40_2.eq_1 ?_
    have c1 : ((i : Int) < 8) := by omega
    have w1 : IntKind.i64.wrap ((i : Int) + 1) = ((i + 1 : Nat) : Int) := by rw [w64 (by omega) (by omega)]; push_cast; rfl
    have hia : ∀ hh : Heap, iaV hh 1 (some 8) (.ptr ab 0) (.int .i64 (i : Int)) = .val (.ptr ab i) hh := fun hh => by
      simp only [iaV]
      rw [if_pos ⟨by omega, by omega⟩, Int.toNat_natCast, Nat.mul_one, Nat.zero_add]
    have hp := met8_at (zs := zs) (d := i) (by omega)
    have hms := metL_succ zs i
    have hml := metL_len zs i
    by_cases hm : (i : Int) ∈ zs
    · rw [if_pos hm] at hms
      have hd : decide ((i : Int) ∈ zs) = true := decide_eq_true hm
      rw [hd] at hp
      have x2 := Ext.mk (h := h) (.cells [.int .i64 (i : Int)] 3 0)
      have n3 : (h.mk' h.next (.cells [.int .i64 (i : Int)] 3 0)).next = h.next + 1 := by rw [mk_next]; omega
      obtain ⟨o2, h3, e3, r3, n4, b4, k3⟩ := (r.ext x2).push (nb := h.next) (eb := 3) (vb := 0) (c := [.int .i64 (i : Int)]) (by rw [Heap.get_mk, if_pos rfl]) rfl rfl (bytes := 8) (by unfold most2; omega) 3
      have g3 : h3.get ab = some (.cells (met8 zs) ea va) := by rw [k3 ab (by omega) (fun hc => by have := hb ab hc; omega), x2.2 ab hlt]; exact ha
      simp only [t6, t9, t10, c1, hia, ha, hp, e3, w1, RW, RX, VOp.fresh, bxC, bsC, un, most, callsOf, seval, Int.reducePow, ↓reduceIte, Nat.reduceEqDiff, reduceCtorEq]
      refine ih (i + 1) o2 _ h3 k Q (by omega) g3 ?_ ?_ ?_ (by omega) ?_ ?_ hK
      · simp only [sg_set, Nat.reduceEqDiff, ↓reduceIte]
      · rw [hms, List.length_append]
        unfold kc at r3 ⊢
        rw [List.map_append]
        exact r3
      · intro c hc
        rcases b4 c hc with e | e
        · exact hb c e
        · omega
      · simp only [t6, sg_set, Nat.reduceEqDiff, ↓reduceIte]
      · simp only [sg_set, Nat.reduceEqDiff, ↓reduceIte]
    · rw [if_neg hm] at hms
      have hd : decide ((i : Int) ∈ zs) = false := decide_eq_false hm
      rw [hd] at hp
      simp only [t6, t9, t10, c1, hia, ha, hp, w1, RW, RX, VOp.fresh, bxC, bsC, un, most, callsOf, seval, Int.reducePow, ↓reduceIte, Nat.reduceEqDiff, reduceCtorEq]
      refine ih (i + 1) o _ h k Q (by omega) ha ?_ (by rw [hms]; exact r) hb hlt ?_ ?_ hK
      · simp only [t9, sg_set, Nat.reduceEqDiff, ↓reduceIte]
      · simp only [t6, sg_set, Nat.reduceEqDiff, ↓reduceIte]
      · simp only [sg_set, Nat.reduceEqDiff, ↓reduceIte]
theorem rowners_pu (g : Pg P tab) {m : Mp} {v u : AV} (hv : IsL 8 RInt v m.starts) (hu : IsL 8 RInt u m.owners) {l : Rgs} {w : AV} (hw : IsL 16 RRg w l) :
    Pu P 40 [.agg [.int .i64 m.epoch, v, u], w] (fun z => (¬ (mpOk 8 m ∧ Sep (-1) l) ∧ z = .tup [.nils, .int .i64 700]) ∨ (mpOk 8 m ∧ Sep (-1) l ∧ ∃ W y, OwnsR m l W ∧ IsL 8 RInt y W ∧ z = .tup [y, .int .i64 0])) := by
  refine g.pu (vf := v40) rfl rfl ?_
  simp only [v40, RW, RX, VOp.fresh, bxC, bsC, un, most, callsOf, seval, Int.reducePow, ↓reduceIte, Nat.reduceEqDiff, reduceCtorEq]
  refine (rMap_pu g hv hu).go (by simp [AV.tolds, AV.told, hv.told tInt, hu.told tInt]) ?_
  rintro _ ⟨b, rfl, hb⟩
  cases b with
  | false =>
    have ho : ¬ mpOk 8 m := fun h => by have := hb.2 h; cases this
    simp only [RW, RX, VOp.fresh, bxC, bsC, un, most, callsOf, seval, Int.reducePow, ↓reduceIte, Nat.reduceEqDiff, reduceCtorEq]
    exact ⟨_, .tup (.cons .nils (.cons (.int _ _) .nil)), .inl ⟨fun h => ho h.1, rfl⟩⟩
  | true =>
    have ok : mpOk 8 m := hb.1 rfl
    simp only [RW, RX, VOp.fresh, bxC, bsC, un, most, callsOf, seval, Int.reducePow, ↓reduceIte, Nat.reduceEqDiff, reduceCtorEq]
    refine (dmay_pu g hw).go (by simp [AV.tolds, hw.told tRg]) ?_
    rintro _ rfl
    cases hl : sepB (-1) l with
    | false =>
      have ho : ¬ Sep (-1) l := fun h => by rw [sepB_iff.2 h] at hl; cases hl
      simp only [RW, RX, VOp.fresh, bxC, bsC, un, most, callsOf, seval, Int.reducePow, ↓reduceIte, Nat.reduceEqDiff, reduceCtorEq]
      exact ⟨_, .tup (.cons .nils (.cons (.int _ _) .nil)), .inl ⟨fun h => ho h.2, rfl⟩⟩
    | true =>
      have hsep := sepB_iff.1 hl
      simp only [RW, RX, VOp.fresh, bxC, bsC, un, most, callsOf, seval, Int.reducePow, ↓reduceIte, Nat.reduceEqDiff, reduceCtorEq]
      have e0 : met8 (ownsL m (l.take 0)) = [.bool false, .bool false, .bool false, .bool false, .bool false, .bool false, .bool false, .bool false] := by
        rw [List.take_zero]; rfl
      refine rown_loop g hv hu ok hw hsep (mb := 0) (e2 := 24) (v2 := 0) (ab := 1) (ea := 112) (by decide) l.length 0 0 _ _ _ _ (by omega) ?_ ?_ ?_ ?_ rfl (by rw [e0]; rfl) (by rw [mk_next, mk_next]; simp) fun t' h' ver' hN u6 ha => ?_
      · simp only [sg_set, Nat.reduceEqDiff, ↓reduceIte]
      · simp only [sg_set, Nat.reduceEqDiff, ↓reduceIte]
      · simp only [sg_set, Nat.reduceEqDiff, ↓reduceIte]
      · simp only [sg_set, Nat.reduceEqDiff, ↓reduceIte]
        rfl
      · simp only [u6, RX, VOp.fresh, bxC, bsC, un, most, callsOf, seval, Int.reducePow, ↓reduceIte, Nat.reduceEqDiff, reduceCtorEq]
        refine rown_out g (zs := ownsL m l) (ab := 1) (ea := 112) (va := ver') 8 0 .nils _ h' _ _ (by omega) ha ?_ (.inl ⟨rfl, rfl, rfl⟩) (fun c hc => by cases hc) hN ?_ ?_ fun t2 h2 o2 u9 r => ?_
        · simp only [sg_set, Nat.reduceEqDiff, ↓reduceIte]
        · simp only [u6, sg_set, Nat.reduceEqDiff, ↓reduceIte]
        · simp only [sg_set, Nat.reduceEqDiff, ↓reduceIte]
          rfl
        · simp only [u9, RX, VOp.fresh, bxC, bsC, un, most, callsOf, seval, Int.reducePow, ↓reduceIte, Nat.reduceEqDiff, reduceCtorEq]
          have hup : OwnsR m l (metL (ownsL m l) 8) := ⟨metL_inc _ _, fun x => by
            rw [metL_mem]
            exact ⟨fun h => h.1, fun h => ⟨h, by have := owns_8 ok x h; omega, by have := owns_8 ok x h; omega⟩⟩⟩
          rcases r with ⟨rfl, hz, _⟩ | ⟨b, e, ver, rfl, hb2, hg, hln, hone⟩
          · refine ⟨_, .tup (.cons .nils (.cons (.int _ _) .nil)), .inr ⟨ok, hsep, metL (ownsL m l) 8, .nils, hup, ?_, rfl⟩⟩
            rw [List.eq_nil_of_length_eq_zero hz]
            exact isL_nil _ _
          · refine ⟨_, .tup (.cons (?_ : Fz false h2 _ (.rs (kc (metL (ownsL m l) 8)) (metL (ownsL m l) 8).length)) (.cons (.int _ _) .nil)), .inr ⟨ok, hsep, metL (ownsL m l) 8, _, hup, up_is hup fun x hx => owns_8 ok x hx, rfl⟩⟩
            generalize metL (ownsL m l) 8 = W at *
            by_cases hz : W.length = 0
            · rw [hz, show kc W = [] from List.eq_nil_of_length_eq_zero (by rw [kc_len, hz])]
              exact .sl0
            · refine .sl (by omega) hg (cs := kc W) ?_ (scals_fz (by simp [kc, scal1]))
              rw [cut_eq, List.drop_zero, Nat.mul_one, ← kc_len, List.take_length, if_pos rfl]
end
end Go.Proofs.Ythmkenkjfmbkiaa.VM
namespace Go.Proofs.Ythmkenkjfmbkiaa.VM
attribute [local irreducible] Af Nx EvO Ev Un Gd Cd EvR EvQ EvC Nc Gc Lp EvM NxM AfM GdM EvMR EvMQ EvMD EvMC Nm Gm
section
variable {P : Program}
theorem around_pu (g : Pg P tab) (p q : Pt) : Pu P 78 [aPt p, aPt q] (fun v => v = aBx ⟨imn p.x q.x, imn p.y q.y, imx p.x q.x, imx p.y q.y⟩) := by
  refine g.pu (vf := v78) rfl rfl ?_
  simp only [v78, aPt, aBx, fmin, fmax, RW, RX, VOp.fresh, bxC, bsC, un, most, callsOf, seval, Int.reducePow, ↓reduceIte, Nat.reduceEqDiff, reduceCtorEq]
  exact ⟨_, .agg (scals_fz rfl), rfl⟩
theorem rjoin_pu (g : Pg P tab) (a b : Bx) : Pu P 79 [aBx a, aBx b] (fun v => v = if bOk a ∧ bOk b then .tup [aBx (bxJ a b), .int .i64 0] else .tup [aBx ⟨0, 0, 0, 0⟩, .int .i64 300]) := by
  refine g.pu (vf := v79) rfl rfl ?_
  simp only [v79, aBx, RW, RX, VOp.fresh, bxC, bsC, un, most, callsOf, seval, Int.reducePow, ↓reduceIte, Nat.reduceEqDiff, reduceCtorEq]
  refine (dboxMay_pu g a.x0 a.y0 a.x1 a.y1).go rfl ?_
  rintro _ rfl
  by_cases ha : bOk a
  · have ha' : decide (bxOk a.x0 a.y0 a.x1 a.y1) = true := decide_eq_true ha
    rw [ha']
    simp only [RX, VOp.fresh, bxC, bsC, un, most, callsOf, seval, Int.reducePow, ↓reduceIte, Nat.reduceEqDiff, reduceCtorEq]
    refine (dboxMay_pu g b.x0 b.y0 b.x1 b.y1).go rfl ?_
    rintro _ rfl
    by_cases hb : bOk b
    · have hb' : decide (bxOk b.x0 b.y0 b.x1 b.y1) = true := decide_eq_true hb
      rw [hb']
      simp only [fmin, fmax, bxJ, ha, hb, RW, RX, VOp.fresh, bxC, bsC, un, most, callsOf, seval, Int.reducePow, ↓reduceIte, Nat.reduceEqDiff, reduceCtorEq]
      exact ⟨_, .tup (.cons (.agg (scals_fz rfl)) (.cons (.int _ _) .nil)), rfl⟩
    · have hb' : decide (bxOk b.x0 b.y0 b.x1 b.y1) = false := decide_eq_false hb
      rw [hb']
      simp only [ha, hb, RW, RX, VOp.fresh, bxC, bsC, un, most, callsOf, seval, Int.reducePow, ↓reduceIte, Nat.reduceEqDiff, reduceCtorEq]
      exact ⟨_, .tup (.cons (.agg (scals_fz rfl)) (.cons (.int _ _) .nil)), rfl⟩
  · have ha' : decide (bxOk a.x0 a.y0 a.x1 a.y1) = false := decide_eq_false ha
    rw [ha']
    simp only [ha, RW, RX, VOp.fresh, bxC, bsC, un, most, callsOf, seval, Int.reducePow, ↓reduceIte, Nat.reduceEqDiff, reduceCtorEq]
    exact ⟨_, .tup (.cons (.agg (scals_fz rfl)) (.cons (.int _ _) .nil)), rfl⟩
def bxCs (b : Bx) : List AV := [.int .i64 b.x0, .int .i64 b.y0, .int .i64 b.x1, .int .i64 b.y1]
theorem rbox_in (g : Pg P tab) {f : Feat} {v a0 a1 : AV} (hv : IsL 24 RRing v f.rings) (ho : featOk f) {fb e2 n2 tb : Nat} (hne : tb ≠ fb) {i : Nat} (hi : i < f.rings.length) {b0 : Bx} (hb0 : bOk b0) {N : Nat} {X : Option Blk} {ob : Nat} (hob : ob ≠ tb) (n : Nat) :
    ∀ (j ver : Nat) (t : T AV) (h : Heap) (k : List Fr) (Q : Ex → T AV → Heap → Prop), j + n = (f.rings.getD i []).length → sg t 1 = .ptr fb 0 → sg t 2 = .ptr ob 0 → sg t 4 = .ptr tb 0 → sg t 5 = .int .i64 i → sg t 6 = .int .i64 j →
    h.get fb = some (.cells [a0, a1, v] e2 n2) → h.get ob = X → h.get tb = some (.cells (bxCs (bxAll ((f.rings.getD i []).take j) b0)) 96 ver) →
    (∀ t' h' ver', sg t' 1 = .ptr fb 0 → sg t' 2 = .ptr ob 0 → sg t' 4 = .ptr tb 0 → sg t' 5 = .int .i64 i → h'.get fb = some (.cells [a0, a1, v] e2 n2) → h'.get ob = X → h'.get tb = some (.cells (bxCs (bxAll (f.rings.getD i []) b0)) 96 ver') → Un P k Q (.exit 2) t' h') → Lp P b53_0 t h (Un P k Q) := by
  obtain ⟨rv, r1, hrv, _, g1⟩ := getRing hv i hi
  have hbd := hrv.bound (by decide)
  have hbi := hv.bound (by decide)
  have hpt : ∀ q ∈ f.rings.getD i [], ptOk q := fun q hq => ho.pts q (List.mem_flatten.2 ⟨_, by rw [getD_ring hi]; exact List.getElem_mem hi, hq⟩)
  induction n with
  | zero =>
    intro j ver t h k Q hn t1 t2 t4 t5 t6 hf hx hb hK
    refine g.lpe b53_0.eq_1 ?_
    have c1 : ¬ ((j : Int) < ((f.rings.getD i []).length : Int)) := by omega
    simp only [t1, t5, t6, hf, g1, hrv.len, c1, RX, VOp.fresh, bxC, bsC, un, most, callsOf, seval, Int.reducePow, ↓reduceIte, Nat.reduceEqDiff, reduceCtorEq]
    rw [List.take_of_length_le (by omega)] at hb
    refine hK _ h ver ?_ ?_ ?_ ?_ hf hx hb
    · simp only [t1, sg_set, Nat.reduceEqDiff, ↓reduceIte]
    · simp only [t2, sg_set, Nat.reduceEqDiff, ↓reduceIte]
    · simp only [t4, sg_set, Nat.reduceEqDiff, ↓reduceIte]
    · simp only [t5, sg_set, Nat.reduceEqDiff, ↓reduceIte]
  | succ n ih =>
    intro j ver t h k Q hn t1 t2 t4 t5 t6 hf hx hb hK
    refine g.lpe b53_0.eq_1 ?_
    have c1 : ((j : Int) < ((f.rings.getD i []).length : Int)) := by omega
    have w1 : IntKind.i64.wrap ((j : Int) + 1) = ((j + 1 : Nat) : Int) := by rw [w64 (by omega) (by omega)]; push_cast; rfl
    obtain ⟨r2, _, g2⟩ := getPt hrv j (by omega)
    have hjl : j < (f.rings.getD i []).length := by omega
    have hts : (f.rings.getD i []).take (j + 1) = (f.rings.getD i []).take j ++ [(f.rings.getD i []).getD j ⟨0, 0⟩] := by rw [List.take_succ_eq_append_getElem hjl, getP hjl]
    have hp : ptOk ((f.rings.getD i []).getD j ⟨0, 0⟩) := hpt _ (by rw [getP hjl]; exact List.getElem_mem hjl)
    have hB := bxAll_ok (l := (f.rings.getD i []).take j) (fun q hq => hpt q (List.mem_of_mem_take hq)) hb0
    generalize (f.rings.getD i []).getD j ⟨0, 0⟩ = p at *
    generalize hBe : bxAll ((f.rings.getD i []).take j) b0 = B at *
    have ie : ∀ x : Int, imn x x = x ∧ imx x x = x := fun x => by unfold imn imx; constructor <;> split <;> rfl
    have o78 : OK P 78 [.agg [.int .i64 p.x, .int .i64 p.y], .agg [.int .i64 p.x, .int .i64 p.y]] h (.agg [.int .i64 p.x, .int .i64 p.y, .int .i64 p.x, .int .i64 p.y]) h := by
      have := (around_pu g p p).exact (h := h) rfl
      rwa [(ie p.x).1, (ie p.x).2, (ie p.y).1, (ie p.y).2] at this
    have o79 : OK P 79 [.agg [.int .i64 B.x0, .int .i64 B.y0, .int .i64 B.x1, .int .i64 B.y1], .agg [.int .i64 p.x, .int .i64 p.y, .int .i64 p.x, .int .i64 p.y]] h (.tup [.agg [.int .i64 (bxJ B (bxPt p)).x0, .int .i64 (bxJ B (bxPt p)).y0, .int .i64 (bxJ B (bxPt p)).x1, .int .i64 (bxJ B (bxPt p)).y1], .int .i64 0]) h := by
      have := (rjoin_pu g B (bxPt p)).exact (h := h) rfl
      rwa [if_pos ⟨hB, bxPt_ok hp⟩] at this
    obtain ⟨c, c1', c2⟩ : ∃ c : Nat → List AV → Heap → AV × Heap, (∀ a h, c 78 a h = (.agg [.int .i64 p.x, .int .i64 p.y, .int .i64 p.x, .int .i64 p.y], h)) ∧ (∀ a h, c 79 a h = (.tup [.agg [.int .i64 (bxJ B (bxPt p)).x0, .int .i64 (bxJ B (bxPt p)).y0, .int .i64 (bxJ B (bxPt p)).x1, .int .i64 (bxJ B (bxPt p)).y1], .int .i64 0], h)) :=
      ⟨fun f _ h => if f = 78 then (.agg [.int .i64 p.x, .int .i64 p.y, .int .i64 p.x, .int .i64 p.y], h) else (.tup [.agg [.int .i64 (bxJ B (bxPt p)).x0, .int .i64 (bxJ B (bxPt p)).y0, .int .i64 (bxJ B (bxPt p)).x1, .int .i64 (bxJ B (bxPt p)).y1], .int .i64 0], h), fun _ _ => rfl, fun _ _ => rfl⟩
    unfold bxCs at hb
    simp only [t1, t5, t6, hf, g1, hrv.len, c1, RW, RX, VOp.fresh, bxC, bsC, un, most, callsOf, seval, Int.reducePow, ↓reduceIte, Nat.reduceEqDiff, reduceCtorEq]
    refine EvD.sameN 19 c rfl ?_
    simp only [t1, t4, t5, t6, hf, hb, g1, g2, c1', c2, o78, o79, w1, RW, RX, VOp.fresh, bxC, bsC, un, most, callsOf, seval, Int.reducePow, ↓reduceIte, Nat.reduceEqDiff, reduceCtorEq]
    refine ih (j + 1) (ver + 1) _ _ k Q (by omega) ?_ ?_ ?_ ?_ ?_ (by rw [Heap.get_put, if_neg (Ne.symm hne)]; exact hf) (by rw [Heap.get_put, if_neg hob]; exact hx) (by rw [Heap.get_put, if_pos rfl, hts, bxAll_snoc, hBe]; rfl) hK
    · simp only [t1, sg_set, Nat.reduceEqDiff, ↓reduceIte]
    · simp only [t2, sg_set, Nat.reduceEqDiff, ↓reduceIte]
    · simp only [t4, sg_set, Nat.reduceEqDiff, ↓reduceIte]
    · simp only [t5, sg_set, Nat.reduceEqDiff, ↓reduceIte]
    · simp only [sg_set, Nat.reduceEqDiff, ↓reduceIte]
theorem bxAll_app (l k : List Pt) (b : Bx) : bxAll (l ++ k) b = bxAll k (bxAll l b) := by simp [bxAll]
theorem rbox_loop (g : Pg P tab) {f : Feat} {v a0 a1 : AV} (hv : IsL 24 RRing v f.rings) (ho : featOk f) {fb e2 n2 tb : Nat} (hne : tb ≠ fb) {b0 : Bx} (hb0 : bOk b0) {X : Option Blk} {ob : Nat} (hob : ob ≠ tb) (n : Nat) :
    ∀ (i ver : Nat) (t : T AV) (h : Heap) (k : List Fr) (Q : Ex → T AV → Heap → Prop), i + n = f.rings.length → sg t 1 = .ptr fb 0 → sg t 2 = .ptr ob 0 → sg t 4 = .ptr tb 0 → sg t 5 = .int .i64 i →
    h.get fb = some (.cells [a0, a1, v] e2 n2) → h.get ob = X → h.get tb = some (.cells (bxCs (bxAll (f.rings.take i).flatten b0)) 96 ver) →
    (∀ t' h' ver', sg t' 2 = .ptr ob 0 → sg t' 4 = .ptr tb 0 → h'.get ob = X → h'.get tb = some (.cells (bxCs (bxAll (fPts f) b0)) 96 ver') → Un P k Q (.exit 0) t' h') → Lp P b53_1 t h (Un P k Q) := by
  have hbi := hv.bound (by decide)
  induction n with
  | zero =>
    intro i ver t h k Q hn t1 t2 t4 t5 hf hx hb hK
    refine g.lpe b53_1.eq_1 ?_
    have c1 : ¬ ((i : Int) < (f.rings.length : Int)) := by omega
    simp only [t1, t5, hf, hv.len, c1, RX, VOp.fresh, bxC, bsC, un, most, callsOf, seval, Int.reducePow, ↓reduceIte, Nat.reduceEqDiff, reduceCtorEq]
    rw [List.take_of_length_le (by omega)] at hb
    refine hK _ h ver ?_ ?_ hx hb
    · simp only [t2, sg_set, Nat.reduceEqDiff, ↓reduceIte]
    · simp only [t4, sg_set, Nat.reduceEqDiff, ↓reduceIte]
  | succ n ih =>
    intro i ver t h k Q hn t1 t2 t4 t5 hf hx hb hK
    refine g.lpe b53_1.eq_1 ?_
    have c1 : ((i : Int) < (f.rings.length : Int)) := by omega
    have w1 : IntKind.i64.wrap ((i : Int) + 1) = ((i + 1 : Nat) : Int) := by rw [w64 (by omega) (by omega)]; push_cast; rfl
    have hi : i < f.rings.length := by omega
    have ef : (f.rings.take (i + 1)).flatten = (f.rings.take i).flatten ++ f.rings.getD i [] := by
      rw [List.take_succ_eq_append_getElem hi, List.flatten_append, getD_ring hi]; simp
    have hsub : ∀ q ∈ (f.rings.take i).flatten, ptOk q := fun q hq => by
      obtain ⟨r, hr, hq⟩ := List.mem_flatten.1 hq
      exact ho.pts q (List.mem_flatten.2 ⟨r, List.mem_of_mem_take hr, hq⟩)
    simp only [t1, t5, hf, hv.len, c1, RX, VOp.fresh, bxC, bsC, un, most, callsOf, seval, Int.reducePow, ↓reduceIte, Nat.reduceEqDiff, reduceCtorEq]
    refine rbox_in g hv ho (fb := fb) (e2 := e2) (n2 := n2) (tb := tb) hne hi (bxAll_ok hsub hb0) (N := 0) (X := X) hob (f.rings.getD i []).length 0 ver _ h _ _ (by omega) ?_ ?_ ?_ ?_ ?_ hf hx (by rw [List.take_zero]; exact hb) fun t' h' ver' u1 u2 u4 u5 hf' hx' hb' => ?_
    · simp only [t1, sg_set, Nat.reduceEqDiff, ↓reduceIte]
    · simp only [t2, sg_set, Nat.reduceEqDiff, ↓reduceIte]
    · simp only [t4, sg_set, Nat.reduceEqDiff, ↓reduceIte]
    · simp only [t5, sg_set, Nat.reduceEqDiff, ↓reduceIte]
    · simp only [sg_set, Nat.reduceEqDiff, ↓reduceIte]
      rfl
    · simp only [u5, w1, RX, VOp.fresh, bxC, bsC, un, most, callsOf, seval, Int.reducePow, ↓reduceIte, Nat.reduceEqDiff, reduceCtorEq]
      refine ih (i + 1) ver' _ h' k Q (by omega) ?_ ?_ ?_ ?_ hf' hx' (by rw [ef, bxAll_app]; exact hb') hK
      · simp only [u1, sg_set, Nat.reduceEqDiff, ↓reduceIte]
      · simp only [u2, sg_set, Nat.reduceEqDiff, ↓reduceIte]
      · simp only [u4, sg_set, Nat.reduceEqDiff, ↓reduceIte]
      · simp only [sg_set, Nat.reduceEqDiff, ↓reduceIte]
theorem rbox_pu (g : Pg P tab) {f : Feat} {v : AV} (hv : IsL 24 RRing v f.rings) : Pu P 53 [.agg [.int .i64 f.id, .int .i64 f.shape, v]] (fun w => (¬ featOk f ∧ w = .tup [aBx ⟨0, 0, 0, 0⟩, .int .i64 400]) ∨ (featOk f ∧ w = .tup [aBx (fBox f), .int .i64 0])) := by
  refine g.pu (vf := v53) rfl rfl ?_
  simp only [v53, RW, RX, VOp.fresh, bxC, bsC, un, most, callsOf, seval, Int.reducePow, ↓reduceIte, Nat.reduceEqDiff, reduceCtorEq]
  refine (rShape_pu g hv).go (by simp [AV.tolds, AV.told, hv.told tRing]) ?_
  rintro _ ⟨b, rfl, hb⟩
  cases b with
  | false =>
    have ho : ¬ featOk f := fun h => by have := hb.2 h; cases this
    simp only [RW, RX, VOp.fresh, bxC, bsC, un, most, callsOf, seval, Int.reducePow, ↓reduceIte, Nat.reduceEqDiff, reduceCtorEq]
    exact ⟨_, .tup (.cons (.agg (scals_fz rfl)) (.cons (.int _ _) .nil)), .inl ⟨ho, rfl⟩⟩
  | true =>
    have ho : featOk f := hb.1 rfl
    obtain ⟨h0, h1⟩ := ho.first
    obtain ⟨rv, r1, hrv, t1, g1⟩ := getRing hv 0 h0
    obtain ⟨r2, t2, g2⟩ := getPt hrv 0 h1
    simp only [Int.natCast_zero, Int.ofNat_zero, Int.ofNat_eq_natCast] at g1 g2
    simp only [g1, g2, RW, RX, VOp.fresh, bxC, bsC, un, most, callsOf, seval, Int.reducePow, ↓reduceIte, Nat.reduceEqDiff, reduceCtorEq]
    obtain ⟨p0, hp0⟩ : ∃ p0, (f.rings.getD 0 []).getD 0 ⟨0, 0⟩ = p0 := ⟨_, rfl⟩
    rw [hp0]
    refine (around_pu g p0 p0).go rfl ?_
    rintro _ rfl
    have ie : ∀ x : Int, imn x x = x ∧ imx x x = x := fun x => by unfold imn imx; constructor <;> split <;> rfl
    simp only [(ie p0.x).1, (ie p0.x).2, (ie p0.y).1, (ie p0.y).2, aBx]
    simp only [RW, RX, VOp.fresh, bxC, bsC, un, most, callsOf, seval, Int.reducePow, ↓reduceIte, Nat.reduceEqDiff, reduceCtorEq]
    refine rbox_loop g hv ho (fb := 0) (e2 := 50) (n2 := 0) (tb := 15) (by decide) (b0 := bxPt p0) (bxPt_ok (ho.pts p0 ?_)) (X := some (.cells [.int .i64 0, .int .i64 0, .int .i64 0, .int .i64 0] 96 0)) (ob := 1) (by decide) f.rings.length 0 1 _ _ _ _ (by omega) ?_ ?_ ?_ ?_ rfl rfl rfl fun t' h' ver' u2 u4 k1 k2 => ?_
    · rw [← hp0]
      exact List.mem_flatten.2 ⟨f.rings.getD 0 [], by rw [getD_ring h0]; exact List.getElem_mem h0, by rw [getP h1]; exact List.getElem_mem h1⟩
    · simp only [sg_set, Nat.reduceEqDiff, ↓reduceIte]
    · simp only [sg_set, Nat.reduceEqDiff, ↓reduceIte]
    · simp only [sg_set, Nat.reduceEqDiff, ↓reduceIte]
    · simp only [sg_set, Nat.reduceEqDiff, ↓reduceIte]
      rfl
    · unfold bxCs at k2
      simp only [u2, u4, k1, k2, RW, RX, VOp.fresh, bxC, bsC, un, most, callsOf, seval, Int.reducePow, ↓reduceIte, Nat.reduceEqDiff, reduceCtorEq]
      exact ⟨_, .tup (.cons (.agg (scals_fz rfl)) (.cons (.int _ _) .nil)), .inr ⟨ho, by unfold fBox; rw [hp0]⟩⟩
end
end Go.Proofs.Ythmkenkjfmbkiaa.VM
namespace Go.Proofs.Ythmkenkjfmbkiaa.VM
attribute [local irreducible] Af Nx EvO Ev Un Gd Cd EvR EvQ EvC Nc Gc Lp EvM NxM AfM GdM EvMR EvMQ EvMD EvMC Nm Gm
theorem up_uniq : ∀ {W W' : List Int}, W.Pairwise (· < ·) → W'.Pairwise (· < ·) → (∀ x, x ∈ W ↔ x ∈ W') → W = W'
  | [], [], _, _, _ => rfl
  | [], y :: t, _, _, h => absurd ((h y).2 (.head _)) (by simp)
  | x :: s, [], _, _, h => absurd ((h x).1 (.head _)) (by simp)
  | x :: s, y :: t, hp, hq, h => by
    rw [List.pairwise_cons] at hp hq
    have exy : x = y := by
      rcases List.mem_cons.1 ((h x).1 (.head _)) with e | e
      · exact e
      · rcases List.mem_cons.1 ((h y).2 (.head _)) with e2 | e2
        · exact e2.symm
        · have h1 := hq.1 x e; have h2 := hp.1 y e2; omega
    subst exy
    rw [up_uniq hp.2 hq.2 fun z => ?_]
    constructor
    · intro hz
      rcases List.mem_cons.1 ((h z).1 (.tail _ hz)) with e | e
      · subst e; have := hp.1 z hz; omega
      · exact e
    · intro hz
      rcases List.mem_cons.1 ((h z).2 (.tail _ hz)) with e | e
      · subst e; have := hq.1 z hz; omega
      · exact e
theorem OwnsR.uniq {m : Mp} {l : Rgs} {W W' : List Int} (h : OwnsR m l W) (k : OwnsR m l W') : W = W' := up_uniq h.1 k.1 fun x => (h.2 x).trans (k.2 x).symm
def cvB (b : Bx) : Rgs := bxCov b.x0 b.y0 b.x1 b.y1
/-- a node holds a feature -/
def HoldsP (m : Mp) (node : Int) (f : Feat) : Prop := featOk f ∧ mpOk 8 m ∧ node ∈ ownsL m (cvB (fBox f))
theorem fBox_ok {f : Feat} (h : featOk f) : bOk (fBox f) := by
  obtain ⟨h0, h1⟩ := h.first
  refine bxAll_ok (fun q hq => h.pts q hq) (bxPt_ok (h.pts _ ?_))
  exact List.mem_flatten.2 ⟨f.rings.getD 0 [], by rw [getD_ring h0]; exact List.getElem_mem h0, by rw [getP h1]; exact List.getElem_mem h1⟩
section
variable {P : Program}
/-- the document's -/
theorem rin_loop (g : Pg P tab) {W : List Int} {y : AV} (hy : IsL 8 RInt y W) (x : Int) (n : Nat) : ∀ (i : Nat) (t : T AV) (h : Heap) (k : List Fr) (Q : Ex → T AV → Heap → Prop), i + n = W.length → sg t 11 = y → sg t 1 = .int .i64 x → sg t 13 = .int .i64 i →
    (x ∉ W.drop i → ∀ t', Un P k Q (.exit 0) t' h) → (∀ t', x ∈ W.drop i → sg t' 6 = .bool true → Un P k Q .ret t' h) → Lp P b25_0 t h (Un P k Q) := by
  have hbd := hy.bound (by decide)
  induction n with
  | zero =>
    intro i t h k Q hn t11 t1 t13 hK hR
    refine g.lpe b25_0.eq_1 ?_
    have c1 : ¬ ((i : Int) < (W.length : Int)) := by omega
    simp only [t11, t13, hy.len, c1, RX, VOp.fresh, bxC, bsC, un, most, callsOf, seval, Int.reducePow, ↓reduceIte, Nat.reduceEqDiff, reduceCtorEq]
    exact hK (by rw [List.drop_of_length_le (by omega)]; simp) _
  | succ n ih =>
    intro i t h k Q hn t11 t1 t13 hK hR
    refine g.lpe b25_0.eq_1 ?_
    have c1 : ((i : Int) < (W.length : Int)) := by omega
    have w1 : IntKind.i64.wrap ((i : Int) + 1) = ((i + 1 : Nat) : Int) := by rw [w64 (by omega) (by omega)]; push_cast; rfl
    obtain ⟨r1, _, g1⟩ := getInt hy i (by omega)
    have hd : W.drop i = W.getD i 0 :: W.drop (i + 1) := by rw [List.drop_eq_getElem_cons (by omega), getN (by omega)]
    by_cases he : W.getD i 0 = x
    · simp only [t11, t1, t13, hy.len, c1, g1, he, RX, VOp.fresh, bxC, bsC, un, most, callsOf, seval, Int.reducePow, ↓reduceIte, Nat.reduceEqDiff, reduceCtorEq]
      refine hR _ (by rw [hd, he]; exact .head _) ?_
      simp only [sg_set, Nat.reduceEqDiff, ↓reduceIte]
    · simp only [t11, t1, t13, hy.len, c1, g1, he, w1, RX, VOp.fresh, bxC, bsC, un, most, callsOf, seval, Int.reducePow, ↓reduceIte, Nat.reduceEqDiff, reduceCtorEq]
      have hm : x ∈ W.drop i ↔ x ∈ W.drop (i + 1) := by rw [hd, List.mem_cons]; exact ⟨fun h => h.resolve_left fun e => he e.symm, .inr⟩
      refine ih (i + 1) _ h k Q (by omega) ?_ ?_ ?_ (fun hn => hK (fun h => hn (hm.1 h))) (fun t' hj => hR t' (hm.2 hj))
      · simp only [t11, sg_set, Nat.reduceEqDiff, ↓reduceIte]
      · simp only [t1, sg_set, Nat.reduceEqDiff, ↓reduceIte]
      · simp only [sg_set, Nat.reduceEqDiff, ↓reduceIte]
theorem rholds_pu (g : Pg P tab) {m : Mp} {v u : AV} (hv : IsL 8 RInt v m.starts) (hu : IsL 8 RInt u m.owners) {f : Feat} {fv : AV} (hf : IsL 24 RRing fv f.rings) (node : Int) :
    Pu P 25 [.agg [.int .i64 m.epoch, v, u], .int .i64 node, .agg [.int .i64 f.id, .int .i64 f.shape, fv]] (IsB (HoldsP m node f)) := by
  refine g.pu (vf := v25) rfl rfl ?_
  simp only [v25, RW, RX, VOp.fresh, bxC, bsC, un, most, callsOf, seval, Int.reducePow, ↓reduceIte, Nat.reduceEqDiff, reduceCtorEq]
  refine (rbox_pu g hf).go (by simp [AV.tolds, AV.told, hf.told tRing]) ?_
  rintro _ (⟨ho, rfl⟩ | ⟨ho, rfl⟩)
  · simp only [aBx, RW, RX, VOp.fresh, bxC, bsC, un, most, callsOf, seval, Int.reducePow, ↓reduceIte, Nat.reduceEqDiff, reduceCtorEq]
    exact fun h => ho h.1
  · have hbo := fBox_ok ho
    simp only [aBx, RW, RX, VOp.fresh, bxC, bsC, un, most, callsOf, seval, Int.reducePow, ↓reduceIte, Nat.reduceEqDiff, reduceCtorEq]
    refine (rMap_pu g hv hu).go (by simp [AV.tolds, AV.told, hv.told tInt, hu.told tInt]) ?_
    rintro _ ⟨b, rfl, hb⟩
    cases b with
    | false =>
      simp only [RX, VOp.fresh, bxC, bsC, un, most, callsOf, seval, Int.reducePow, ↓reduceIte, Nat.reduceEqDiff, reduceCtorEq]
      exact fun h => by have := hb.2 h.2.1; cases this
    | true =>
      have ok : mpOk 8 m := hb.1 rfl
      simp only [RW, RX, VOp.fresh, bxC, bsC, un, most, callsOf, seval, Int.reducePow, ↓reduceIte, Nat.reduceEqDiff, reduceCtorEq]
      obtain ⟨hsep, _⟩ := bxCov_of hbo
      refine (dof_pu g _ _ _ _).go rfl ?_
      rintro _ (⟨no, _⟩ | ⟨_, rfl⟩)
      · exact absurd hbo no
      · simp only [RW, RX, VOp.fresh, bxC, bsC, un, most, callsOf, seval, Int.reducePow, ↓reduceIte, Nat.reduceEqDiff, reduceCtorEq]
        have hcv := hsep.is
        refine (rowners_pu g hv hu hcv).go (by simp [AV.tolds, AV.told, hv.told tInt, hu.told tInt, hcv.told tRg]) ?_
        rintro _ (⟨no, rfl⟩ | ⟨ok, _, W, y, hW, hy, rfl⟩)
        · exact absurd ⟨ok, hsep⟩ no
        · simp only [RX, VOp.fresh, bxC, bsC, un, most, callsOf, seval, Int.reducePow, ↓reduceIte, Nat.reduceEqDiff, reduceCtorEq]
          refine rin_loop g hy node W.length 0 _ _ _ _ (by omega) ?_ ?_ ?_ (fun hn t' => ?_) (fun t' hj t6 => ?_)
          · simp only [sg_set, Nat.reduceEqDiff, ↓reduceIte]
          · simp only [sg_set, Nat.reduceEqDiff, ↓reduceIte]
          · simp only [sg_set, Nat.reduceEqDiff, ↓reduceIte]
            rfl
          · simp only [RX, VOp.fresh, bxC, bsC, un, most, callsOf, seval, Int.reducePow, ↓reduceIte, Nat.reduceEqDiff, reduceCtorEq]
            exact fun h => hn ((hW.2 _).2 h.2.2)
          · simp only [t6, RX, VOp.fresh, bxC, bsC, un, most, callsOf, seval, Int.reducePow, ↓reduceIte, Nat.reduceEqDiff, reduceCtorEq]
            exact ⟨ho, ok, (hW.2 _).1 hj⟩
end
end Go.Proofs.Ythmkenkjfmbkiaa.VM
namespace Go.Proofs.Ythmkenkjfmbkiaa.VM
attribute [local irreducible] Af Nx EvO Ev Un Gd Cd EvR EvQ EvC Nc Gc Lp EvM NxM AfM GdM EvMR EvMQ EvMD EvMC Nm Gm
section
variable {P : Program} {m : Mp} {v u v' u' : AV} {nodes k a t : Int}
theorem ChErr.uniq {e e' : Int} (c : ChErr nodes m k a t e) (c' : ChErr nodes m k a t e') : e = e' := by
  rcases c with ⟨h1, rfl⟩ | ⟨h1, h2, rfl⟩ | ⟨h1, h2, rfl, _⟩ <;> rcases c' with ⟨k1, rfl⟩ | ⟨k1, k2, rfl⟩ | ⟨k1, k2, rfl, _⟩ <;> first | rfl | exact absurd k1 h1 | exact absurd h1 k1 | exact absurd k2 h2 | exact absurd h2 k2
end
end Go.Proofs.Ythmkenkjfmbkiaa.VM
namespace Go.Proofs.Ythmkenkjfmbkiaa.VM
attribute [local irreducible] Af Nx EvO Ev Un Gd Cd EvR EvQ EvC Nc Gc Lp EvM NxM AfM GdM EvMR EvMQ EvMD EvMC Nm Gm
theorem wC37 {c : List AV} (h : Ws [.int .i64, .int .i64, .int .i64] c) : ∃ k a t : Int, c = [.int .i64 k, .int .i64 a, .int .i64 t] ∧ I64 a ∧ I64 t := by
  cases h with | cons h1 t => cases t with | cons h2 t => cases t with | cons h3 t =>
    cases t; cases h1 with | int _ n1 w1 => cases h2 with | int _ n2 w2 => cases h3 with | int _ n3 w3 =>
      exact ⟨n1, n2, n3, rfl, i64_wf w2, i64_wf w3⟩
end Go.Proofs.Ythmkenkjfmbkiaa.VM
namespace Go.Proofs.Ythmkenkjfmbkiaa.VM
attribute [local irreducible] Af Nx EvO Ev Un Gd Cd EvR EvQ EvC Nc Gc Lp EvM NxM AfM GdM EvMR EvMQ EvMD EvMC Nm Gm
theorem trFeat : Tr RFeat 3 := ⟨zFeat, fun a c ⟨v, e, _, _, hv⟩ => by rw [e]; simp [List.all_cons, isL_one hv, one_int], tFeat⟩
/-- without an id -/
def woF (fs : List Feat) (x : Int) : List Feat := fs.filter fun f => decide (f.id ≠ x)
theorem woF_snoc (l : List Feat) (f : Feat) (x : Int) : woF (l ++ [f]) x = if f.id = x then woF l x else woF l x ++ [f] := by
  unfold woF
  rw [List.filter_append]
  by_cases h : f.id = x
  · rw [if_pos h, List.filter_cons_of_neg (by simpa using h), List.filter_nil, List.append_nil]
  · rw [if_neg h, List.filter_cons_of_pos (by simpa using h), List.filter_nil]
/-- an element of a live row -/
theorem RowT.look {h : Heap} {w : AV} {fs : List Feat} (r : RowT RFeat 3 h w fs) {i : Nat} (hi : i < fs.length) : ∃ b e ver cs va, b ∈ blkOf w ∧ h.get b = some (.cells cs e ver) ∧ I64 fs[i].id ∧ I64 fs[i].shape ∧ IsL 24 RRing va fs[i].rings ∧ (∀ (hh : Heap) (kk : IntKind), iaV hh 3 none w (.int kk (i : Int)) = .val (.ptr b (i * 3)) hh) ∧
    part false cs (i * 3) 1 = some (.int .i64 fs[i].id) ∧ part true cs (i * 3) 3 = some (.agg [.int .i64 fs[i].id, .int .i64 fs[i].shape, va]) := by
  obtain ⟨cs, r, hc⟩ := r
  obtain ⟨b, e, ver, rfl, hg, hb, hia⟩ := r.at hi
  obtain ⟨ci, rr, ed, va, rfl, i1, i2, i3⟩ := hc.at zFeat i hi
  refine ⟨b, e, ver, cs, va, by simp [blkOf], hg, i1, i2, i3, hia, ?_, part3 ed⟩
  have : VM.cut cs (i * 3) 1 = some [.int .i64 fs[i].id] := by rw [cut_eq, ed]; rfl
  simp only [part, this]
  rfl
section
variable {P : Program}
theorem wo_loop (g : Pg P tab) {fs : List Feat} {w : AV} {h0 : Heap} (hw : RowT RFeat 3 h0 w fs) (hsm : fs.length ≤ 1000) (x : Int) (n : Nat) :
    ∀ (i : Nat) (t : T AV) (h : Heap) (k : List Fr) (Q : Ex → T AV → Heap → Prop), i + n = fs.length → Ext h0 h → RowT RFeat 3 h (sg t 5) (woF (fs.take i) x) → (∀ b ∈ blkOf (sg t 5), h0.next ≤ b) → sg t 0 = w → sg t 1 = .int .i64 x → sg t 6 = .int .i64 i →
    (∀ t' h', Ext h0 h' → RowT RFeat 3 h' (sg t' 5) (woF fs x) → (∀ b ∈ blkOf (sg t' 5), h0.next ≤ b) → Un P k Q (.exit 0) t' h') → Lp P b51_0 t h (Un P k Q) := by
  induction n with
  | zero =>
    intro i t h k Q hn x0 r hb t0 t1 t6 hQ
    refine g.lpe b51_0.eq_1 ?_
    have c1 : ¬ ((i : Int) < (fs.length : Int)) := by omega
    simp only [t0, t6, hw.len, c1, RX, VOp.fresh, bxC, bsC, un, most, callsOf, seval, Int.reducePow, ↓reduceIte, Nat.reduceEqDiff, reduceCtorEq]
    rw [List.take_of_length_le (by omega)] at r
    refine hQ _ _ x0 ?_ ?_
    · simp only [sg_set, Nat.reduceEqDiff, ↓reduceIte]
      exact r
    · simp only [sg_set, Nat.reduceEqDiff, ↓reduceIte]
      exact hb
  | succ n ih =>
    intro i t h k Q hn x0 r hb t0 t1 t6 hQ
    refine g.lpe b51_0.eq_1 ?_
    have c1 : ((i : Int) < (fs.length : Int)) := by omega
    have w1 : IntKind.i64.wrap ((i : Int) + 1) = ((i + 1 : Nat) : Int) := by rw [w64 (by omega) (by omega)]; push_cast; rfl
    obtain ⟨bw, ew, vw, cs, va, hbw, hgw, i1, i2, i3, hia, pt1, pt3⟩ := (hw.ext x0).look (i := i) (by omega)
    have ova := isL_one i3
    have hs : fs.take (i + 1) = fs.take i ++ [fs[i]] := List.take_succ_eq_append_getElem (by omega)
    by_cases hid : fs[i].id = x
    · simp only [t0, t1, t6, hw.len, c1, hia, hgw, pt1, pt3, hid, w1, RX, VOp.fresh, bxC, bsC, un, most, callsOf, seval, Int.reducePow, ↓reduceIte, Nat.reduceEqDiff, reduceCtorEq]
      refine ih (i + 1) _ h k Q (by omega) x0 ?_ ?_ ?_ ?_ ?_ hQ
      · simp only [sg_set, Nat.reduceEqDiff, ↓reduceIte]
        rw [hs, woF_snoc, if_pos hid]
        exact r
      · simp only [sg_set, Nat.reduceEqDiff, ↓reduceIte]
        exact hb
      · simp only [t0, sg_set, Nat.reduceEqDiff, ↓reduceIte]
      · simp only [t1, sg_set, Nat.reduceEqDiff, ↓reduceIte]
      · simp only [sg_set, Nat.reduceEqDiff, ↓reduceIte]
    · have hl : (woF (fs.take i) x).length ≤ fs.length := Nat.le_trans (List.length_filter_le _ _) (by rw [List.length_take]; omega)
      have e1 := Ext.mk (h := h) (.cells [.int .i64 fs[i].id, .int .i64 fs[i].shape, va] 50 0)
      have n1 : (h.mk' h.next (.cells [.int .i64 fs[i].id, .int .i64 fs[i].shape, va] 50 0)).next = h.next + 1 := by rw [mk_next]; omega
      obtain ⟨h2, p2, r2, n2, k2⟩ := (r.ext e1).push trFeat (a := fs[i]) (c := [.int .i64 fs[i].id, .int .i64 fs[i].shape, va]) ⟨va, rfl, i1, i2, i3⟩ (nb := h.next) (eb := 50) (vb := 0) (by rw [Heap.get_mk, if_pos rfl]) (bytes := 40) (by unfold most2; omega) 50
      rw [n1] at p2 r2 n2 k2
      have x2 : Ext h0 h2 := ⟨by have := x0.1; omega, fun b hb0 => by
        have h1 := x0.1
        rw [k2 b (fun hc => by have := hb b hc; omega) (by omega), e1.2 b (by omega)]
        exact x0.2 b hb0⟩
      simp only [t0, t1, t6, hw.len, c1, hia, hgw, pt1, pt3, hid, ova, p2, w1, HN, RW, RX, VOp.fresh, bxC, bsC, un, most, callsOf, seval, Int.reducePow, ↓reduceIte, Nat.reduceEqDiff, reduceCtorEq]
      refine ih (i + 1) _ h2 k Q (by omega) x2 ?_ ?_ ?_ ?_ ?_ hQ
      · simp only [sg_set, Nat.reduceEqDiff, ↓reduceIte]
        rw [hs, woF_snoc, if_neg hid]
        exact r2
      · simp only [sg_set, Nat.reduceEqDiff, ↓reduceIte]
        intro b hb2
        simp only [blkOf, List.mem_singleton] at hb2
        have := x0.1
        omega
      · simp only [t0, sg_set, Nat.reduceEqDiff, ↓reduceIte]
      · simp only [t1, sg_set, Nat.reduceEqDiff, ↓reduceIte]
      · simp only [sg_set, Nat.reduceEqDiff, ↓reduceIte]
theorem wo_cl (g : Pg P tab) {fs : List Feat} {w : AV} {h : Heap} (hw : RowT RFeat 3 h w fs) (hsm : fs.length ≤ 1000) (x : Int) {Q : AV → Heap → Prop} (q : ∀ v h', Ext h h' → RowT RFeat 3 h' v (woF fs x) → (∀ b ∈ blkOf v, h.next ≤ b) → Q v h') : Cl P 51 [w, .int .i64 x] h Q := by
  refine g.cl (vf := v51) rfl rfl ?_
  simp only [v51, RX, VOp.fresh, bxC, bsC, un, most, callsOf, seval, Int.reducePow, ↓reduceIte, Nat.reduceEqDiff, reduceCtorEq]
  refine wo_loop g hw hsm x fs.length 0 _ h _ _ (by omega) (Ext.refl h) ?_ ?_ ?_ ?_ ?_ fun t' h' x' r hb => ?_
  · simp only [sg_set, Nat.reduceEqDiff, ↓reduceIte]
    exact RowT.nil h
  · simp only [sg_set, Nat.reduceEqDiff, ↓reduceIte]
    simp [blkOf]
  · simp only [sg_set, Nat.reduceEqDiff, ↓reduceIte]
  · simp only [sg_set, Nat.reduceEqDiff, ↓reduceIte]
  · simp only [sg_set, Nat.reduceEqDiff, ↓reduceIte]
    rfl
  · simp only [RX, VOp.fresh, bxC, bsC, un, most, callsOf, seval, Int.reducePow, ↓reduceIte, Nat.reduceEqDiff, reduceCtorEq]
    exact q _ _ x' r hb
end
/-- with one, in its place -/
def wiStep (f : Feat) (s : List Feat × Bool) (y : Feat) : List Feat × Bool :=
  let o := if s.2 = false ∧ f.id ≤ y.id then s.1 ++ [f] else s.1
  (if y.id = f.id then o else o ++ [y], s.2 || decide (f.id ≤ y.id))
def wiS (fs : List Feat) (f : Feat) : List Feat × Bool := fs.foldl (wiStep f) ([], false)
def wiF (fs : List Feat) (f : Feat) : List Feat := if (wiS fs f).2 then (wiS fs f).1 else (wiS fs f).1 ++ [f]
theorem wiS_snoc (l : List Feat) (f y : Feat) : wiS (l ++ [y]) f = wiStep f (wiS l f) y := by simp [wiS]
theorem wiS_len (l : List Feat) (f : Feat) : (wiS l f).1.length + (if (wiS l f).2 then 0 else 1) ≤ l.length + 1 := by
  unfold wiS
  have : ∀ (l : List Feat) (s : List Feat × Bool), (l.foldl (wiStep f) s).1.length + (if (l.foldl (wiStep f) s).2 then 0 else 1) ≤ s.1.length + (if s.2 then 0 else 1) + l.length := by
    intro l
    induction l with
    | nil => intro s; exact Nat.le_refl _
    | cons y l ih =>
      intro s
      have := ih (wiStep f s y)
      rw [List.foldl_cons, List.length_cons]
      have h2 : (wiStep f s y).1.length + (if (wiStep f s y).2 then 0 else 1) ≤ s.1.length + (if s.2 then 0 else 1) + 1 := by
        obtain ⟨o, d⟩ := s
        by_cases a : f.id ≤ y.id <;> by_cases b : y.id = f.id <;> cases d <;> simp [wiStep, a, b]
      omega
  have h := this l ([], false)
  simp only [List.length_nil, Bool.false_eq_true, if_false] at h
  rw [Nat.zero_add, Nat.add_comm 1] at h
  exact h
section
variable {P : Program}
theorem wi_loop (g : Pg P tab) {fs : List Feat} {w : AV} {h0 : Heap} (hw : RowT RFeat 3 h0 w fs) (hsm : fs.length ≤ 1000) {f : Feat} {fv : AV} (hf : RFeat f [.int .i64 f.id, .int .i64 f.shape, fv]) {X : Nat} {e0 v0 : Nat} (hX0 : h0.get X = some (.cells [.int .i64 f.id, .int .i64 f.shape, fv] e0 v0)) (hXn : X < h0.next) (n : Nat) :
    ∀ (i : Nat) (t : T AV) (h : Heap) (k : List Fr) (Q : Ex → T AV → Heap → Prop), i + n = fs.length → Ext h0 h → (∀ b ∈ blkOf (sg t 5), h0.next ≤ b) → RowT RFeat 3 h (sg t 5) (wiS (fs.take i) f).1 → sg t 0 = w → sg t 3 = .ptr X 0 → sg t 6 = .bool (wiS (fs.take i) f).2 → sg t 7 = .int .i64 i →
    (∀ t' h', Ext h0 h' → (∀ b ∈ blkOf (sg t' 5), h0.next ≤ b) → RowT RFeat 3 h' (sg t' 5) (wiS fs f).1 → sg t' 3 = .ptr X 0 → sg t' 6 = .bool (wiS fs f).2 → Un P k Q (.exit 0) t' h') → Lp P b52_0 t h (Un P k Q) := by
  have one_push : ∀ {h : Heap} {v : AV} {l : List Feat} {y : Feat} {yv : AV}, RowT RFeat 3 h v l → RFeat y [.int .i64 y.id, .int .i64 y.shape, yv] → l.length ≤ 1000 → Ext h0 h → (∀ b ∈ blkOf v, h0.next ≤ b) →
      ∃ h2 v2, appendV (h.mk' h.next (.cells [.int .i64 y.id, .int .i64 y.shape, yv] 50 0)) 3 40 50 v (.sl h.next 0 1 1 3) = some (v2, h2) ∧ RowT RFeat 3 h2 v2 (l ++ [y]) ∧ Ext h0 h2 ∧ ∀ b ∈ blkOf v2, h0.next ≤ b := by
    intro h v l y yv r hy hl x0 hb
    have e1 := Ext.mk (h := h) (.cells [.int .i64 y.id, .int .i64 y.shape, yv] 50 0)
    have n1 : (h.mk' h.next (.cells [.int .i64 y.id, .int .i64 y.shape, yv] 50 0)).next = h.next + 1 := by rw [mk_next]; omega
    obtain ⟨h2, p2, r2, n2, k2⟩ := (r.ext e1).push trFeat (a := y) (c := [.int .i64 y.id, .int .i64 y.shape, yv]) hy (nb := h.next) (eb := 50) (vb := 0) (by rw [Heap.get_mk, if_pos rfl]) (bytes := 40) (by unfold most2; omega) 50
    rw [n1] at p2 r2 n2 k2
    have h1 := x0.1
    refine ⟨h2, _, p2, r2, ⟨by omega, fun b hb0 => ?_⟩, fun b hb2 => by simp only [blkOf, List.mem_singleton] at hb2; omega⟩
    rw [k2 b (fun hc => by have := hb b hc; omega) (by omega), e1.2 b (by omega)]
    exact x0.2 b hb0
  induction n with
  | zero =>
    intro i t h k Q hn x0 hb r t0 t3 t6 t7 hQ
    refine g.lpe b52_0.eq_1 ?_
    have c1 : ¬ ((i : Int) < (fs.length : Int)) := by omega
    simp only [t0, t7, hw.len, c1, RX, VOp.fresh, bxC, bsC, un, most, callsOf, seval, Int.reducePow, ↓reduceIte, Nat.reduceEqDiff, reduceCtorEq]
    rw [List.take_of_length_le (by omega)] at r t6
    refine hQ _ _ x0 ?_ ?_ ?_ ?_
    · simp only [sg_set, Nat.reduceEqDiff, ↓reduceIte]
      exact hb
    · simp only [sg_set, Nat.reduceEqDiff, ↓reduceIte]
      exact r
    · simp only [t3, sg_set, Nat.reduceEqDiff, ↓reduceIte]
    · simp only [t6, sg_set, Nat.reduceEqDiff, ↓reduceIte]
  | succ n ih =>
    intro i t h k Q hn x0 hb r t0 t3 t6 t7 hQ
    refine g.lpe b52_0.eq_1 ?_
    have c1 : ((i : Int) < (fs.length : Int)) := by omega
    have w1 : IntKind.i64.wrap ((i : Int) + 1) = ((i + 1 : Nat) : Int) := by rw [w64 (by omega) (by omega)]; push_cast; rfl
    have hg := (x0.2 X hXn).trans hX0
    obtain ⟨bw, ew, vw, cs, va, hbw, hgw0, i1, i2, i3, hia, pt1, pt3⟩ := hw.look (i := i) (by omega)
    have hbl := hw.lt _ hbw
    have hgw := (x0.2 bw hbl).trans hgw0
    have ova := isL_one i3
    obtain ⟨fv2, ef, f1, f2, f3⟩ := hf
    obtain rfl : fv = fv2 := by simpa using ef
    have ofv := isL_one f3
    have hs : fs.take (i + 1) = fs.take i ++ [fs[i]] := List.take_succ_eq_append_getElem (by omega)
    have hlen := wiS_len (fs.take i) f
    have hti : (fs.take i).length = i := by rw [List.length_take]; omega
    rw [hti] at hlen
    have hst := wiS_snoc (fs.take i) f fs[i]
    rw [← hs] at hst
    generalize hS : wiS (fs.take i) f = S at *
    obtain ⟨o, d⟩ := S
    simp only at hlen r t6
    have ho : o.length ≤ i + 1 := by omega
    have fin : ∀ (t' : T AV) (h' : Heap), Ext h0 h' → (∀ b ∈ blkOf (sg t' 5), h0.next ≤ b) → RowT RFeat 3 h' (sg t' 5) (wiS (fs.take (i + 1)) f).1 → sg t' 0 = w → sg t' 3 = .ptr X 0 → sg t' 6 = .bool (wiS (fs.take (i + 1)) f).2 → sg t' 7 = .int .i64 ((i + 1 : Nat) : Int) → Lp P b52_0 t' h' (Un P k Q) :=
      fun t' h' a1 a2 a3 a4 a5 a6 a7 => ih (i + 1) t' h' k Q (by omega) a1 a2 a3 a4 a5 a6 a7 hQ
    clear ih
    have rf : RFeat f [.int .i64 f.id, .int .i64 f.shape, fv] := ⟨fv, rfl, f1, f2, f3⟩
    have ry : RFeat fs[i] [.int .i64 fs[i].id, .int .i64 fs[i].shape, va] := ⟨va, rfl, i1, i2, i3⟩
    have skip : d = true ∨ (d = false ∧ ¬ f.id ≤ fs[i].id) ∨ d = false ∧ f.id ≤ fs[i].id := by
      cases d
      · by_cases h : f.id ≤ fs[i].id
        · exact .inr (.inr ⟨rfl, h⟩)
        · exact .inr (.inl ⟨rfl, h⟩)
      · exact .inl rfl
    rcases skip with rfl | ⟨rfl, hge⟩ | ⟨rfl, hge⟩
    · by_cases hid : fs[i].id = f.id
      · have e2 : wiS (fs.take (i + 1)) f = (o, true) := by rw [hst]; simp [wiStep, hid]
        rw [e2] at fin
        simp only [t0, t3, t6, t7, hw.len, c1, hia, hgw, pt1, pt3, hid, hg, w1, HN, RW, RX, VOp.fresh, bxC, bsC, un, most, callsOf, seval, Int.reducePow, ↓reduceIte, Nat.reduceEqDiff, reduceCtorEq]
        refine fin _ h x0 ?_ ?_ ?_ ?_ ?_ ?_
        · simp only [sg_set, Nat.reduceEqDiff, ↓reduceIte]
          exact hb
        · simp only [sg_set, Nat.reduceEqDiff, ↓reduceIte]
          exact r
        · simp only [t0, sg_set, Nat.reduceEqDiff, ↓reduceIte]
        · simp only [t3, sg_set, Nat.reduceEqDiff, ↓reduceIte]
        · simp only [t6, sg_set, Nat.reduceEqDiff, ↓reduceIte]
        · simp only [sg_set, Nat.reduceEqDiff, ↓reduceIte]
      · have e2 : wiS (fs.take (i + 1)) f = (o ++ [fs[i]], true) := by rw [hst]; simp [wiStep, hid]
        rw [e2] at fin
        obtain ⟨h2, v2, p2, r2, x2, nb2⟩ := one_push r ry (by omega) x0 hb
        simp only [t0, t3, t6, t7, hw.len, c1, hia, hgw, pt1, pt3, hid, hg, ova, p2, w1, HN, RW, RX, VOp.fresh, bxC, bsC, un, most, callsOf, seval, Int.reducePow, ↓reduceIte, Nat.reduceEqDiff, reduceCtorEq]
        refine fin _ h2 x2 ?_ ?_ ?_ ?_ ?_ ?_
        · simp only [sg_set, Nat.reduceEqDiff, ↓reduceIte]
          exact nb2
        · simp only [sg_set, Nat.reduceEqDiff, ↓reduceIte]
          exact r2
        · simp only [t0, sg_set, Nat.reduceEqDiff, ↓reduceIte]
        · simp only [t3, sg_set, Nat.reduceEqDiff, ↓reduceIte]
        · simp only [t6, sg_set, Nat.reduceEqDiff, ↓reduceIte]
        · simp only [sg_set, Nat.reduceEqDiff, ↓reduceIte]
    · have hid : ¬ fs[i].id = f.id := by omega
      have e2 : wiS (fs.take (i + 1)) f = (o ++ [fs[i]], false) := by rw [hst]; simp [wiStep, hid, hge]
      rw [e2] at fin
      obtain ⟨h2, v2, p2, r2, x2, nb2⟩ := one_push r ry (by omega) x0 hb
      simp only [t0, t3, t6, t7, hw.len, c1, hia, hgw, pt1, pt3, hid, hge, hg, ova, p2, w1, HN, RW, RX, VOp.fresh, bxC, bsC, un, most, callsOf, seval, Int.reducePow, ↓reduceIte, Nat.reduceEqDiff, reduceCtorEq]
      refine fin _ h2 x2 ?_ ?_ ?_ ?_ ?_ ?_
      · simp only [sg_set, Nat.reduceEqDiff, ↓reduceIte]
        exact nb2
      · simp only [sg_set, Nat.reduceEqDiff, ↓reduceIte]
        exact r2
      · simp only [t0, sg_set, Nat.reduceEqDiff, ↓reduceIte]
      · simp only [t3, sg_set, Nat.reduceEqDiff, ↓reduceIte]
      · simp only [t6, sg_set, Nat.reduceEqDiff, ↓reduceIte]
      · simp only [sg_set, Nat.reduceEqDiff, ↓reduceIte]
    · simp only [Bool.false_eq_true, if_false] at hlen
      obtain ⟨h2, v2, p2, r2, x2, nb2⟩ := one_push r rf (by omega) x0 hb
      have hg2 := (x2.2 X hXn).trans hX0
      have hgw2 := (x2.2 bw hbl).trans hgw0
      by_cases hid : fs[i].id = f.id
      · have e2 : wiS (fs.take (i + 1)) f = (o ++ [f], true) := by rw [hst]; simp [wiStep, hge, hid]
        rw [e2] at fin
        have hge' := Int.le_refl f.id
        simp only [t0, t3, t6, t7, hw.len, c1, hia, hgw, hgw2, pt1, pt3, hid, hge', hg, ofv, p2, hg2, w1, HN, RW, RX, VOp.fresh, bxC, bsC, un, most, callsOf, seval, Int.reducePow, ↓reduceIte, Nat.reduceEqDiff, reduceCtorEq]
        refine fin _ h2 x2 ?_ ?_ ?_ ?_ ?_ ?_
        · simp only [sg_set, Nat.reduceEqDiff, ↓reduceIte]
          exact nb2
        · simp only [sg_set, Nat.reduceEqDiff, ↓reduceIte]
          exact r2
        · simp only [t0, sg_set, Nat.reduceEqDiff, ↓reduceIte]
        · simp only [t3, sg_set, Nat.reduceEqDiff, ↓reduceIte]
        · simp only [sg_set, Nat.reduceEqDiff, ↓reduceIte]
        · simp only [sg_set, Nat.reduceEqDiff, ↓reduceIte]
      · have e2 : wiS (fs.take (i + 1)) f = (o ++ [f] ++ [fs[i]], true) := by rw [hst]; simp [wiStep, hge, hid]
        rw [e2] at fin
        obtain ⟨h3, v3, p3, r3, x3, nb3⟩ := one_push r2 ry (by rw [List.length_append, List.length_singleton]; omega) x2 nb2
        simp only [t0, t3, t6, t7, hw.len, c1, hia, hgw, hgw2, pt1, pt3, hid, hge, hg, ofv, ova, p2, hg2, p3, w1, HN, RW, RX, VOp.fresh, bxC, bsC, un, most, callsOf, seval, Int.reducePow, ↓reduceIte, Nat.reduceEqDiff, reduceCtorEq]
        refine fin _ h3 x3 ?_ ?_ ?_ ?_ ?_ ?_
        · simp only [sg_set, Nat.reduceEqDiff, ↓reduceIte]
          exact nb3
        · simp only [sg_set, Nat.reduceEqDiff, ↓reduceIte]
          exact r3
        · simp only [t0, sg_set, Nat.reduceEqDiff, ↓reduceIte]
        · simp only [t3, sg_set, Nat.reduceEqDiff, ↓reduceIte]
        · simp only [sg_set, Nat.reduceEqDiff, ↓reduceIte]
        · simp only [sg_set, Nat.reduceEqDiff, ↓reduceIte]
theorem wi_cl (g : Pg P tab) {fs : List Feat} {w : AV} {h : Heap} (hw : RowT RFeat 3 h w fs) (hsm : fs.length ≤ 900) {f : Feat} {c : List AV} (hf : RFeat f c) {Q : AV → Heap → Prop} (q : ∀ v h', Ext h h' → RowT RFeat 3 h' v (wiF fs f) → (∀ b ∈ blkOf v, h.next ≤ b) → Q v h') : Cl P 52 [w, .agg c] h Q := by
  obtain ⟨fv, rfl, f1, f2, f3⟩ := hf
  have rf : RFeat f [.int .i64 f.id, .int .i64 f.shape, fv] := ⟨fv, rfl, f1, f2, f3⟩
  have ofv := isL_one f3
  refine g.cl (vf := v52) rfl rfl ?_
  have hlen := wiS_len fs f
  simp only [v52, ofv, HN, RW, RX, VOp.fresh, bxC, bsC, un, most, callsOf, seval, Int.reducePow, ↓reduceIte, Nat.reduceEqDiff, reduceCtorEq]
  have x1 := Ext.mk (h := h) (.cells [.int .i64 f.id, .int .i64 f.shape, fv] 50 0)
  have n1 : (h.mk' h.next (.cells [.int .i64 f.id, .int .i64 f.shape, fv] 50 0)).next = h.next + 1 := by rw [mk_next]; omega
  refine wi_loop g (hw.ext x1) (by omega) rf (X := h.next) (e0 := 50) (v0 := 0) (by rw [Heap.get_mk, if_pos rfl]) (by omega) fs.length 0 _ _ _ _ (by omega) (Ext.refl _) ?_ ?_ ?_ ?_ ?_ ?_ fun t' h' x2 nb r t3 t6 => ?_
  · simp only [sg_set, Nat.reduceEqDiff, ↓reduceIte]
    simp [blkOf]
  · simp only [sg_set, Nat.reduceEqDiff, ↓reduceIte]
    exact RowT.nil _
  · simp only [sg_set, Nat.reduceEqDiff, ↓reduceIte]
  · simp only [sg_set, Nat.reduceEqDiff, ↓reduceIte]
  · simp only [sg_set, Nat.reduceEqDiff, ↓reduceIte]
    rfl
  · simp only [sg_set, Nat.reduceEqDiff, ↓reduceIte]
    rfl
  · have g2 : h'.get h.next = some (.cells [.int .i64 f.id, .int .i64 f.shape, fv] 50 0) := (x2.2 _ (by omega)).trans (by rw [Heap.get_mk, if_pos rfl])
    unfold wiF at q
    cases hd : (wiS fs f).2 with
    | true =>
      rw [hd] at t6 q
      simp only [t6, HN, RW, RX, VOp.fresh, bxC, bsC, un, most, callsOf, seval, Int.reducePow, ↓reduceIte, Nat.reduceEqDiff, reduceCtorEq]
      exact q _ _ (x1.trans x2) r fun b hb => by have := nb b hb; omega
    | false =>
      rw [hd] at t6 q
      have n3 : (h'.mk' h'.next (.cells [.int .i64 f.id, .int .i64 f.shape, fv] 50 0)).next = h'.next + 1 := by rw [mk_next]; omega
      have e3 := Ext.mk (h := h') (.cells [.int .i64 f.id, .int .i64 f.shape, fv] 50 0)
      obtain ⟨h2, p2, r2, n2, k2⟩ := (r.ext e3).push trFeat (a := f) (c := [.int .i64 f.id, .int .i64 f.shape, fv]) rf (nb := h'.next) (eb := 50) (vb := 0) (by rw [Heap.get_mk, if_pos rfl]) (bytes := 40) (by unfold most2; omega) 50
      rw [n3] at p2 r2 n2 k2
      simp only [t6, t3, g2, ofv, p2, HN, RW, RX, VOp.fresh, bxC, bsC, un, most, callsOf, seval, Int.reducePow, ↓reduceIte, Nat.reduceEqDiff, reduceCtorEq]
      have l1 := x2.1
      refine q _ _ ⟨by omega, fun b hb => ?_⟩ r2 fun b hb => by simp only [blkOf, List.mem_singleton] at hb; omega
      rw [k2 b (fun hc => by have := nb b hc; omega) (by omega), e3.2 b (by omega), x2.2 b (by omega), x1.2 b hb]
end
end Go.Proofs.Ythmkenkjfmbkiaa.VM
namespace Go.Proofs.Ythmkenkjfmbkiaa.VM
attribute [local irreducible] Af Nx EvO Ev Un Gd Cd EvR EvQ EvC Nc Gc Lp EvM NxM AfM GdM EvMR EvMQ EvMD EvMC Nm Gm
/-- a store in memory -/
def SS (h : Heap) (X : Nat) (node nodes : Int) (m : Mp) (fs : List Feat) : Prop :=
  ∃ e ver v u w, h.get X = some (.cells [.int .i64 node, .int .i64 nodes, .int .i64 m.epoch, v, u, w] e ver) ∧ IsL 8 RInt v m.starts ∧ IsL 8 RInt u m.owners ∧ RowT RFeat 3 h w fs ∧ X ∉ blkOf w ∧ X < h.next
theorem SS.ext {h h' : Heap} {X : Nat} {node nodes : Int} {m : Mp} {fs : List Feat} (s : SS h X node nodes m fs) (x : Ext h h') : SS h' X node nodes m fs := by
  obtain ⟨e, ver, v, u, w, a1, a2, a3, a4, a5, a6⟩ := s
  exact ⟨e, ver, v, u, w, (x.2 X a6).trans a1, a2, a3, a4.ext x, a5, Nat.lt_of_lt_of_le a6 x.1⟩
/-- operations, told or not -/
def OpsV (h : Heap) (w : AV) (l : List Op) : Prop := (∀ hh, lnV hh w = .val (.int .i64 l.length) hh) ∧ (∀ b ∈ blkOf w, b < h.next) ∧ (∃ w', Fz true h w w' ∧ IsL 112 ROp w' l) ∧
  ∀ i, i < l.length → ∃ p c, ROp (l.getD i op0) c ∧ ∀ h', (∀ b ∈ blkOf w, h'.get b = h.get b) → (∀ kk, iaV h' 8 none w (.int kk (i : Int)) = .val p h') ∧ ldV true 8 h' p = .val (.agg c) h'
theorem OpsV.told {h : Heap} {w : AV} {l : List Op} (hw : IsL 112 ROp w l) : OpsV h w l := by
  refine ⟨hw.len, ?_, ⟨w, Fz.refl (hw.told tOp), hw⟩, fun i hi => ?_⟩
  · rcases hw.2 with ⟨rfl, _⟩ | ⟨c, rfl, _⟩ <;> intro b hb <;> simp [blkOf] at hb
  · obtain ⟨c, r, hc, _, _, hat⟩ := getOp hw i hi
    refine ⟨_, c, hc, fun h' _ => ⟨fun kk => hat h' kk, ?_⟩⟩
    rw [ldV_rp]
    have : VM.cut (c ++ r) 0 8 = some c := by rw [cut_eq, List.drop_zero, List.take_left' (zOp _ _ hc), if_pos (zOp _ _ hc)]
    simp only [part, this, if_true]
    rfl
/-- one operation in a block of its own -/
theorem OpsV.one {h : Heap} {b e ver : Nat} {o : Op} {c : List AV} (hc : ROp o c) (hb : b < h.next) (hg : h.get b = some (.cells c e ver)) : OpsV h (.sl b 0 1 1 8) [o] := by
  have hl := zOp _ _ hc
  have hcut : VM.cut c 0 8 = some c := by rw [cut_eq, List.drop_zero, List.take_of_length_le (by omega), if_pos hl]
  refine ⟨fun hh => rfl, by simpa [blkOf] using hb, ⟨.rs c 1, .sl (by decide) hg hcut (Fzs.refl (tOp _ _ hc)), ?_⟩, fun i hi => ?_⟩
  · have := isL_rs (b := 112) (Cat.cons hc (Cat.nil (R := ROp))) (by simp [reach_eq])
    simpa using this
  · have hi0 : i = 0 := by simp at hi; omega
    subst hi0
    refine ⟨.ptr b 0, c, hc, fun h' hk => ⟨fun kk => rfl, ?_⟩⟩
    rw [ldV_ptr, hk b (by simp [blkOf]), hg, ldB_some]
    simp only [part, hcut, if_true]
    rfl
theorem OpsV.frame {h h' : Heap} {w : AV} {l : List Op} (o : OpsV h w l) (hx : ∀ b ∈ blkOf w, h'.get b = h.get b) (hn : h.next ≤ h'.next) (hf : ∃ w', Fz true h' w w' ∧ IsL 112 ROp w' l) : OpsV h' w l :=
  ⟨o.1, fun b hb => Nat.lt_of_lt_of_le (o.2.1 b hb) hn, hf, fun i hi => by
    obtain ⟨p, c, hc, k⟩ := o.2.2.2 i hi
    exact ⟨p, c, hc, fun h2 hk => k h2 fun b hb => (hk b hb).trans (hx b hb)⟩⟩
/-- may operations be, and their map -/
def fitP (nodes : Int) (l : List Op) : Prop := opsOk 8 l ∧ ((l.getD 0 op0).kind = 2 → mpOk nodes (l.getD 0 op0).m)
open Classical in
noncomputable def putS (m : Mp) (node : Int) (fs : List Feat) (f : Feat) : List Feat := if HoldsP m node f then wiF (woF fs f.id) f else woF fs f.id
open Classical in
noncomputable def keepS (m : Mp) (node : Int) (fs : List Feat) : List Feat := fs.filter fun f => decide (HoldsP m node f)
noncomputable def stS (node : Int) (s : Mp × List Feat) (o : Op) : Mp × List Feat :=
  if o.kind = 0 then (s.1, putS s.1 node s.2 o.f) else if o.kind = 1 then (s.1, woF s.2 o.id) else (o.m, keepS o.m node s.2)
theorem woF_len (fs : List Feat) (x : Int) : (woF fs x).length ≤ fs.length := List.length_filter_le _ _
theorem wiF_len (fs : List Feat) (f : Feat) : (wiF fs f).length ≤ fs.length + 1 := by
  have := wiS_len fs f
  unfold wiF
  cases h : (wiS fs f).2 <;> simp [h] at this ⊢ <;> omega
theorem keepS_len (m : Mp) (node : Int) (fs : List Feat) : (keepS m node fs).length ≤ fs.length := List.length_filter_le _ _
theorem stS_len (node : Int) (s : Mp × List Feat) (o : Op) : (stS node s o).2.length ≤ s.2.length + 1 := by
  unfold stS putS
  have h1 := woF_len s.2 o.f.id
  have h2 := woF_len s.2 o.id
  have h3 := keepS_len o.m node s.2
  have h4 := wiF_len (woF s.2 o.f.id) o.f
  split
  · simp only
    split <;> omega
  · split <;> simp only <;> omega
theorem keepS_snoc (m : Mp) (node : Int) (l : List Feat) (f : Feat) : (HoldsP m node f → keepS m node (l ++ [f]) = keepS m node l ++ [f]) ∧ (¬ HoldsP m node f → keepS m node (l ++ [f]) = keepS m node l) := by
  unfold keepS
  rw [List.filter_append]
  refine ⟨fun h => ?_, fun h => ?_⟩
  · rw [List.filter_cons_of_pos (by simpa using h), List.filter_nil]
  · rw [List.filter_cons_of_neg (by simpa using h), List.filter_nil, List.append_nil]
section
variable {P : Program}
theorem newStore_cl (g : Pg P tab) {m : Mp} {v u : AV} (hv : IsL 8 RInt v m.starts) (hu : IsL 8 RInt u m.owners) {node nodes : Int} (ok : mpOk nodes m) (h0 : 0 ≤ node) (hn : node < nodes) {h : Heap} {Q : AV → Heap → Prop}
    (q : ∀ X h', Ext h h' → h.next ≤ X → SS h' X node nodes m [] → Q (.tup [.ptr X 0, .int .i64 0]) h') : Cl P 23 [.int .i64 node, .int .i64 nodes, .agg [.int .i64 m.epoch, v, u]] h Q := by
  refine g.cl (vf := v23) rfl rfl ?_
  have ov := isL_one hv
  have ou := isL_one hu
  simp only [v23, ov, ou, HN, RW, RX, VOp.fresh, bxC, bsC, un, most, callsOf, seval, Int.reducePow, ↓reduceIte, Nat.reduceEqDiff, reduceCtorEq]
  refine (rMap_pu g hv hu).go (by simp [AV.tolds, AV.told, hv.told tInt, hu.told tInt]) ?_
  rintro _ ⟨b, rfl, hb⟩
  obtain rfl : b = true := hb.2 ok
  have c1 : ¬ node < 0 := by omega
  have c2 : ¬ nodes ≤ node := by omega
  simp only [c1, c2, ov, ou, HN, RW, RX, VOp.fresh, bxC, bsC, un, most, callsOf, seval, Int.reducePow, ↓reduceIte, Nat.reduceEqDiff, reduceCtorEq]
  have x0 := Ext.mk (h := h) (.cells [.int .i64 m.epoch, v, u] 24 0)
  refine q _ _ (x0.mkn (b := h.next + 1) (by omega) _) (by omega) ⟨_, _, v, u, .nils, by rw [Heap.get_mk, if_pos rfl], hv, hu, RowT.nil _, by simp [blkOf], ?_⟩
  rw [mk_next, mk_next]
  omega
theorem mapOf_pu (g : Pg P tab) {l : List Op} {w : AV} (hw : IsL 112 ROp w l) : Pu P 55 [w] (IsB (1 ≤ l.length ∧ (l.getD 0 op0).kind = 2)) := by
  refine g.pu (vf := v55) rfl rfl ?_
  by_cases h0 : 0 < l.length
  · have c1 : (0 : Int) < (l.length : Int) := by omega
    obtain ⟨c, r, ⟨v, a, u, rfl, _⟩, _, _, hat⟩ := getOp hw 0 h0
    have c2 : 1 ≤ l.length := h0
    have hat' := fun hh => hat hh .i64
    simp only [Int.ofNat_zero, Int.natCast_zero, Int.cast_ofNat_Int] at hat'
    simp only [v55, hw.len, c1, c2, hat', RX, VOp.fresh, bxC, bsC, un, most, callsOf, seval, Int.reducePow, ↓reduceIte, Nat.reduceEqDiff, reduceCtorEq]
  · have c1 : ¬ (0 : Int) < (l.length : Int) := by omega
    simp only [v55, hw.len, c1, RX, VOp.fresh, bxC, bsC, un, most, callsOf, seval, Int.reducePow, ↓reduceIte, Nat.reduceEqDiff, reduceCtorEq]
    exact fun h => h0 h.1
theorem fit_pu (g : Pg P tab) {l : List Op} {w : AV} (hw : IsL 112 ROp w l) (nodes : Int) : Pu P 27 [w, .int .i64 nodes] (IsB (fitP nodes l)) := by
  have htl : AV.tolds [w] = true := by simp [AV.tolds, hw.told tOp]
  refine g.pu (vf := v27) rfl rfl ?_
  simp only [v27, RX, VOp.fresh, bxC, bsC, un, most, callsOf, seval, Int.reducePow, ↓reduceIte, Nat.reduceEqDiff, reduceCtorEq]
  refine (rOps_pu g hw).go htl ?_
  rintro _ ⟨b, rfl, hb⟩
  cases b with
  | false =>
    simp only [RX, VOp.fresh, bxC, bsC, un, most, callsOf, seval, Int.reducePow, ↓reduceIte, Nat.reduceEqDiff, reduceCtorEq]
    exact fun h => by have := hb.2 h.1; cases this
  | true =>
    have ok := hb.1 rfl
    simp only [RX, VOp.fresh, bxC, bsC, un, most, callsOf, seval, Int.reducePow, ↓reduceIte, Nat.reduceEqDiff, reduceCtorEq]
    refine (mapOf_pu g hw).go htl ?_
    rintro _ ⟨b2, rfl, hb2⟩
    cases b2 with
    | false =>
      simp only [RX, VOp.fresh, bxC, bsC, un, most, callsOf, seval, Int.reducePow, ↓reduceIte, Nat.reduceEqDiff, reduceCtorEq]
      exact ⟨ok, fun h2 => by have := hb2.2 ⟨ok.1, h2⟩; cases this⟩
    | true =>
      have hm := (hb2.1 rfl).2
      obtain ⟨c, r, ⟨v, a, u, rfl, _, _, _, _, _, _, ia, iu⟩, _, _, hat⟩ := getOp hw 0 ok.1
      have hat' := fun hh => hat hh .i64
      simp only [Int.ofNat_zero, Int.natCast_zero, Int.cast_ofNat_Int] at hat'
      simp only [hat', RX, VOp.fresh, bxC, bsC, un, most, callsOf, seval, Int.reducePow, ↓reduceIte, Nat.reduceEqDiff, reduceCtorEq]
      refine (rMap_pu g ia iu).go (by simp [AV.tolds, AV.told, ia.told tInt, iu.told tInt]) ?_
      rintro _ ⟨b3, rfl, hb3⟩
      simp only [RX, VOp.fresh, bxC, bsC, un, most, callsOf, seval, Int.reducePow, ↓reduceIte, Nat.reduceEqDiff, reduceCtorEq]
      exact hb3.trans ⟨fun h => ⟨ok, fun _ => h⟩, fun h => h.2 hm⟩
theorem left_loop (g : Pg P tab) {fs : List Feat} {v u w : AV} {m : Mp} {node nodes : Int} {X e0 v0 : Nat} {h0 : Heap} (hw : RowT RFeat 3 h0 w fs) (hsm : fs.length ≤ 1000) (hv : IsL 8 RInt v m.starts) (hu : IsL 8 RInt u m.owners)
    (hX : h0.get X = some (.cells [.int .i64 node, .int .i64 nodes, .int .i64 m.epoch, v, u, w] e0 v0)) (hXn : X < h0.next) (n : Nat) :
    ∀ (i : Nat) (t : T AV) (h : Heap) (k : List Fr) (Q : Ex → T AV → Heap → Prop), i + n = fs.length → Ext h0 h → RowT RFeat 3 h (sg t 7) (keepS m node (fs.take i)) → (∀ b ∈ blkOf (sg t 7), h0.next ≤ b) → sg t 0 = .ptr X 0 → sg t 8 = .int .i64 i →
    (∀ t' h', Ext h0 h' → RowT RFeat 3 h' (sg t' 7) (keepS m node fs) → (∀ b ∈ blkOf (sg t' 7), h0.next ≤ b) → (∀ j, j < 6 → sg t' j = sg t j) → Un P k Q (.exit 3) t' h') → Lp P b24_0 t h (Un P k Q) := by
  induction n with
  | zero =>
    intro i t h k Q hn x0 r hb t0 t8 hQ
    refine g.lpe b24_0.eq_1 ?_
    have c1 : ¬ ((i : Int) < (fs.length : Int)) := by omega
    have gX := (x0.2 X hXn).trans hX
    simp only [t0, t8, gX, hw.len, c1, RX, VOp.fresh, bxC, bsC, un, most, callsOf, seval, Int.reducePow, ↓reduceIte, Nat.reduceEqDiff, reduceCtorEq]
    rw [List.take_of_length_le (by omega)] at r
    refine hQ _ _ x0 ?_ ?_ fun j hj => by simp only [sg_set]; repeat rw [if_neg (by omega)]
    · simp only [sg_set, Nat.reduceEqDiff, ↓reduceIte]
      exact r
    · simp only [sg_set, Nat.reduceEqDiff, ↓reduceIte]
      exact hb
  | succ n ih =>
    intro i t h k Q hn x0 r hb t0 t8 hQ
    refine g.lpe b24_0.eq_1 ?_
    have c1 : ((i : Int) < (fs.length : Int)) := by omega
    have gX := (x0.2 X hXn).trans hX
    have w1 : IntKind.i64.wrap ((i : Int) + 1) = ((i + 1 : Nat) : Int) := by rw [w64 (by omega) (by omega)]; push_cast; rfl
    obtain ⟨bw, ew, vw, cs, va, hbw, hgw, i1, i2, i3, hia, pt1, pt3⟩ := (hw.ext x0).look (i := i) (by omega)
    have ova := isL_one i3
    have hs : fs.take (i + 1) = fs.take i ++ [fs[i]] := List.take_succ_eq_append_getElem (by omega)
    obtain ⟨ky, kn⟩ := keepS_snoc m node (fs.take i) fs[i]
    rw [← hs] at ky kn
    simp only [t0, t8, gX, hw.len, c1, hia, hgw, pt1, pt3, RX, VOp.fresh, bxC, bsC, un, most, callsOf, seval, Int.reducePow, ↓reduceIte, Nat.reduceEqDiff, reduceCtorEq]
    refine (rholds_pu g hv hu i3 node).go (by simp [AV.tolds, AV.told, hv.told tInt, hu.told tInt, i3.told tRing]) ?_
    rintro _ ⟨b, rfl, hbb⟩
    cases b with
    | false =>
      simp only [t8, w1, RX, VOp.fresh, bxC, bsC, un, most, callsOf, seval, Int.reducePow, ↓reduceIte, Nat.reduceEqDiff, reduceCtorEq]
      refine ih (i + 1) _ h k Q (by omega) x0 ?_ ?_ ?_ ?_ fun t' h' q1 q2 q3 q4 => hQ t' h' q1 q2 q3 fun j hj => by rw [q4 j hj]; simp only [sg_set]; repeat rw [if_neg (by omega)]
      · simp only [sg_set, Nat.reduceEqDiff, ↓reduceIte]
        rw [kn fun h => by have := hbb.2 h; cases this]
        exact r
      · simp only [sg_set, Nat.reduceEqDiff, ↓reduceIte]
        exact hb
      · simp only [t0, sg_set, Nat.reduceEqDiff, ↓reduceIte]
      · simp only [sg_set, Nat.reduceEqDiff, ↓reduceIte]
    | true =>
      have hl : (keepS m node (fs.take i)).length ≤ fs.length := Nat.le_trans (keepS_len _ _ _) (by rw [List.length_take]; omega)
      have e1 := Ext.mk (h := h) (.cells [.int .i64 fs[i].id, .int .i64 fs[i].shape, va] 50 0)
      have n1 : (h.mk' h.next (.cells [.int .i64 fs[i].id, .int .i64 fs[i].shape, va] 50 0)).next = h.next + 1 := by rw [mk_next]; omega
      obtain ⟨h2, p2, r2, n2, k2⟩ := (r.ext e1).push trFeat (a := fs[i]) (c := [.int .i64 fs[i].id, .int .i64 fs[i].shape, va]) ⟨va, rfl, i1, i2, i3⟩ (nb := h.next) (eb := 50) (vb := 0) (by rw [Heap.get_mk, if_pos rfl]) (bytes := 40) (by unfold most2; omega) 50
      rw [n1] at p2 r2 n2 k2
      have x2 : Ext h0 h2 := ⟨by have := x0.1; omega, fun b hb0 => by
        have h1 := x0.1
        rw [k2 b (fun hc => by have := hb b hc; omega) (by omega), e1.2 b (by omega)]
        exact x0.2 b hb0⟩
      simp only [t0, t8, gX, hia, hgw, pt1, pt3, ova, p2, w1, HN, RW, RX, VOp.fresh, bxC, bsC, un, most, callsOf, seval, Int.reducePow, ↓reduceIte, Nat.reduceEqDiff, reduceCtorEq]
      refine ih (i + 1) _ h2 k Q (by omega) x2 ?_ ?_ ?_ ?_ fun t' h' q1 q2 q3 q4 => hQ t' h' q1 q2 q3 fun j hj => by rw [q4 j hj]; simp only [sg_set]; repeat rw [if_neg (by omega)]
      · simp only [sg_set, Nat.reduceEqDiff, ↓reduceIte]
        rw [ky (hbb.1 rfl)]
        exact r2
      · simp only [sg_set, Nat.reduceEqDiff, ↓reduceIte]
        intro b hb2
        simp only [blkOf, List.mem_singleton] at hb2
        have := x0.1
        omega
      · simp only [t0, sg_set, Nat.reduceEqDiff, ↓reduceIte]
      · simp only [sg_set, Nat.reduceEqDiff, ↓reduceIte]
/-- memory but for a block, from a place on -/
theorem Ext.xput {h h' : Heap} {X : Nat} (x : Ext h h') (o : Blk) : ExtX X h (h'.put X o) := x.x.trans (.put o)
theorem ExtX.opsV {h h' : Heap} {X : Nat} {w : AV} {l : List Op} (x : ExtX X h h') (o : OpsV h w l) (hX : X ∉ blkOf w) : ∀ b ∈ blkOf w, h'.get b = h.get b := fun b hb => x.2 b (o.2.1 b hb) fun e => hX (e ▸ hb)
theorem put_keep {h : Heap} {X : Nat} {v : AV} (hX : X ∉ blkOf v) (o : Blk) : ∀ b ∈ blkOf v, (h.put X o).get b = h.get b := fun b hb => by
  have : b ≠ X := fun e => hX (by rw [← e]; exact hb)
  rw [Heap.get_put, if_neg this]
theorem apply_loop (g : Pg P tab) {node nodes : Int} {X : Nat} {h0 : Heap} {w : AV} {l : List Op} (ow : OpsV h0 w l) (hXw : X ∉ blkOf w) (hk : ∀ i, i < l.length → (l.getD i op0).kind = 0 ∨ (l.getD i op0).kind = 1 ∨ (l.getD i op0).kind = 2) (hl : l.length ≤ 32) (n : Nat) :
    ∀ (i : Nat) (t : T AV) (h : Heap) (m : Mp) (fs : List Feat) (k : List Fr) (Q : Ex → T AV → Heap → Prop), i + n = l.length → fs.length + n ≤ 850 → ExtX X h0 h → SS h X node nodes m fs → sg t 0 = .ptr X 0 → sg t 1 = w → sg t 5 = .int .i64 i →
    (∀ t' h', ExtX X h0 h' → SS h' X node nodes (((l.drop i).foldl (stS node) (m, fs)).1) (((l.drop i).foldl (stS node) (m, fs)).2) → Un P k Q (.exit 0) t' h') → Lp P b24_1 t h (Un P k Q) := by
  induction n with
  | zero =>
    intro i t h m fs k Q hn hf x0 ss t0 t1 t5 hQ
    refine g.lpe b24_1.eq_1 ?_
    have c1 : ¬ ((i : Int) < (l.length : Int)) := by omega
    simp only [t1, t5, ow.1, c1, RX, VOp.fresh, bxC, bsC, un, most, callsOf, seval, Int.reducePow, ↓reduceIte, Nat.reduceEqDiff, reduceCtorEq]
    rw [List.drop_of_length_le (by omega)] at hQ
    exact hQ _ _ x0 ss
  | succ n ih =>
    intro i t h m fs k Q hn hf x0 ss t0 t1 t5 hQ
    refine g.lpe b24_1.eq_1 ?_
    have c1 : ((i : Int) < (l.length : Int)) := by omega
    have w1 : IntKind.i64.wrap ((i : Int) + 1) = ((i + 1 : Nat) : Int) := by rw [w64 (by omega) (by omega)]; push_cast; rfl
    have hd : l.drop i = l.getD i op0 :: l.drop (i + 1) := by rw [List.drop_eq_getElem_cons (by omega), getD_op (by omega)]
    have fin : ∀ (t' : T AV) (h' : Heap), ExtX X h0 h' → SS h' X node nodes (stS node (m, fs) (l.getD i op0)).1 (stS node (m, fs) (l.getD i op0)).2 → sg t' 0 = .ptr X 0 → sg t' 1 = w → sg t' 5 = .int .i64 ((i + 1 : Nat) : Int) → Lp P b24_1 t' h' (Un P k Q) := fun t' h' a1 a2 a3 a4 a5 =>
      ih (i + 1) t' h' _ _ k Q (by omega) (by have := stS_len node (m, fs) (l.getD i op0); simp only at this; omega) a1 a2 a3 a4 a5 fun t2 h2 b1 b2 => hQ t2 h2 b1 (by rw [hd, List.foldl_cons]; exact b2)
    clear ih hQ
    obtain ⟨p, c, hc, hrd⟩ := ow.2.2.2 i (by omega)
    obtain ⟨hia, hld⟩ := hrd h (x0.opsV ow hXw)
    have hki := hk i (by omega)
    generalize l.getD i op0 = o at *
    obtain ⟨fv, a, b, rfl, j1, j2, j3, j4, j5, j6, j7, j8⟩ := hc
    have o4 := isL_one j4
    have o7 := isL_one j7
    have o8 := isL_one j8
    obtain ⟨e, ver, v, u, wf, gX, hv, hu, rw0, nX, lX⟩ := ss
    have h0n := x0.1
    have mem : ∀ κ : Int, ∃ H, H = ((h.mk' h.next (.cells [.int .i64 0, .int .i64 0, .int .i64 0, .nils, .int .i64 0, .int .i64 0, .nils, .nils] 52 0)).put h.next (.cells [.int .i64 κ, .int .i64 o.f.id, .int .i64 o.f.shape, fv, .int .i64 o.id, .int .i64 o.m.epoch, a, b] 52 1)) ∧ Ext h H ∧ H.next = h.next + 1 ∧
        H.get h.next = some (.cells [.int .i64 κ, .int .i64 o.f.id, .int .i64 o.f.shape, fv, .int .i64 o.id, .int .i64 o.m.epoch, a, b] 52 1) ∧ H.get X = some (.cells [.int .i64 node, .int .i64 nodes, .int .i64 m.epoch, v, u, wf] e ver) := fun κ =>
      ⟨_, rfl, ((Ext.refl h).mkn (Nat.le_refl _) _).putn (Nat.le_refl _) _, by rw [put_next, mk_next]; omega, by rw [Heap.get_put, if_pos rfl], by rw [Heap.get_put, if_neg (by omega), Heap.get_mk, if_neg (by omega)]; exact gX⟩
    have opl : ∀ {h1 : Heap} {v1 : AV} {A : List Feat}, RowT RFeat 3 h1 v1 A → (∀ b ∈ blkOf v1, h.next ≤ b) → X ∉ blkOf v1 := fun _ hb hc => by have := hb X hc; omega
    have ov := isL_one hv
    have ou := isL_one hu
    have nXh : ¬ X = h.next := by omega
    have nhX : ¬ h.next = X := by omega
    rcases hki with hk0 | hk1 | hk2
    · simp only [t0, t1, t5, ow.1, c1, hia, hld, hk0, o4, o7, o8, nXh, gX, HN, RW, RX, VOp.fresh, bxC, bsC, un, most, callsOf, seval, Int.reducePow, ↓reduceIte, Nat.reduceEqDiff, reduceCtorEq]
      obtain ⟨H, eH, xH, nH, gO, gXH⟩ := mem 0
      rw [← eH]
      clear eH mem
      refine wo_cl g (rw0.ext xH) (by omega) _ fun v1 h1 x1 r1 nb1 => ?_
      have on1 := r1.one
      have ce1 := r1.cells
      have gX1 := (x1.2 X (by omega)).trans gXH
      have gO1 := (x1.2 h.next (by omega)).trans gO
      have nX1 := opl r1 fun b hb => by have := nb1 b hb; omega
      have l1 := x1.1
      simp only [t0, gX1, gO1, nXh, nhX, on1, ce1, ov, ou, o4, HN, RW, RX, VOp.fresh, bxC, bsC, un, most, callsOf, seval, Int.reducePow, ↓reduceIte, Nat.reduceEqDiff, reduceCtorEq]
      have xx1 : ExtX X h0 (h1.put X (.cells [.int .i64 node, .int .i64 nodes, .int .i64 m.epoch, v, u, v1] e (ver + 1))) := x0.trans ((xH.trans x1).xput _)
      have hr1 : RowT RFeat 3 (h1.put X (.cells [.int .i64 node, .int .i64 nodes, .int .i64 m.epoch, v, u, v1] e (ver + 1))) v1 (woF fs o.f.id) := r1.frame (by rw [put_next]; exact Nat.le_refl _) (put_keep nX1 _)
      have gX2 : (h1.put X (.cells [.int .i64 node, .int .i64 nodes, .int .i64 m.epoch, v, u, v1] e (ver + 1))).get X = some (.cells [.int .i64 node, .int .i64 nodes, .int .i64 m.epoch, v, u, v1] e (ver + 1)) := by rw [Heap.get_put, if_pos rfl]
      have gO2 : (h1.put X (.cells [.int .i64 node, .int .i64 nodes, .int .i64 m.epoch, v, u, v1] e (ver + 1))).get h.next = some (.cells [.int .i64 0, .int .i64 o.f.id, .int .i64 o.f.shape, fv, .int .i64 o.id, .int .i64 o.m.epoch, a, b] 52 1) := by rw [Heap.get_put, if_neg (by omega)]; exact gO1
      have n2 : (h1.put X (.cells [.int .i64 node, .int .i64 nodes, .int .i64 m.epoch, v, u, v1] e (ver + 1))).next = h1.next := put_next ..
      generalize h1.put X (.cells [.int .i64 node, .int .i64 nodes, .int .i64 m.epoch, v, u, v1] e (ver + 1)) = h2 at *
      refine (rholds_pu g hv hu j4 node).go (by simp [AV.tolds, AV.told, hv.told tInt, hu.told tInt, j4.told tRing]) ?_
      rintro _ ⟨bb, rfl, hbb⟩
      cases bb with
      | false =>
        have es : stS node (m, fs) o = (m, woF fs o.f.id) := by unfold stS putS; rw [if_pos hk0, if_neg fun h => by have := hbb.2 h; cases this]
        rw [es] at fin
        simp only [t5, w1, HN, RW, RX, VOp.fresh, bxC, bsC, un, most, callsOf, seval, Int.reducePow, ↓reduceIte, Nat.reduceEqDiff, reduceCtorEq]
        refine fin _ h2 xx1 ⟨e, ver + 1, v, u, v1, gX2, hv, hu, hr1, nX1, by omega⟩ ?_ ?_ ?_
        · simp only [t0, sg_set, Nat.reduceEqDiff, ↓reduceIte]
        · simp only [t1, sg_set, Nat.reduceEqDiff, ↓reduceIte]
        · simp only [sg_set, Nat.reduceEqDiff, ↓reduceIte]
      | true =>
        have es : stS node (m, fs) o = (m, wiF (woF fs o.f.id) o.f) := by unfold stS putS; rw [if_pos hk0, if_pos (hbb.1 rfl)]
        rw [es] at fin
        simp only [t0, gX2, gO2, o4, HN, RW, RX, VOp.fresh, bxC, bsC, un, most, callsOf, seval, Int.reducePow, ↓reduceIte, Nat.reduceEqDiff, reduceCtorEq]
        have wl := woF_len fs o.f.id
        refine wi_cl g hr1 (by omega) ⟨fv, rfl, j2, j3, j4⟩ fun v3 h3 x3 r3 nb3 => ?_
        have on3 := r3.one
        have ce3 := r3.cells
        have gX3 := (x3.2 X (by omega)).trans gX2
        have nX3 := opl r3 fun b hb => by have := nb3 b hb; omega
        simp only [t0, gX3, on3, ce3, t5, w1, HN, RW, RX, VOp.fresh, bxC, bsC, un, most, callsOf, seval, Int.reducePow, ↓reduceIte, Nat.reduceEqDiff, reduceCtorEq]
        refine fin _ _ (xx1.trans (x3.xput _)) ⟨e, ver + 1 + 1, v, u, v3, by rw [Heap.get_put, if_pos rfl], hv, hu, r3.frame (by rw [put_next]; exact Nat.le_refl _) (put_keep nX3 _), nX3, by rw [put_next]; have := x3.1; omega⟩ ?_ ?_ ?_
        · simp only [t0, sg_set, Nat.reduceEqDiff, ↓reduceIte]
        · simp only [t1, sg_set, Nat.reduceEqDiff, ↓reduceIte]
        · simp only [sg_set, Nat.reduceEqDiff, ↓reduceIte]
    · simp only [t0, t1, t5, ow.1, c1, hia, hld, hk1, o4, o7, o8, nXh, gX, HN, RW, RX, VOp.fresh, bxC, bsC, un, most, callsOf, seval, Int.reducePow, ↓reduceIte, Nat.reduceEqDiff, reduceCtorEq]
      obtain ⟨H, eH, xH, nH, gO, gXH⟩ := mem 1
      rw [← eH]
      clear eH mem
      refine wo_cl g (rw0.ext xH) (by omega) _ fun v1 h1 x1 r1 nb1 => ?_
      have on1 := r1.one
      have ce1 := r1.cells
      have gX1 := (x1.2 X (by omega)).trans gXH
      have nX1 := opl r1 fun b hb => by have := nb1 b hb; omega
      have l1 := x1.1
      have es : stS node (m, fs) o = (m, woF fs o.id) := by unfold stS; rw [if_neg (by omega), if_pos hk1]
      rw [es] at fin
      simp only [t0, gX1, on1, ce1, t5, w1, HN, RW, RX, VOp.fresh, bxC, bsC, un, most, callsOf, seval, Int.reducePow, ↓reduceIte, Nat.reduceEqDiff, reduceCtorEq]
      refine fin _ _ (x0.trans ((xH.trans x1).xput _)) ⟨e, ver + 1, v, u, v1, by rw [Heap.get_put, if_pos rfl], hv, hu, r1.frame (by rw [put_next]; exact Nat.le_refl _) (put_keep nX1 _), nX1, by rw [put_next]; omega⟩ ?_ ?_ ?_
      · simp only [t0, sg_set, Nat.reduceEqDiff, ↓reduceIte]
      · simp only [t1, sg_set, Nat.reduceEqDiff, ↓reduceIte]
      · simp only [sg_set, Nat.reduceEqDiff, ↓reduceIte]
    · simp only [t0, t1, t5, ow.1, c1, hia, hld, hk2, o4, o7, o8, nXh, gX, HN, RW, RX, VOp.fresh, bxC, bsC, un, most, callsOf, seval, Int.reducePow, ↓reduceIte, Nat.reduceEqDiff, reduceCtorEq]
      obtain ⟨H, eH, xH, nH, gO, gXH⟩ := mem 2
      rw [← eH]
      clear eH mem
      have hXX : ExtX X h0 (H.put X (.cells [.int .i64 node, .int .i64 nodes, .int .i64 o.m.epoch, a, b, wf] e (ver + 1))) := x0.trans (xH.xput _)
      have gP : (H.put X (.cells [.int .i64 node, .int .i64 nodes, .int .i64 o.m.epoch, a, b, wf] e (ver + 1))).get X = some (.cells [.int .i64 node, .int .i64 nodes, .int .i64 o.m.epoch, a, b, wf] e (ver + 1)) := by rw [Heap.get_put, if_pos rfl]
      have rP : RowT RFeat 3 (H.put X (.cells [.int .i64 node, .int .i64 nodes, .int .i64 o.m.epoch, a, b, wf] e (ver + 1))) wf fs := (rw0.ext xH).frame (by rw [put_next]; exact Nat.le_refl _) (put_keep nX _)
      have nP : (H.put X (.cells [.int .i64 node, .int .i64 nodes, .int .i64 o.m.epoch, a, b, wf] e (ver + 1))).next = H.next := put_next ..
      generalize H.put X (.cells [.int .i64 node, .int .i64 nodes, .int .i64 o.m.epoch, a, b, wf] e (ver + 1)) = h1 at *
      refine left_loop g rP (by omega) j7 j8 gP (by omega) fs.length 0 _ h1 _ _ (by omega) (Ext.refl h1) ?_ ?_ ?_ ?_ fun t' h' x1 r1 nb1 ks => ?_
      · simp only [sg_set, Nat.reduceEqDiff, ↓reduceIte]
        exact RowT.nil _
      · simp only [sg_set, Nat.reduceEqDiff, ↓reduceIte]
        simp [blkOf]
      · simp only [t0, sg_set, Nat.reduceEqDiff, ↓reduceIte]
      · simp only [sg_set, Nat.reduceEqDiff, ↓reduceIte]
        rfl
      · have k0 : sg t' 0 = .ptr X 0 := (ks 0 (by omega)).trans (by simp only [t0, sg_set, Nat.reduceEqDiff, ↓reduceIte])
        have k1 : sg t' 1 = w := (ks 1 (by omega)).trans (by simp only [t1, sg_set, Nat.reduceEqDiff, ↓reduceIte])
        have k5 : sg t' 5 = .int .i64 i := (ks 5 (by omega)).trans (by simp only [t5, sg_set, Nat.reduceEqDiff, ↓reduceIte])
        have on1 := r1.one
        have ce1 := r1.cells
        have gX1 := (x1.2 X (by omega)).trans gP
        have nX1 : X ∉ blkOf (sg t' 7) := fun hc => by have := nb1 X hc; omega
        have l1 := x1.1
        have es : stS node (m, fs) o = (o.m, keepS o.m node fs) := by unfold stS; rw [if_neg (by omega), if_neg (by omega)]
        rw [es] at fin
        simp only [k0, k5, gX1, on1, ce1, w1, HN, RW, RX, VOp.fresh, bxC, bsC, un, most, callsOf, seval, Int.reducePow, ↓reduceIte, Nat.reduceEqDiff, reduceCtorEq]
        refine fin _ _ (hXX.trans (x1.xput _)) ⟨e, ver + 1 + 1, a, b, sg t' 7, by rw [Heap.get_put, if_pos rfl], j7, j8, r1.frame (by rw [put_next]; exact Nat.le_refl _) (put_keep nX1 _), nX1, by rw [put_next]; omega⟩ ?_ ?_ ?_
        · simp only [k0, sg_set, Nat.reduceEqDiff, ↓reduceIte]
        · simp only [k1, sg_set, Nat.reduceEqDiff, ↓reduceIte]
        · simp only [sg_set, Nat.reduceEqDiff, ↓reduceIte]
theorem apply_cl (g : Pg P tab) {node nodes : Int} {X : Nat} {h : Heap} {m : Mp} {fs : List Feat} {w : AV} {l : List Op} (ow : OpsV h w l) (hXw : X ∉ blkOf w) (ss : SS h X node nodes m fs) (hf : fs.length + l.length ≤ 850) {Q : AV → Heap → Prop}
    (qN : ¬ fitP nodes l → Q (.int .i64 1400) h) (qY : fitP nodes l → ∀ h', ExtX X h h' → SS h' X node nodes ((l.foldl (stS node) (m, fs)).1) ((l.foldl (stS node) (m, fs)).2) → Q (.int .i64 0) h') : Cl P 24 [.ptr X 0, w] h Q := by
  refine g.cl (vf := v24) rfl rfl ?_
  obtain ⟨e, ver, v, u, wf, gX, hv, hu, rw0, nX, lX⟩ := id ss
  simp only [v24, gX, RX, VOp.fresh, bxC, bsC, un, most, callsOf, seval, Int.reducePow, ↓reduceIte, Nat.reduceEqDiff, reduceCtorEq]
  obtain ⟨w', fz, hw'⟩ := ow.2.2.1
  refine (fit_pu g hw' nodes).cl (.cons fz (.cons (.int _ _) .nil)) ?_
  rintro _ ⟨b, rfl, hb⟩
  cases b with
  | false =>
    simp only [RX, VOp.fresh, bxC, bsC, un, most, callsOf, seval, Int.reducePow, ↓reduceIte, Nat.reduceEqDiff, reduceCtorEq]
    exact qN fun h => by have := hb.2 h; cases this
  | true =>
    have hfit := hb.1 rfl
    have hk : ∀ i, i < l.length → (l.getD i op0).kind = 0 ∨ (l.getD i op0).kind = 1 ∨ (l.getD i op0).kind = 2 := fun i hi => by
      rcases (hfit.1.2.2 i hi).1 with h | h | h
      · exact .inl h.1
      · exact .inr (.inl h.1)
      · exact .inr (.inr h.1)
    simp only [RX, VOp.fresh, bxC, bsC, un, most, callsOf, seval, Int.reducePow, ↓reduceIte, Nat.reduceEqDiff, reduceCtorEq]
    refine apply_loop g ow hXw hk hfit.1.2.1 l.length 0 _ h m fs _ _ (by omega) (by omega) ExtX.refl ss ?_ ?_ ?_ fun t' h' x' s' => ?_
    · simp only [sg_set, Nat.reduceEqDiff, ↓reduceIte]
    · simp only [sg_set, Nat.reduceEqDiff, ↓reduceIte]
    · simp only [sg_set, Nat.reduceEqDiff, ↓reduceIte]
      rfl
    · simp only [RX, VOp.fresh, bxC, bsC, un, most, callsOf, seval, Int.reducePow, ↓reduceIte, Nat.reduceEqDiff, reduceCtorEq]
      exact qY hfit h' x' s'
end
end Go.Proofs.Ythmkenkjfmbkiaa.VM
namespace Go.Proofs.Ythmkenkjfmbkiaa.VM
def featsAt (l : List Feat) (i : Nat) : Prop := featOk (l.getD i feat0) ∧ (0 < i → (l.getD (i - 1) feat0).id < (l.getD i feat0).id)
def featsOk (l : List Feat) : Prop := ∀ i, i < l.length → featsAt l i
theorem getD_feat {l : List Feat} {i : Nat} (hi : i < l.length) : l.getD i feat0 = l[i] := by simp [List.getD_eq_getElem?_getD, List.getElem?_eq_getElem hi]
def Asc (l : List Feat) : Prop := l.Pairwise fun a b => a.id < b.id
theorem featsOk.asc {l : List Feat} (h : featsOk l) : Asc l := by
  have step : ∀ i, i + 1 < l.length → (l.getD i feat0).id < (l.getD (i + 1) feat0).id := fun i hi => by
    have := (h (i + 1) hi).2 (by omega)
    rwa [Nat.add_sub_cancel] at this
  have all : ∀ d i, i + 1 + d < l.length → (l.getD i feat0).id < (l.getD (i + 1 + d) feat0).id := by
    intro d
    induction d with
    | zero => exact fun i hi => step i hi
    | succ d ih =>
      intro i hi
      have h1 := ih i (by omega)
      have h2 := step (i + 1 + d) (by omega)
      exact Int.lt_trans h1 h2
  unfold Asc
  rw [List.pairwise_iff_getElem]
  intro i j hi hj hij
  have := all (j - i - 1) i (by omega)
  rw [show i + 1 + (j - i - 1) = j by omega, getD_feat hi, getD_feat hj] at this
  exact this
theorem woF_none {l : List Feat} {x : Int} (h : ∀ f ∈ l, f.id ≠ x) : woF l x = l := List.filter_eq_self.2 fun f hf => by simpa using h f hf
theorem woF_app (a b : List Feat) (x : Int) : woF (a ++ b) x = woF a x ++ woF b x := List.filter_append ..
theorem wiS_low {f : Feat} : ∀ {l : List Feat} {o : List Feat}, (∀ y ∈ l, y.id < f.id) → l.foldl (wiStep f) (o, false) = (o ++ l, false)
  | [], o, _ => by simp
  | y :: l, o, h => by
    have hy := h y (.head _)
    have e : wiStep f (o, false) y = (o ++ [y], false) := by
      have h1 : ¬ f.id ≤ y.id := by omega
      have h2 : ¬ y.id = f.id := by omega
      simp [wiStep, h1, h2]
    rw [List.foldl_cons, e, wiS_low fun z hz => h z (.tail _ hz), List.append_assoc]
    rfl
theorem wiS_high {f : Feat} : ∀ {l : List Feat} {o : List Feat}, (∀ y ∈ l, f.id < y.id) → l.foldl (wiStep f) (o, true) = (o ++ l, true)
  | [], o, _ => by simp
  | y :: l, o, h => by
    have hy := h y (.head _)
    have e : wiStep f (o, true) y = (o ++ [y], true) := by
      have h2 : ¬ y.id = f.id := by omega
      simp [wiStep, h2]
    rw [List.foldl_cons, e, wiS_high fun z hz => h z (.tail _ hz), List.append_assoc]
    rfl
/-- one is put in its place -/
theorem wiF_mid {f : Feat} {a b : List Feat} (ha : ∀ y ∈ a, y.id < f.id) (hb : ∀ y ∈ b, f.id < y.id) : wiF (a ++ b) f = a ++ f :: b := by
  have e : wiS (a ++ b) f = b.foldl (wiStep f) (a, false) := by
    unfold wiS
    rw [List.foldl_append, wiS_low ha, List.nil_append]
  unfold wiF
  rw [e]
  cases b with
  | nil => simp
  | cons y b =>
    have hy := hb y (.head _)
    have e2 : wiStep f (a, false) y = (a ++ [f] ++ [y], true) := by
      have h1 : f.id ≤ y.id := by omega
      have h2 : ¬ y.id = f.id := by omega
      simp [wiStep, h1, h2]
    rw [List.foldl_cons, e2, wiS_high fun z hz => hb z (.tail _ hz)]
    simp
theorem keepS_mem {m : Mp} {node : Int} {l : List Feat} {f : Feat} (h : f ∈ keepS m node l) : f ∈ l := (List.mem_filter.1 h).1
theorem keepS_app (m : Mp) (node : Int) (a b : List Feat) : keepS m node (a ++ b) = keepS m node a ++ keepS m node b := List.filter_append ..
theorem asc_parts {a b : List Feat} {f : Feat} (h : Asc (a ++ f :: b)) : (∀ y ∈ a, y.id < f.id) ∧ ∀ y ∈ b, f.id < y.id := by
  unfold Asc at h
  rw [List.pairwise_append] at h
  obtain ⟨_, h2, h3⟩ := h
  exact ⟨fun y hy => h3 y hy f (.head _), (List.pairwise_cons.1 h2).1⟩
/-- one after the other -/
theorem put_first {m : Mp} {node : Int} {a b : List Feat} {f : Feat} (h : Asc (a ++ f :: b)) : putS m node (keepS m node a) f = keepS m node (a ++ [f]) := by
  obtain ⟨h1, h2⟩ := asc_parts h
  have hlow : ∀ y ∈ keepS m node a, y.id < f.id := fun y hy => h1 y (keepS_mem hy)
  have e := woF_none (l := keepS m node a) (x := f.id) fun y hy => by have := hlow y hy; omega
  obtain ⟨ky, kn⟩ := keepS_snoc m node a f
  unfold putS
  rw [e]
  by_cases hh : HoldsP m node f
  · rw [if_pos hh, ky hh]
    have := wiF_mid (b := []) hlow fun y hy => by simp at hy
    rwa [List.append_nil] at this
  · rw [if_neg hh, kn hh]
theorem put_again {m M : Mp} {node : Int} {a b : List Feat} {f : Feat} (h : Asc (a ++ f :: b)) :
    putS M node (keepS M node a ++ keepS M node (keepS m node (f :: b))) f = keepS M node (a ++ [f]) ++ keepS M node (keepS m node b) := by
  obtain ⟨h1, h2⟩ := asc_parts h
  have hlow : ∀ y ∈ keepS M node a, y.id < f.id := fun y hy => h1 y (keepS_mem hy)
  have hhigh : ∀ y ∈ keepS M node (keepS m node b), f.id < y.id := fun y hy => h2 y (keepS_mem (keepS_mem hy))
  have e1 := woF_none (l := keepS M node a) (x := f.id) fun y hy => by have := hlow y hy; omega
  have e2 : woF (keepS M node (keepS m node (f :: b))) f.id = keepS M node (keepS m node b) := by
    have e3 := woF_none (l := keepS M node (keepS m node b)) (x := f.id) fun y hy => by have := hhigh y hy; omega
    have e4 : woF [f] f.id = [] := by simp [woF]
    have e5 : f :: b = [f] ++ b := rfl
    rw [e5, keepS_app, keepS_app, woF_app, e3]
    have e6 : woF (keepS M node (keepS m node [f])) f.id = [] := by
      refine List.filter_eq_nil_iff.2 fun y hy => ?_
      have := keepS_mem (keepS_mem hy)
      rw [List.mem_singleton] at this
      subst this
      simp
    rw [e6, List.nil_append]
  obtain ⟨ky, kn⟩ := keepS_snoc M node a f
  unfold putS
  rw [woF_app, e1, e2]
  by_cases hh : HoldsP M node f
  · rw [if_pos hh, ky hh, wiF_mid hlow hhigh, List.append_assoc]
    rfl
  · rw [if_neg hh, kn hh]
theorem puts_again {m M : Mp} {node : Int} : ∀ {b a : List Feat}, Asc (a ++ b) → (b.map putF).foldl (stS node) (M, keepS M node a ++ keepS M node (keepS m node b)) = (M, keepS M node (a ++ b))
  | [], a, _ => by
    have : keepS M node (keepS m node []) = [] := rfl
    simp [this]
  | f :: b, a, h => by
    have e : stS node (M, keepS M node a ++ keepS M node (keepS m node (f :: b))) (putF f) = (M, keepS M node (a ++ [f]) ++ keepS M node (keepS m node b)) := by
      unfold stS
      rw [if_pos (show (putF f).kind = 0 from rfl), ← put_again (m := m) h]
      rfl
    rw [List.map_cons, List.foldl_cons, e, puts_again (by rw [List.append_assoc]; exact h), List.append_assoc]
    rfl
/-- what the operations of a new map make of a store -/
theorem ops_store {m M : Mp} {node : Int} {fs : List Feat} (h : Asc fs) : (rsO M fs).foldl (stS node) (m, keepS m node fs) = (M, keepS M node fs) := by
  have e : stS node (m, keepS m node fs) (mapO M) = (M, keepS M node (keepS m node fs)) := by
    unfold stS
    rw [if_neg (by show ¬ (2 : Int) = 0; decide), if_neg (by show ¬ (2 : Int) = 1; decide)]
    rfl
  unfold rsO
  rw [List.foldl_cons, e]
  have := puts_again (m := m) (M := M) (node := node) (a := []) (b := fs) (by simpa using h)
  simpa [keepS] using this
theorem keepS_at {M : Mp} {node : Int} {a b : List Feat} {f : Feat} (hf : HoldsP M node f) : ∃ hi : (keepS M node a).length < (keepS M node (a ++ f :: b)).length, (keepS M node (a ++ f :: b))[(keepS M node a).length] = f := by
  have e : keepS M node (a ++ f :: b) = keepS M node a ++ f :: keepS M node b := by
    rw [keepS_app]
    congr 1
    exact List.filter_cons_of_pos (by simpa using hf)
  refine ⟨by rw [e, List.length_append, List.length_cons]; omega, ?_⟩
  simp [e]
end Go.Proofs.Ythmkenkjfmbkiaa.VM
namespace Go.Proofs.Ythmkenkjfmbkiaa.VM
attribute [local irreducible] Af Nx EvO Ev Un Gd Cd EvR EvQ EvC Nc Gc Lp EvM NxM AfM GdM EvMR EvMQ EvMD EvMC Nm Gm
section
variable {P : Program}
theorem rFeats_loop (g : Pg P tab) {l : List Feat} {v : AV} (hv : IsL 40 RFeat v l) (n : Nat) :
    ∀ (i : Nat) (s : T AV) (hh : Heap) (k : List Fr) (Q : Ex → T AV → Heap → Prop), i + n = l.length → sg s 0 = v → sg s 3 = .int .i64 i →
      ((∀ j, i ≤ j → j < l.length → featsAt l j) → ∀ s', Un P k Q (.exit 0) s' hh) → ((¬ ∀ j, i ≤ j → j < l.length → featsAt l j) → ∀ s', sg s' 2 = .bool false → Un P k Q .ret s' hh) → Lp P b22_0 s hh (Un P k Q) := by
  have hb := hv.bound (by decide)
  induction n with
  | zero =>
    intro i s hh k Q hi h0 h3 hK hR
    refine g.lpe b22_0.eq_1 ?_
    have c1 : ¬ ((i : Int) < (l.length : Int)) := by omega
    simp only [h0, h3, hv.len, c1, RX, VOp.fresh, bxC, bsC, un, most, callsOf, seval, Int.reducePow, ↓reduceIte, Nat.reduceEqDiff, reduceCtorEq]
    exact hK (fun j h1 h2 => by omega) _
  | succ n ih =>
    intro i s hh k Q hi h0 h3 hK hR
    refine g.lpe b22_0.eq_1 ?_
    have c1 : (i : Int) < (l.length : Int) := by omega
    obtain ⟨rv, r1, hrv, _, _, _, g1⟩ := getFeat hv i (by omega)
    have w1 : IntKind.i64.wrap ((i : Int) + 1) = ((i + 1 : Nat) : Int) := by rw [w64 (by omega) (by omega)]; push_cast; rfl
    have w2 : IntKind.i64.wrap ((i : Int) - 1) = (i : Int) - 1 := w64 (by omega) (by omega)
    simp only [h0, h3, hv.len, c1, g1, RX, VOp.fresh, bxC, bsC, un, most, callsOf, seval, Int.reducePow, ↓reduceIte, Nat.reduceEqDiff, reduceCtorEq]
    refine (rShape_pu g hrv).go (by simp [AV.tolds, AV.told, hrv.told tRing]) ?_
    rintro x ⟨b, rfl, hbb⟩
    have no : ¬ featsAt l i → ¬ ∀ j, i ≤ j → j < l.length → featsAt l j := fun h hall => h (hall i (Nat.le_refl _) (by omega))
    have step : featsAt l i → ∀ s', sg s' 0 = v → sg s' 3 = .int .i64 (i + 1 : Nat) → Lp P b22_0 s' hh (Un P k Q) := fun hok s' a0 a3 => by
      have all : (∀ j, i ≤ j → j < l.length → featsAt l j) ↔ ∀ j, i + 1 ≤ j → j < l.length → featsAt l j := ⟨fun h j h1 h2 => h j (by omega) h2, fun h j h1 h2 => by
        rcases Nat.lt_or_ge i j with h3 | h3
        · exact h j h3 h2
        · rw [show j = i by omega]; exact hok⟩
      refine ih (i + 1) _ _ k Q (by omega) a0 a3 (fun h => hK (all.2 h)) (fun h => hR (fun h' => h (all.1 h')))
    cases b
    · simp only [RX, VOp.fresh, bxC, bsC, un, most, callsOf, seval, Int.reducePow, ↓reduceIte, Nat.reduceEqDiff, reduceCtorEq]
      exact hR (no fun h => by have := hbb.2 h.1; cases this) _ (by simp only [sg_set, Nat.reduceEqDiff, ↓reduceIte])
    · simp only [h0, h3, RX, VOp.fresh, bxC, bsC, un, most, callsOf, seval, Int.reducePow, ↓reduceIte, Nat.reduceEqDiff, reduceCtorEq]
      by_cases hi0 : i = 0
      · have c2 : ¬ ((0 : Int) < (i : Int)) := by omega
        simp only [c2, h3, w1, RX, VOp.fresh, bxC, bsC, un, most, callsOf, seval, Int.reducePow, ↓reduceIte, Nat.reduceEqDiff, reduceCtorEq]
        refine step ⟨hbb.1 rfl, fun h => by omega⟩ _ ?_ ?_
        · simp only [h0, sg_set, Nat.reduceEqDiff, ↓reduceIte]
        · simp only [sg_set, Nat.reduceEqDiff, ↓reduceIte]
      · have c2 : (0 : Int) < (i : Int) := by omega
        obtain ⟨rv', r1', hrv', _, _, _, g1'⟩ := getFeat hv (i - 1) (by omega)
        have ec : ((i - 1 : Nat) : Int) = (i : Int) - 1 := by omega
        rw [ec] at g1'
        simp only [c2, w2, h0, h3, g1', g1, RX, VOp.fresh, bxC, bsC, un, most, callsOf, seval, Int.reducePow, ↓reduceIte, Nat.reduceEqDiff, reduceCtorEq]
        by_cases hid : (l.getD (i - 1) feat0).id < (l.getD i feat0).id
        · have c3 : ¬ (l.getD i feat0).id ≤ (l.getD (i - 1) feat0).id := by omega
          simp only [c3, h3, w1, RX, VOp.fresh, bxC, bsC, un, most, callsOf, seval, Int.reducePow, ↓reduceIte, Nat.reduceEqDiff, reduceCtorEq]
          refine step ⟨hbb.1 rfl, fun h => hid⟩ _ ?_ ?_
          · simp only [h0, sg_set, Nat.reduceEqDiff, ↓reduceIte]
          · simp only [sg_set, Nat.reduceEqDiff, ↓reduceIte]
        · have c3 : (l.getD i feat0).id ≤ (l.getD (i - 1) feat0).id := by omega
          simp only [c3, RX, VOp.fresh, bxC, bsC, un, most, callsOf, seval, Int.reducePow, ↓reduceIte, Nat.reduceEqDiff, reduceCtorEq]
          exact hR (no fun h => hid (h.2 (by omega))) _ (by simp only [sg_set, Nat.reduceEqDiff, ↓reduceIte])
theorem rFeats_pu (g : Pg P tab) {l : List Feat} {v : AV} (hv : IsL 40 RFeat v l) : Pu P 22 [v] (IsB (featsOk l)) := by
  refine g.pu (vf := v22) rfl rfl ?_
  simp only [v22, RX, VOp.fresh, bxC, bsC, un, most, callsOf, seval, Int.reducePow, ↓reduceIte, Nat.reduceEqDiff, reduceCtorEq]
  refine rFeats_loop g hv l.length 0 _ _ _ _ (by omega) ?_ ?_ ?_ ?_
  · simp only [sg_set, Nat.reduceEqDiff, ↓reduceIte]
  · simp only [sg_set, Nat.reduceEqDiff, ↓reduceIte]
    rfl
  · intro h s'
    simp only [RX, VOp.fresh, bxC, bsC, un, most, callsOf, seval, Int.reducePow, ↓reduceIte, Nat.reduceEqDiff, reduceCtorEq]
    exact fun i hi => h i (by omega) hi
  · intro h s' h2
    simp only [h2, RX, VOp.fresh, bxC, bsC, un, most, callsOf, seval, Int.reducePow, ↓reduceIte, Nat.reduceEqDiff, reduceCtorEq]
    exact fun hok => h fun j _ hj => hok j hj
/-- reshard.Ops, told -/
theorem rops_ft (g : Pg P tab) (hins : InsOk P) {m : Mp} {v u w : AV} {fs : List Feat} (hv : IsL 8 RInt v m.starts) (hu : IsL 8 RInt u m.owners) (hw : IsL 40 RFeat w fs) {nodes k a t : Int} (ha : I64 a) (ht : I64 t) :
    Ft P 14 [.agg [.int .i64 m.epoch, v, u], .int .i64 nodes, .agg [.int .i64 k, .int .i64 a, .int .i64 t], w] (fun z => ((∀ i, ¬ RsYes nodes m k a t fs i) ∧ z = .tup [.nils, .int .i64 2200]) ∨ ∃ i y, RsYes nodes m k a t fs i ∧ IsL 112 ROp y (rsO (chgR m k a t i) fs) ∧ z = .tup [y, .int .i64 0]) := by
  refine Ft.of fun h => rops_cl g hins hv hu hw ha ht (fun h' x no => ⟨_, [], .told rfl, .inl ⟨no, rfl⟩⟩) fun h' i x tc y r c xx => ?_
  obtain ⟨D, fd, _⟩ := r.lv
  refine ⟨_, _, .tup (.cons fd (.cons (.told rfl) .nil)), .inr ⟨i, _, y, ?_, rfl⟩⟩
  obtain ⟨⟨⟨⟨p1, p2, p3, p4, p5, p6, p7, p8, p9⟩, k0, k2, a0, a1⟩, he, hi, hn, ok⟩, hl, _⟩ := y
  obtain ⟨r1, r2, r3, r4, r5, r6⟩ := chgR_ok hv hu ⟨k0, k2⟩ ha ht hi p6 p7 hn
  obtain ⟨z1, z2, z3', z4, _⟩ := ok
  generalize chgR m k a t i = M at *
  have hl2 : (rsO M fs).length = fs.length + 1 := by simp [rsO]
  rw [← hl2]
  refine row_isL (by rw [hl2, reach_eq]; omega) (.cons (a := mapO M) ⟨.nils, tI M.starts, tI M.owners, rfl, ?_, ?_, ?_, isL_nil 24 RRing, ?_, (show I64 M.epoch from ⟨by omega, by omega⟩), tI_is r1 r5, tI_is r2 r6⟩ (Cat.put c))
  · exact (show I64 2 from ⟨by omega, by omega⟩)
  all_goals exact i64_0
theorem fit_one {nodes : Int} {f : Feat} (h : featOk f) : fitP nodes [putF f] := by
  refine ⟨⟨by simp, by simp, fun i hi => ?_⟩, fun h => absurd h (by show ¬ (0 : Int) = 2; decide)⟩
  obtain rfl : i = 0 := by simp at hi; omega
  exact ⟨.inl ⟨rfl, h, rfl, rfl, rfl, rfl⟩, fun _ => rfl, fun _ j hj => by omega⟩
theorem put_loop (g : Pg P tab) {fs : List Feat} {w : AV} (hw : IsL 40 RFeat w fs) (hsm : fs.length ≤ 31) (ok : featsOk fs) {node nodes : Int} {m : Mp} {X N0 : Nat} (hX : N0 ≤ X) (n : Nat) :
    ∀ (i : Nat) (t : T AV) (h : Heap) (k : List Fr) (Q : Ex → T AV → Heap → Prop), i + n = fs.length → N0 ≤ h.next → SS h X node nodes m (keepS m node (fs.take i)) → sg t 14 = .int .i64 i → sg t 12 = .ptr X 0 → sg t 3 = w →
    (∀ t' h', SS h' X node nodes m (keepS m node fs) → (∀ b, b < N0 → h'.get b = h.get b) → N0 ≤ h'.next → (∀ j, j < 14 → sg t' j = sg t j) → Un P k Q (.exit 2) t' h') → Lp P b4_0 t h (Un P k Q) := by
  induction n with
  | zero =>
    intro i t h k Q hn hN ss t14 t12 t3 hQ
    refine g.lpe b4_0.eq_1 ?_
    have c1 : ¬ ((i : Int) < (fs.length : Int)) := by omega
    simp only [t3, t14, hw.len, c1, RX, VOp.fresh, bxC, bsC, un, most, callsOf, seval, Int.reducePow, ↓reduceIte, Nat.reduceEqDiff, reduceCtorEq]
    rw [List.take_of_length_le (by omega)] at ss
    exact hQ _ _ ss (fun _ _ => rfl) hN fun j hj => by simp only [sg_set]; repeat rw [if_neg (by omega)]
  | succ n ih =>
    intro i t h k Q hn hN ss t14 t12 t3 hQ
    refine g.lpe b4_0.eq_1 ?_
    have c1 : ((i : Int) < (fs.length : Int)) := by omega
    have w1 : IntKind.i64.wrap ((i : Int) + 1) = ((i + 1 : Nat) : Int) := by rw [w64 (by omega) (by omega)]; push_cast; rfl
    obtain ⟨ci, rr, ⟨va, rfl, i1, i2, i3⟩, hat⟩ := hw.at zFeat i (by omega)
    have ova := isL_one i3
    have hs : fs.take (i + 1) = fs.take i ++ [fs[i]] := List.take_succ_eq_append_getElem (by omega)
    have hasc : Asc (fs.take i ++ fs[i] :: fs.drop (i + 1)) := by
      rw [List.getElem_cons_drop, List.take_append_drop]
      exact ok.asc
    have hfo : featOk fs[i] := by
      have := (ok i (by omega)).1
      rwa [getD_feat (by omega)] at this
    simp only [t3, t12, t14, hw.len, c1, hat, ova, HN, RW, RX, VOp.fresh, bxC, bsC, un, most, callsOf, seval, Int.reducePow, ↓reduceIte, Nat.reduceEqDiff, reduceCtorEq]
    have x1 := Ext.mk (h := h) (.cells [.int .i64 0, .int .i64 fs[i].id, .int .i64 fs[i].shape, va, .int .i64 0, .int .i64 0, .nils, .nils] 52 0)
    have g1 : (h.mk' h.next (.cells [.int .i64 0, .int .i64 fs[i].id, .int .i64 fs[i].shape, va, .int .i64 0, .int .i64 0, .nils, .nils] 52 0)).get h.next = some (.cells [.int .i64 0, .int .i64 fs[i].id, .int .i64 fs[i].shape, va, .int .i64 0, .int .i64 0, .nils, .nils] 52 0) := by rw [Heap.get_mk, if_pos rfl]
    have n1 : (h.mk' h.next (.cells [.int .i64 0, .int .i64 fs[i].id, .int .i64 fs[i].shape, va, .int .i64 0, .int .i64 0, .nils, .nils] 52 0)).next = h.next + 1 := by rw [mk_next]; omega
    generalize h.mk' h.next (.cells [.int .i64 0, .int .i64 fs[i].id, .int .i64 fs[i].shape, va, .int .i64 0, .int .i64 0, .nils, .nils] 52 0) = h1 at *
    have lX : X < h.next := by obtain ⟨_, _, _, _, _, _, _, _, _, _, q⟩ := ss; exact q
    have hop : ROp (putF fs[i]) [.int .i64 0, .int .i64 fs[i].id, .int .i64 fs[i].shape, va, .int .i64 0, .int .i64 0, .nils, .nils] := RPut.op ⟨va, rfl, i1, i2, i3⟩
    have kl := keepS_len m node (fs.take i)
    rw [List.length_take] at kl
    refine apply_cl g (OpsV.one hop (by omega) g1) (by simp [blkOf]; omega) (ss.ext x1) (by simp; omega) (fun no => absurd (fit_one hfo) no) fun _ h2 x2 s2 => ?_
    have es : ([putF fs[i]].foldl (stS node) (m, keepS m node (fs.take i))) = (m, keepS m node (fs.take (i + 1))) := by
      rw [hs, ← put_first hasc]
      rfl
    rw [es] at s2
    simp only [t14, w1, RX, VOp.fresh, bxC, bsC, un, most, callsOf, seval, Int.reducePow, ↓reduceIte, Nat.reduceEqDiff, reduceCtorEq]
    refine ih (i + 1) _ h2 k Q (by omega) (by have := x1.1; have := x2.1; omega) s2 ?_ ?_ ?_ fun t' h' q1 q2 q3 q4 => hQ t' h' q1 (fun b hb => ?_) q3 fun j hj => ?_
    · simp only [sg_set, Nat.reduceEqDiff, ↓reduceIte]
    · simp only [t12, sg_set, Nat.reduceEqDiff, ↓reduceIte]
    · simp only [t3, sg_set, Nat.reduceEqDiff, ↓reduceIte]
    · rw [q2 b hb, x2.2 b (by omega) (by omega), x1.2 b (by omega)]
    · rw [q4 j hj]; simp only [sg_set]; repeat rw [if_neg (by omega)]
theorem cmp_loop (g : Pg P tab) {fs : List Feat} {w y : AV} (hw : IsL 40 RFeat w fs) (hsm : fs.length ≤ 31) {node nodes : Int} {M : Mp} {X : Nat} (hy : IsL 112 ROp y (rsO M fs)) {h : Heap} (ss : SS h X node nodes M (keepS M node fs)) (n : Nat) :
    ∀ (i : Nat) (t : T AV) (k : List Fr) (Q : Ex → T AV → Heap → Prop), i + n = fs.length → sg t 15 = .int .i64 (keepS M node (fs.take i)).length → sg t 16 = .int .i64 i → sg t 12 = .ptr X 0 → sg t 3 = w → sg t 9 = y → sg t 11 = .int .i64 node →
    (∀ t', sg t' 15 = .int .i64 (keepS M node fs).length → (∀ j, j < 15 → sg t' j = sg t j) → Un P k Q (.exit 4) t' h) → Lp P b4_1 t h (Un P k Q) := by
  obtain ⟨e, ver, v, u, wf, gX, hv, hu, rw0, nX, lX⟩ := ss
  obtain ⟨c, r, ⟨v0, a, b, rfl, _, _, _, _, _, _, ia, ib⟩, tc, tr, hat0⟩ := getOp hy 0 (by simp [rsO])
  have hat0' := fun hh => hat0 hh .i64
  simp only [Int.ofNat_zero, Int.natCast_zero, Int.cast_ofNat_Int] at hat0'
  have em : (rsO M fs).getD 0 op0 = mapO M := rfl
  rw [em] at ia ib hat0'
  have oa := isL_one ia
  have ob := isL_one ib
  have emm : (mapO M).m = M := rfl
  rw [emm] at ia ib hat0'
  induction n with
  | zero =>
    intro i t k Q hn t15 t16 t12 t3 t9 t11 hQ
    refine g.lpe b4_1.eq_1 ?_
    have c1 : ¬ ((i : Int) < (fs.length : Int)) := by omega
    simp only [t3, t16, hw.len, c1, RX, VOp.fresh, bxC, bsC, un, most, callsOf, seval, Int.reducePow, ↓reduceIte, Nat.reduceEqDiff, reduceCtorEq]
    rw [List.take_of_length_le (by omega)] at t15
    refine hQ _ ?_ fun j hj => by simp only [sg_set]; repeat rw [if_neg (by omega)]
    simp only [t15, sg_set, Nat.reduceEqDiff, ↓reduceIte]
  | succ n ih =>
    intro i t k Q hn t15 t16 t12 t3 t9 t11 hQ
    refine g.lpe b4_1.eq_1 ?_
    have c1 : ((i : Int) < (fs.length : Int)) := by omega
    have w1 : IntKind.i64.wrap ((i : Int) + 1) = ((i + 1 : Nat) : Int) := by rw [w64 (by omega) (by omega)]; push_cast; rfl
    obtain ⟨ci, rr, ⟨va, rfl, i1, i2, i3⟩, hat⟩ := hw.at zFeat i (by omega)
    have ova := isL_one i3
    have hs : fs.take (i + 1) = fs.take i ++ [fs[i]] := List.take_succ_eq_append_getElem (by omega)
    obtain ⟨ky, kn⟩ := keepS_snoc M node (fs.take i) fs[i]
    rw [← hs] at ky kn
    simp only [t3, t9, t11, t12, t15, t16, hw.len, c1, hat, hat0', oa, ob, ova, RX, VOp.fresh, bxC, bsC, un, most, callsOf, seval, Int.reducePow, ↓reduceIte, Nat.reduceEqDiff, reduceCtorEq]
    refine (rholds_pu g ia ib i3 node).go (by simp [AV.tolds, AV.told, ia.told tInt, ib.told tInt, i3.told tRing]) ?_
    rintro _ ⟨bb, rfl, hbb⟩
    cases bb with
    | false =>
      simp only [t16, w1, RX, VOp.fresh, bxC, bsC, un, most, callsOf, seval, Int.reducePow, ↓reduceIte, Nat.reduceEqDiff, reduceCtorEq]
      refine ih (i + 1) _ k Q (by omega) ?_ ?_ ?_ ?_ ?_ ?_ fun t' q1 q2 => hQ t' q1 fun j hj => by rw [q2 j hj]; simp only [sg_set]; repeat rw [if_neg (by omega)]
      · simp only [t15, sg_set, Nat.reduceEqDiff, ↓reduceIte]
        rw [kn fun h => by have := hbb.2 h; cases this]
      · simp only [sg_set, Nat.reduceEqDiff, ↓reduceIte]
      · simp only [t12, sg_set, Nat.reduceEqDiff, ↓reduceIte]
      · simp only [t3, sg_set, Nat.reduceEqDiff, ↓reduceIte]
      · simp only [t9, sg_set, Nat.reduceEqDiff, ↓reduceIte]
      · simp only [t11, sg_set, Nat.reduceEqDiff, ↓reduceIte]
    | true =>
      have hh := hbb.1 rfl
      have efs : fs = fs.take i ++ fs[i] :: fs.drop (i + 1) := by rw [List.getElem_cons_drop, List.take_append_drop]
      have hat2 : ∃ hi : (keepS M node (fs.take i)).length < (keepS M node fs).length, (keepS M node fs)[(keepS M node (fs.take i)).length] = fs[i] := by
        have := keepS_at (M := M) (node := node) (a := fs.take i) (b := fs.drop (i + 1)) hh
        rwa [← efs] at this
      obtain ⟨hlt, hge⟩ := hat2
      have c2 : ¬ ((keepS M node fs).length : Int) ≤ ((keepS M node (fs.take i)).length : Int) := by omega
      have kl := keepS_len M node (fs.take i)
      rw [List.length_take] at kl
      have w2 : IntKind.i64.wrap (((keepS M node (fs.take i)).length : Int) + 1) = (((keepS M node (fs.take i)).length + 1 : Nat) : Int) := by rw [w64 (by omega) (by omega)]; push_cast; rfl
      obtain ⟨bw, ew, vw, cs, vb, hbw, hgw, k1, k2, k3, hia, pt1, pt3⟩ := rw0.look hlt
      rw [hge] at k1 k2 k3 pt1 pt3
      simp only [t12, t15, t16, t3, gX, rw0.len, c2, hia, hgw, pt3, hat, RX, VOp.fresh, bxC, bsC, un, most, callsOf, seval, Int.reducePow, ↓reduceIte, Nat.reduceEqDiff, reduceCtorEq]
      refine (sFeat_pu g (f := fs[i]) ⟨vb, rfl, k1, k2, k3⟩ ⟨va, rfl, i1, i2, i3⟩).go (by simp [AV.tolds, AV.told, k3.told tRing, i3.told tRing]) ?_
      rintro _ rfl
      simp only [t15, t16, w1, w2, RX, VOp.fresh, bxC, bsC, un, most, callsOf, seval, Int.reducePow, ↓reduceIte, Nat.reduceEqDiff, reduceCtorEq]
      refine ih (i + 1) _ k Q (by omega) ?_ ?_ ?_ ?_ ?_ ?_ fun t' q1 q2 => hQ t' q1 fun j hj => by rw [q2 j hj]; simp only [sg_set]; repeat rw [if_neg (by omega)]
      · simp only [sg_set, Nat.reduceEqDiff, ↓reduceIte]
        rw [ky hh, List.length_append, List.length_singleton]
      · simp only [sg_set, Nat.reduceEqDiff, ↓reduceIte]
      · simp only [t12, sg_set, Nat.reduceEqDiff, ↓reduceIte]
      · simp only [t3, sg_set, Nat.reduceEqDiff, ↓reduceIte]
      · simp only [t9, sg_set, Nat.reduceEqDiff, ↓reduceIte]
      · simp only [t11, sg_set, Nat.reduceEqDiff, ↓reduceIte]
end
end Go.Proofs.Ythmkenkjfmbkiaa.VM
namespace Go.Proofs.Ythmkenkjfmbkiaa.VM
attribute [local irreducible] Af Nx EvO Ev Un Gd Cd EvR EvQ EvC Nc Gc Lp EvM NxM AfM GdM EvMR EvMQ EvMD EvMC Nm Gm
theorem opsOk.eight {nodes : Int} {l : List Op} (h : opsOk nodes l) : opsOk 8 l := by
  obtain ⟨h1, h2, h3⟩ := h
  refine ⟨h1, h2, fun i hi => ?_⟩
  obtain ⟨a, b, c⟩ := h3 i hi
  refine ⟨?_, b, c⟩
  rcases a with a | a | ⟨a1, a2, a3⟩
  · exact .inl a
  · exact .inr (.inl a)
  · exact .inr (.inr ⟨a1, a2.eight, a3⟩)
theorem told_blk {x : AV} (h : x.told = true) : blkOf x = [] := by
  cases x <;> first | rfl | simp [AV.told] at h
section
variable {P : Program}
theorem node_loop (g : Pg P tab) {fs : List Feat} {w y v u : AV} (hw : IsL 40 RFeat w fs) (hsm : fs.length ≤ 31) (ok : featsOk fs) {nodes : Int} {m M : Mp} (hv : IsL 8 RInt v m.starts) (hu : IsL 8 RInt u m.owners) (okm : mpOk nodes m) (okM : fitP nodes (rsO M fs)) (hy : IsL 112 ROp y (rsO M fs)) (n : Nat) :
    ∀ (j : Nat) (t : T AV) (h : Heap) (k : List Fr) (Q : Ex → T AV → Heap → Prop), (j : Int) + n = nodes → (∃ e ver, h.get 0 = some (.cells [.int .i64 m.epoch, v, u] e ver)) → 0 < h.next → sg t 11 = .int .i64 j → sg t 1 = .int .i64 nodes → sg t 4 = .ptr 0 0 → sg t 3 = w → sg t 9 = y →
    (∀ t' h', sg t' 9 = y → sg t' 1 = .int .i64 nodes → Un P k Q (.exit 0) t' h') → Lp P b4_2 t h (Un P k Q) := by
  have okm' := okm
  obtain ⟨p1, p2, p3, p4, p5, p6, p7, p8, p9⟩ := okm'
  have ov := isL_one hv
  have ou := isL_one hu
  have hyb : blkOf y = [] := told_blk (hy.told tOp)
  have hyl : (rsO M fs).length = fs.length + 1 := by simp [rsO]
  induction n with
  | zero =>
    intro j t h k Q hn hg h0 t11 t1 t4 t3 t9 hQ
    refine g.lpe b4_2.eq_1 ?_
    have c1 : ¬ ((j : Int) < nodes) := by omega
    simp only [t11, t1, c1, RX, VOp.fresh, bxC, bsC, un, most, callsOf, seval, Int.reducePow, ↓reduceIte, Nat.reduceEqDiff, reduceCtorEq]
    refine hQ _ _ ?_ ?_
    · simp only [t9, sg_set, Nat.reduceEqDiff, ↓reduceIte]
    · simp only [t1, sg_set, Nat.reduceEqDiff, ↓reduceIte]
  | succ n ih =>
    intro j t h k Q hn hg h0 t11 t1 t4 t3 t9 hQ
    refine g.lpe b4_2.eq_1 ?_
    have c1 : ((j : Int) < nodes) := by omega
    have w1 : IntKind.i64.wrap ((j : Int) + 1) = ((j + 1 : Nat) : Int) := by rw [w64 (by omega) (by omega)]; push_cast; rfl
    obtain ⟨e, ver, g0⟩ := hg
    simp only [t11, t1, t4, g0, c1, ov, ou, RW, RX, VOp.fresh, bxC, bsC, un, most, callsOf, seval, Int.reducePow, ↓reduceIte, Nat.reduceEqDiff, reduceCtorEq]
    refine newStore_cl g hv hu okm (by omega) c1 fun X h1 x1 hX ss => ?_
    simp only [RW, RX, VOp.fresh, bxC, bsC, un, most, callsOf, seval, Int.reducePow, ↓reduceIte, Nat.reduceEqDiff, reduceCtorEq]
    refine put_loop g hw hsm ok hX fs.length 0 _ h1 _ _ (by omega) x1.1 ss ?_ ?_ ?_ fun t' h2 s2 kp hN ks => ?_
    · simp only [sg_set, Nat.reduceEqDiff, ↓reduceIte]
      rfl
    · simp only [sg_set, Nat.reduceEqDiff, ↓reduceIte]
    · simp only [t3, sg_set, Nat.reduceEqDiff, ↓reduceIte]
    · have k1 : sg t' 1 = .int .i64 nodes := (ks 1 (by omega)).trans (by simp only [t1, sg_set, Nat.reduceEqDiff, ↓reduceIte])
      have k3 : sg t' 3 = w := (ks 3 (by omega)).trans (by simp only [t3, sg_set, Nat.reduceEqDiff, ↓reduceIte])
      have k4 : sg t' 4 = .ptr 0 0 := (ks 4 (by omega)).trans (by simp only [t4, sg_set, Nat.reduceEqDiff, ↓reduceIte])
      have k9 : sg t' 9 = y := (ks 9 (by omega)).trans (by simp only [t9, sg_set, Nat.reduceEqDiff, ↓reduceIte])
      have k11 : sg t' 11 = .int .i64 j := (ks 11 (by omega)).trans (by simp only [t11, sg_set, Nat.reduceEqDiff, ↓reduceIte])
      have k12 : sg t' 12 = .ptr X 0 := (ks 12 (by omega)).trans (by simp only [sg_set, Nat.reduceEqDiff, ↓reduceIte])
      clear ks
      have kl := keepS_len m j fs
      simp only [k9, k12, RX, VOp.fresh, bxC, bsC, un, most, callsOf, seval, Int.reducePow, ↓reduceIte, Nat.reduceEqDiff, reduceCtorEq]
      refine apply_cl g (OpsV.told hy) (by rw [hyb]; simp) s2 (by omega) (fun no => absurd okM no) fun _ h3 x3 s3 => ?_
      rw [ops_store ok.asc] at s3
      simp only [RW, RX, VOp.fresh, bxC, bsC, un, most, callsOf, seval, Int.reducePow, ↓reduceIte, Nat.reduceEqDiff, reduceCtorEq]
      refine cmp_loop g hw hsm hy s3 fs.length 0 _ _ _ (by omega) ?_ ?_ ?_ ?_ ?_ ?_ fun t4' q15 ks => ?_
      · simp only [sg_set, Nat.reduceEqDiff, ↓reduceIte]
        rfl
      · simp only [sg_set, Nat.reduceEqDiff, ↓reduceIte]
        rfl
      · simp only [k12, sg_set, Nat.reduceEqDiff, ↓reduceIte]
      · simp only [k3, sg_set, Nat.reduceEqDiff, ↓reduceIte]
      · simp only [k9, sg_set, Nat.reduceEqDiff, ↓reduceIte]
      · simp only [k11, sg_set, Nat.reduceEqDiff, ↓reduceIte]
      · have l1 : sg t4' 1 = .int .i64 nodes := (ks 1 (by omega)).trans (by simp only [k1, sg_set, Nat.reduceEqDiff, ↓reduceIte])
        have l3 : sg t4' 3 = w := (ks 3 (by omega)).trans (by simp only [k3, sg_set, Nat.reduceEqDiff, ↓reduceIte])
        have l4 : sg t4' 4 = .ptr 0 0 := (ks 4 (by omega)).trans (by simp only [k4, sg_set, Nat.reduceEqDiff, ↓reduceIte])
        have l9 : sg t4' 9 = y := (ks 9 (by omega)).trans (by simp only [k9, sg_set, Nat.reduceEqDiff, ↓reduceIte])
        have l11 : sg t4' 11 = .int .i64 j := (ks 11 (by omega)).trans (by simp only [k11, sg_set, Nat.reduceEqDiff, ↓reduceIte])
        have l12 : sg t4' 12 = .ptr X 0 := (ks 12 (by omega)).trans (by simp only [k12, sg_set, Nat.reduceEqDiff, ↓reduceIte])
        clear ks
        obtain ⟨e3, ver3, v3, u3, w3, gX3, _, _, r3, _, lX3⟩ := s3
        simp only [q15, l11, l12, gX3, r3.len, w1, RX, VOp.fresh, bxC, bsC, un, most, callsOf, seval, Int.reducePow, ↓reduceIte, Nat.reduceEqDiff, reduceCtorEq]
        refine ih (j + 1) _ h3 k Q (by omega) ⟨e, ver, ?_⟩ (by omega) ?_ ?_ ?_ ?_ ?_ hQ
        · rw [x3.2 0 (by have := hN; omega) (by omega), kp 0 h0, x1.2 0 h0]
          exact g0
        · simp only [sg_set, Nat.reduceEqDiff, ↓reduceIte]
        · simp only [l1, sg_set, Nat.reduceEqDiff, ↓reduceIte]
        · simp only [l4, sg_set, Nat.reduceEqDiff, ↓reduceIte]
        · simp only [l3, sg_set, Nat.reduceEqDiff, ↓reduceIte]
        · simp only [l9, sg_set, Nat.reduceEqDiff, ↓reduceIte]
theorem reshardHolds_pu (g : Pg P tab) (hins : InsOk P) {m : Mp} {v u w : AV} {fs : List Feat} (hv : IsL 8 RInt v m.starts) (hu : IsL 8 RInt u m.owners) (hw : IsL 40 RFeat w fs) (nodes : Int) {k a t : Int} (ha : I64 a) (ht : I64 t) :
    Pu P 4 [.agg [.int .i64 m.epoch, v, u], .int .i64 nodes, .agg [.int .i64 k, .int .i64 a, .int .i64 t], w] (fun z => z = .bool true) := by
  refine g.pu (vf := v4) rfl rfl ?_
  have ov := isL_one hv
  have ou := isL_one hu
  simp only [v4, ov, ou, RW, RX, VOp.fresh, bxC, bsC, un, most, callsOf, seval, Int.reducePow, ↓reduceIte, Nat.reduceEqDiff, reduceCtorEq]
  refine (awake22_pu g hins).go rfl ?_
  rintro _ rfl
  simp only [ov, ou, RW, RX, VOp.fresh, bxC, bsC, un, most, callsOf, seval, Int.reducePow, ↓reduceIte, Nat.reduceEqDiff, reduceCtorEq]
  refine (rops_ft g hins hv hu hw ha ht).cl ?_
  rintro _ (⟨no, rfl⟩ | ⟨i, y, yes, hy, rfl⟩)
  · simp only [RW, RX, VOp.fresh, bxC, bsC, un, most, callsOf, seval, Int.reducePow, ↓reduceIte, Nat.reduceEqDiff, reduceCtorEq]
    refine (num_pu g _).go rfl ?_
    rintro _ rfl
    simp only [RW, RX, VOp.fresh, bxC, bsC, un, most, callsOf, seval, Int.reducePow, ↓reduceIte, Nat.reduceEqDiff, reduceCtorEq]
  · obtain ⟨hch, hsm, hok⟩ := yes
    have okm := hch.1.1
    have okM : fitP nodes (rsO (chgR m k a t i) fs) := ⟨hok.eight, fun _ => hch.2.2.2.2⟩
    generalize chgR m k a t i = M at *
    have oy := isL_one hy
    have hyl : (rsO M fs).length = fs.length + 1 := by simp [rsO]
    simp only [oy, RW, RX, VOp.fresh, bxC, bsC, un, most, callsOf, seval, Int.reducePow, ↓reduceIte, Nat.reduceEqDiff, reduceCtorEq]
    refine (num_pu g _).go rfl ?_
    rintro _ rfl
    simp only [RW, RX, VOp.fresh, bxC, bsC, un, most, callsOf, seval, Int.reducePow, ↓reduceIte, Nat.reduceEqDiff, reduceCtorEq]
    refine (rFeats_pu g hw).go (by simp [AV.tolds, hw.told tFeat]) ?_
    rintro _ ⟨b, rfl, hb⟩
    cases b with
    | false =>
      simp only [RX, VOp.fresh, bxC, bsC, un, most, callsOf, seval, Int.reducePow, ↓reduceIte, Nat.reduceEqDiff, reduceCtorEq]
      refine (rFeats_pu g hw).go (by simp [AV.tolds, hw.told tFeat]) ?_
      rintro _ ⟨b2, rfl, hb2⟩
      cases b2 with
      | false => simp only [RX, VOp.fresh, bxC, bsC, un, most, callsOf, seval, Int.reducePow, ↓reduceIte, Nat.reduceEqDiff, reduceCtorEq]
      | true => exact absurd (hb.2 (hb2.1 rfl)) (by simp)
    | true =>
      have okf := hb.1 rfl
      have c1 : ¬ ((rsO M fs).length : Int) = 0 := by omega
      simp only [hy.len, c1, RX, VOp.fresh, bxC, bsC, un, most, callsOf, seval, Int.reducePow, ↓reduceIte, Nat.reduceEqDiff, reduceCtorEq]
      refine node_loop g hw hsm okf hv hu okm okM hy nodes.toNat 0 _ _ _ _ (by have := okm.1; omega) ⟨24, 0, by rfl⟩ (by simp [mk_next]) ?_ ?_ ?_ ?_ ?_ fun t' h' q9 q1 => ?_
      · simp only [sg_set, Nat.reduceEqDiff, ↓reduceIte]
        rfl
      · simp only [sg_set, Nat.reduceEqDiff, ↓reduceIte]
      · simp only [sg_set, Nat.reduceEqDiff, ↓reduceIte]
      · simp only [sg_set, Nat.reduceEqDiff, ↓reduceIte]
      · simp only [sg_set, Nat.reduceEqDiff, ↓reduceIte]
      · simp only [q9, q1, RX, VOp.fresh, bxC, bsC, un, most, callsOf, seval, Int.reducePow, ↓reduceIte, Nat.reduceEqDiff, reduceCtorEq]
        refine (fit_pu g hy nodes).go (by simp [AV.tolds, AV.told, hy.told tOp]) ?_
        rintro _ ⟨b3, rfl, hb3⟩
        obtain rfl : b3 = true := hb3.2 okM
        simp only [RX, VOp.fresh, bxC, bsC, un, most, callsOf, seval, Int.reducePow, ↓reduceIte, Nat.reduceEqDiff, reduceCtorEq]
end
end Go.Proofs.Ythmkenkjfmbkiaa.VM
