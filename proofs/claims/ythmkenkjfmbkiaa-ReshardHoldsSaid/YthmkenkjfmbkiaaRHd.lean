/- Part of a proof: what stands for the program, and its walk. No condition. -/
import Derived.Below
import Derived.ChangeArms
import Derived.ChangeMaps5
import Derived.Laws.Cells
import Derived.Laws.IdiomCopy
import Derived.MapKept
import Derived.OrdersIn
import Derived.RangeFuncLeaves
import Derived.RangeFuncRecord
import Derived.Shelf.GgSortFunc.RowK
import Derived.Shelf.SortM.Plain
import Derived.Shelf.SortM.SortNone
import Derived.Shelf.Spec.SlicesInsertGrow
import Derived.SizedLaws
import Derived.WalkKit
import Derived.WalkLawsBesides
import GoSem.Claim
import Derived.Test.YthmkenkjfmbkiaaRHc
set_option linter.unusedSimpArgs false
set_option linter.unusedVariables false
set_option linter.defProp false
set_option maxHeartbeats 1000000
set_option linter.unusedSimpArgs false
set_option linter.unusedVariables false
set_option linter.defProp false
set_option maxHeartbeats 1000000
namespace Go.Proofs.Ythmkenkjfmbkiaa.VM
attribute [local irreducible] Af Nx EvO Ev Un Gd Cd EvR EvQ EvC Nc Gc Lp EvM NxM AfM GdM EvMR EvMQ EvMD EvMC Nm Gm
section
variable {P : Program}
def coordOk (x : Int) : Prop := 0 ≤ x ∧ x ≤ 4294967295
instance (x : Int) : Decidable (coordOk x) := by unfold coordOk; infer_instance
def ptOk (p : Pt) : Prop := coordOk p.x ∧ coordOk p.y
instance (p : Pt) : Decidable (ptOk p) := by unfold ptOk; infer_instance
theorem coord_pu (g : Pg P tab) (a : Int) : Pu P 119 [.int .i64 a] (fun v => v = .bool (decide (coordOk a))) := by
  refine g.pu (vf := v119) rfl rfl ?_
  simp +contextual (maxSteps := 2000000) (disch := omega) only [v119, coordOk, RX, VOp.fresh, bxC, bsC, un, most, callsOf, seval, Int.reducePow, ↓reduceIte, Nat.reduceEqDiff, reduceCtorEq]
theorem pointMay_pu (g : Pg P tab) (p : Pt) : Pu P 114 [.agg [.int .i64 p.x, .int .i64 p.y]] (fun v => v = .bool (decide (ptOk p))) := by
  refine g.pu (vf := v114) rfl rfl ?_
  simp +contextual (maxSteps := 2000000) (disch := omega) only [v114, RX, VOp.fresh, bxC, bsC, un, most, callsOf, seval, Int.reducePow, ↓reduceIte, Nat.reduceEqDiff, reduceCtorEq]
  refine (coord_pu g _).go rfl ?_
  rintro v rfl
  simp +contextual (maxSteps := 2000000) (disch := omega) only [RX, VOp.fresh, bxC, bsC, un, most, callsOf, seval, Int.reducePow, ↓reduceIte, Nat.reduceEqDiff, reduceCtorEq]
  refine ⟨fun h1 => ?_, fun h1 => ?_⟩
  · refine (coord_pu g _).go rfl ?_
    rintro v rfl
    simp +contextual (maxSteps := 2000000) (disch := omega) only [h1, ptOk, RX, VOp.fresh, bxC, bsC, un, most, callsOf, seval, Int.reducePow, ↓reduceIte, Nat.reduceEqDiff, reduceCtorEq]
  · simp +contextual (maxSteps := 2000000) (disch := omega) only [h1, ptOk, RX, VOp.fresh, bxC, bsC, un, most, callsOf, seval, Int.reducePow, ↓reduceIte, Nat.reduceEqDiff, reduceCtorEq]
def mpZero (m : Mp) : Prop := m.epoch = 0 ∧ m.starts = [] ∧ m.owners = []
theorem len0 {α : Type} {l : List α} : ((l.length : Int) = 0) = (l = []) := by
  rw [eq_iff_iff]; cases l <;> simp <;> omega
theorem noMap_pu (g : Pg P tab) {m : Mp} {v u : AV} (hv : IsL 8 RInt v m.starts) (hu : IsL 8 RInt u m.owners) (r : List AV) : Pu P 96 [.rp (.int .i64 m.epoch :: v :: u :: r)] (IsB (mpZero m)) := by
  refine g.pu (vf := v96) rfl rfl ?_
  simp +contextual (maxSteps := 2000000) (disch := omega) only [v96, hv.len, hu.len, mpZero, len0, RX, VOp.fresh, bxC, bsC, un, most, callsOf, seval, Int.reducePow, ↓reduceIte, Nat.reduceEqDiff, reduceCtorEq]
def ftZero (f : Feat) : Prop := f.id = 0 ∧ f.shape = 0 ∧ f.rings = []
theorem noFeature_pu (g : Pg P tab) {f : Feat} {v : AV} (hv : IsL 24 RRing v f.rings) (r : List AV) : Pu P 97 [.rp (.int .i64 f.id :: .int .i64 f.shape :: v :: r)] (IsB (ftZero f)) := by
  refine g.pu (vf := v97) rfl rfl ?_
  simp +contextual (maxSteps := 2000000) (disch := omega) only [v97, hv.len, ftZero, len0, RX, VOp.fresh, bxC, bsC, un, most, callsOf, seval, Int.reducePow, ↓reduceIte, Nat.reduceEqDiff, reduceCtorEq]
def mpAt (nodes : Int) (m : Mp) (i : Nat) : Prop := m.starts.getD i 0 < 4294967296 ∧ (i = 0 ∨ m.starts.getD (i - 1) 0 < m.starts.getD i 0) ∧ 0 ≤ m.owners.getD i 0 ∧ m.owners.getD i 0 < nodes
def mpOk (nodes : Int) (m : Mp) : Prop := 1 ≤ nodes ∧ nodes ≤ 8 ∧ 1 ≤ m.epoch ∧ m.epoch ≤ 65535 ∧ 1 ≤ m.starts.length ∧ m.starts.length ≤ 32 ∧ m.owners.length = m.starts.length ∧ m.starts.getD 0 0 = 0 ∧ ∀ i, i < m.starts.length → mpAt nodes m i
theorem getInt {v : AV} {l : List Int} (h : IsL 8 RInt v l) (i : Nat) (hi : i < l.length) : ∃ r, AV.tolds r = true ∧ ∀ (hh : Heap) (kk : IntKind), iaV hh 1 none v (.int kk (i : Int)) = .val (.rp (.int .i64 (l.getD i 0) :: r)) hh := by
  obtain ⟨ci, r, ⟨e, _⟩, ht, hia⟩ := h.get zInt tInt i hi
  have : l.getD i 0 = l[i] := by simp [List.getD_eq_getElem?_getD, List.getElem?_eq_getElem hi]
  refine ⟨r, ?_, fun hh kk => ?_⟩
  · rw [e] at ht; exact ht
  · rw [hia, e, this]; rfl
theorem mapMay_loop (g : Pg P tab) {nodes : Int} {m : Mp} {v u : AV} (hv : IsL 8 RInt v m.starts) (hu : IsL 8 RInt u m.owners) (hl : m.owners.length = m.starts.length) (hh : Heap) {e : TypeId} {ver : Nat} (hg : hh.get 0 = some (.cells [.int .i64 m.epoch, v, u] e ver)) (n : Nat) :
    ∀ (i : Nat) (s : T AV) (k : List Fr) (Q : Ex → T AV → Heap → Prop), i + n = m.starts.length → sg s 1 = .int .i64 nodes → sg s 2 = .ptr 0 0 → sg s 52 = v → sg s 53 = .int .i64 m.starts.length → sg s 54 = .int .i64 i →
      ((∀ j, i ≤ j → j < m.starts.length → mpAt nodes m j) → ∀ s', Un P k Q (.exit 0) s' hh) → ((¬ ∀ j, i ≤ j → j < m.starts.length → mpAt nodes m j) → ∀ s', sg s' 4 = .bool false → Un P k Q .ret s' hh) → Lp P b35_0 s hh (Un P k Q) := by
  have hb := hv.bound (by decide)
  induction n with
  | zero =>
    intro i s k Q hi h1 h2 h52 h53 h54 hK hR
    refine g.lpe b35_0.eq_1 ?_
    have c1 : ¬ ((i : Int) < (m.starts.length : Int)) := by omega
    simp only [h54, h53, c1, RX, VOp.fresh, bxC, bsC, un, most, callsOf, seval, Int.reducePow, ↓reduceIte, Nat.reduceEqDiff, reduceCtorEq]
    exact hK (fun j h1 h2 => by omega) _
  | succ n ih =>
    intro i s k Q hi h1 h2 h52 h53 h54 hK hR
    refine g.lpe b35_0.eq_1 ?_
    have c1 : (i : Int) < (m.starts.length : Int) := by omega
    obtain ⟨r1, _, g1⟩ := getInt hv i (by omega)
    obtain ⟨r2, _, g2⟩ := getInt hu i (by omega)
    have w1 : IntKind.i64.wrap ((i : Int) + 1) = ((i + 1 : Nat) : Int) := by rw [w64 (by omega) (by omega)]; push_cast; rfl
    have next : mpAt nodes m i → ∀ s' : T AV, sg s' 1 = .int .i64 nodes → sg s' 2 = .ptr 0 0 → sg s' 52 = v → sg s' 53 = .int .i64 m.starts.length → sg s' 54 = .int .i64 ((i + 1 : Nat) : Int) → Lp P b35_0 s' hh (Un P k Q) := by
      intro hok s' a1 a2 a3 a4 a5
      refine ih (i + 1) s' k Q (by omega) a1 a2 a3 a4 a5 (fun hall => hK fun j h1 h2 => ?_) (fun hn => hR fun hall => hn fun j h1 h2 => hall j (by omega) h2)
      rcases Nat.lt_or_ge i j with h | h
      · exact hall j h h2
      · have : j = i := by omega
        subst this; exact hok
    have stop : ¬ mpAt nodes m i → ∀ s' : T AV, sg s' 4 = .bool false → Un P k Q .ret s' hh := fun hn => hR fun hall => hn (hall i (Nat.le_refl _) (by omega))
    by_cases hi0 : i = 0
    · have c2 : ¬ ((0 : Int) < (i : Int)) := by omega
      simp +contextual (maxSteps := 2000000) only [h1, h2, h52, h53, h54, c1, g1, g2, hg, w1, c2, RX, VOp.fresh, bxC, bsC, un, most, callsOf, seval, Int.reducePow, ↓reduceIte, Nat.reduceEqDiff, reduceCtorEq]
      repeat' (first | apply And.intro | intro _)
      all_goals first
        | (refine next ⟨by omega, by omega, by omega, by omega⟩ _ ?_ ?_ ?_ ?_ ?_ <;> simp only [h1, h2, h52, h53, sg_set, Nat.reduceEqDiff, ↓reduceIte]; done)
        | (refine stop (fun hok => ?_) _ (by simp only [sg_set, Nat.reduceEqDiff, ↓reduceIte]); obtain ⟨a1, a2, a3, a4⟩ := hok; omega)
    · have c2 : (0 : Int) < (i : Int) := by omega
      obtain ⟨r3, _, g3⟩ := getInt hv (i - 1) (by omega)
      have w2 : IntKind.i64.wrap ((i : Int) - 1) = ((i - 1 : Nat) : Int) := by rw [w64 (by omega) (by omega)]; omega
      simp +contextual (maxSteps := 2000000) only [h1, h2, h52, h53, h54, c1, g1, g2, g3, hg, w1, w2, c2, RX, VOp.fresh, bxC, bsC, un, most, callsOf, seval, Int.reducePow, ↓reduceIte, Nat.reduceEqDiff, reduceCtorEq]
      repeat' (first | apply And.intro | intro _)
      all_goals first
        | (refine next ⟨by omega, by omega, by omega, by omega⟩ _ ?_ ?_ ?_ ?_ ?_ <;> simp only [h1, h2, h52, h53, sg_set, Nat.reduceEqDiff, ↓reduceIte]; done)
        | (refine stop (fun hok => ?_) _ (by simp only [sg_set, Nat.reduceEqDiff, ↓reduceIte]); obtain ⟨a1, a2, a3, a4⟩ := hok; omega)
theorem mapMay_pu (g : Pg P tab) {nodes : Int} {m : Mp} {v u : AV} (hv : IsL 8 RInt v m.starts) (hu : IsL 8 RInt u m.owners) : Pu P 35 [.agg [.int .i64 m.epoch, v, u], .int .i64 nodes] (IsB (mpOk nodes m)) := by
  refine g.pu (vf := v35) rfl rfl ?_
  have hb := hv.bound (by decide)
  by_cases h0 : 0 < m.starts.length
  · obtain ⟨r1, _, g1⟩ := getInt hv 0 h0
    simp only [Int.natCast_zero, Int.ofNat_zero, Int.ofNat_eq_natCast] at g1
    simp +contextual (maxSteps := 2000000) only [v35, hv.len, hu.len, g1, RX, VOp.fresh, bxC, bsC, un, most, callsOf, seval, Int.reducePow, ↓reduceIte, Nat.reduceEqDiff, reduceCtorEq]
    repeat' (first | apply And.intro | intro _)
    all_goals first
      | (rename_i hok; unfold mpOk at hok; omega)
      | skip
    refine mapMay_loop (nodes := nodes) g hv hu (by omega) _ (e := 24) (ver := 0) ?_ m.starts.length 0 _ _ _ (by omega) ?_ ?_ ?_ ?_ ?_ ?_ ?_
    · rw [Heap.get_mk, if_pos rfl]
    · simp only [sg_set, Nat.reduceEqDiff, ↓reduceIte]
    · simp only [sg_set, Nat.reduceEqDiff, ↓reduceIte]
    · simp only [sg_set, Nat.reduceEqDiff, ↓reduceIte]
    · simp only [sg_set, Nat.reduceEqDiff, ↓reduceIte]
    · simp only [sg_set, Nat.reduceEqDiff, ↓reduceIte]
      rfl
    · intro hall s'
      simp +contextual (maxSteps := 2000000) only [RX, VOp.fresh, bxC, bsC, un, most, callsOf, seval, Int.reducePow, ↓reduceIte, Nat.reduceEqDiff, reduceCtorEq]
      unfold mpOk
      exact ⟨by omega, by omega, by omega, by omega, by omega, by omega, by omega, by omega, fun i hi => hall i (by omega) hi⟩
    · intro hn s' h4
      simp +contextual (maxSteps := 2000000) only [h4, RX, VOp.fresh, bxC, bsC, un, most, callsOf, seval, Int.reducePow, ↓reduceIte, Nat.reduceEqDiff, reduceCtorEq]
      intro hok
      exact hn fun j _ hj => hok.2.2.2.2.2.2.2.2 j hj
  · have e0 : m.starts.length = 0 := by omega
    have c1 : ((m.starts.length : Int) < 1) := by omega
    simp +contextual (maxSteps := 2000000) only [v35, hv.len, hu.len, c1, RX, VOp.fresh, bxC, bsC, un, most, callsOf, seval, Int.reducePow, ↓reduceIte, Nat.reduceEqDiff, reduceCtorEq]
    repeat' (first | apply And.intro | intro _)
    all_goals (rename_i hok; unfold mpOk at hok; omega)
def nxt (n i : Nat) : Nat := if i + 1 = n then 0 else i + 1
def ringAt (closed : Bool) (r : List Pt) (i : Nat) : Prop := ptOk (r.getD i ⟨0, 0⟩) ∧ ((0 < nxt r.length i ∨ closed = true) → r.getD i ⟨0, 0⟩ ≠ r.getD (nxt r.length i) ⟨0, 0⟩)
def ringOk (least : Int) (closed : Bool) (r : List Pt) : Prop := least ≤ r.length ∧ r.length ≤ 16 ∧ ∀ i, i < r.length → ringAt closed r i
theorem getPt {v : AV} {l : List Pt} (h : IsL 16 RPt v l) (i : Nat) (hi : i < l.length) : ∃ r, AV.tolds r = true ∧ ∀ (hh : Heap) (kk : IntKind), iaV hh 2 none v (.int kk (i : Int)) = .val (.rp (.int .i64 (l.getD i ⟨0, 0⟩).x :: .int .i64 (l.getD i ⟨0, 0⟩).y :: r)) hh := by
  obtain ⟨ci, r, ⟨e, _⟩, ht, hia⟩ := h.get zPt tPt i hi
  have : l.getD i ⟨0, 0⟩ = l[i] := by simp [List.getD_eq_getElem?_getD, List.getElem?_eq_getElem hi]
  refine ⟨r, ?_, fun hh kk => ?_⟩
  · rw [e] at ht; exact ht
  · rw [hia, e, this]; rfl
theorem flat2 {a b c d : Int} : eqv (.flat [.int, .int]) (.agg [.int .i64 a, .int .i64 b]) (.agg [.int .i64 c, .int .i64 d]) = some (decide (a = c ∧ b = d)) := by
  simp only [eqv, List.length_cons, List.length_nil, and_self, if_true, sameCells, sameK]
  by_cases h : a = c <;> by_cases h' : b = d <;> simp [h, h', sameCells, sameK]
theorem pt_eq {p q : Pt} : (p.x = q.x ∧ p.y = q.y) = (p = q) := by
  rw [eq_iff_iff]; constructor
  · intro h; cases p; cases q; simp_all
  · rintro rfl; exact ⟨rfl, rfl⟩
theorem ring_loop (g : Pg P tab) {least : Int} {closed : Bool} {r : List Pt} {v : AV} (hv : IsL 16 RPt v r) (hr : r.length ≤ 16) (n : Nat) :
    ∀ (i : Nat) (s : T AV) (hh : Heap) (k : List Fr) (Q : Ex → T AV → Heap → Prop), i + n = r.length → sg s 0 = v → sg s 2 = .bool closed → sg s 19 = v → sg s 20 = .int .i64 r.length → sg s 21 = .int .i64 i →
      ((∀ j, i ≤ j → j < r.length → ringAt closed r j) → ∀ s' h', Un P k Q (.exit 0) s' h') → ((¬ ∀ j, i ≤ j → j < r.length → ringAt closed r j) → ∀ s' h', sg s' 6 = .bool false → Un P k Q .ret s' h') → Lp P b115_0 s hh (Un P k Q) := by
  induction n with
  | zero =>
    intro i s hh k Q hi h0 h2 h19 h20 h21 hK hR
    refine g.lpe b115_0.eq_1 ?_
    have c1 : ¬ ((i : Int) < (r.length : Int)) := by omega
    simp only [h21, h20, c1, RX, VOp.fresh, bxC, bsC, un, most, callsOf, seval, Int.reducePow, ↓reduceIte, Nat.reduceEqDiff, reduceCtorEq]
    exact hK (fun j h1 h2 => by omega) _ _
  | succ n ih =>
    intro i s hh k Q hi h0 h2 h19 h20 h21 hK hR
    refine g.lpe b115_0.eq_1 ?_
    have c1 : (i : Int) < (r.length : Int) := by omega
    obtain ⟨r1, _, g1⟩ := getPt hv i (by omega)
    have w1 : IntKind.i64.wrap ((i : Int) + 1) = ((i + 1 : Nat) : Int) := by rw [w64 (by omega) (by omega)]; push_cast; rfl
    have next : ringAt closed r i → ∀ (s' : T AV) (h' : Heap), sg s' 0 = v → sg s' 2 = .bool closed → sg s' 19 = v → sg s' 20 = .int .i64 r.length → sg s' 21 = .int .i64 ((i + 1 : Nat) : Int) → Lp P b115_0 s' h' (Un P k Q) := by
      intro hok s' h' a1 a2 a3 a4 a5
      refine ih (i + 1) s' h' k Q (by omega) a1 a2 a3 a4 a5 (fun hall => hK fun j h1 h2 => ?_) (fun hn => hR fun hall => hn fun j h1 h2 => hall j (by omega) h2)
      rcases Nat.lt_or_ge i j with h | h
      · exact hall j h h2
      · have : j = i := by omega
        subst this; exact hok
    have stop : ¬ ringAt closed r i → ∀ (s' : T AV) (h' : Heap), sg s' 6 = .bool false → Un P k Q .ret s' h' := fun hn => hR fun hall => hn (hall i (Nat.le_refl _) (by omega))
    have hpt := pointMay_pu g (r.getD i ⟨0, 0⟩)
    have hn : nxt r.length i = if i + 1 = r.length then 0 else i + 1 := rfl
    by_cases hl : i + 1 = r.length
    · have c2 : ((i + 1 : Nat) : Int) = (r.length : Int) := by omega
      rw [if_pos hl] at hn
      obtain ⟨r2, _, g2⟩ := getPt hv 0 (by omega)
      simp only [Int.natCast_zero, Int.ofNat_zero, Int.ofNat_eq_natCast] at g2
      simp +contextual (maxSteps := 2000000) only [RW, Bool.and_self, h0, h2, h19, h20, h21, c1, g1, hv.len, w1, c2, RX, VOp.fresh, bxC, bsC, un, most, callsOf, seval, Int.reducePow, ↓reduceIte, Nat.reduceEqDiff, reduceCtorEq]
      refine hpt.go rfl ?_
      rintro x rfl
      cases closed
      all_goals simp +contextual (maxSteps := 2000000) only [RW, Bool.and_self, h0, h2, h19, h20, h21, g2, w1, flat2, pt_eq, RX, VOp.fresh, bxC, bsC, un, most, callsOf, seval, Int.reducePow, ↓reduceIte, Nat.reduceEqDiff, reduceCtorEq]
      all_goals repeat' (first | apply And.intro | intro _)
      all_goals first
        | (refine next ⟨by assumption, ?_⟩ _ _ ?_ ?_ ?_ ?_ ?_ <;> first | (simp only [h0, h2, h19, h20, sg_set, Nat.reduceEqDiff, ↓reduceIte]; done) | (rw [hn]; simp_all; done))
        | (refine stop ?_ _ _ ?_ <;> first | (simp only [sg_set, Nat.reduceEqDiff, ↓reduceIte]; done) | (rintro ⟨a1, a2⟩; rw [hn] at a2; simp_all; done))
        | trace_state
    · have c2 : ¬ ((i + 1 : Nat) : Int) = (r.length : Int) := by omega
      rw [if_neg hl] at hn
      obtain ⟨r2, _, g2⟩ := getPt hv (i + 1) (by omega)
      have c3 : (0 : Int) < ((i + 1 : Nat) : Int) := by omega
      simp +contextual (maxSteps := 2000000) only [RW, Bool.and_self, h0, h2, h19, h20, h21, c1, g1, hv.len, w1, c2, RX, VOp.fresh, bxC, bsC, un, most, callsOf, seval, Int.reducePow, ↓reduceIte, Nat.reduceEqDiff, reduceCtorEq]
      refine hpt.go rfl ?_
      rintro x rfl
      cases closed
      all_goals simp +contextual (maxSteps := 2000000) only [RW, Bool.and_self, h0, h2, h19, h20, h21, g2, w1, flat2, pt_eq, c3, RX, VOp.fresh, bxC, bsC, un, most, callsOf, seval, Int.reducePow, ↓reduceIte, Nat.reduceEqDiff, reduceCtorEq]
      all_goals repeat' (first | apply And.intro | intro _)
      all_goals first
        | (refine next ⟨by assumption, ?_⟩ _ _ ?_ ?_ ?_ ?_ ?_ <;> first | (simp only [h0, h2, h19, h20, sg_set, Nat.reduceEqDiff, ↓reduceIte]; done) | (rw [hn]; simp_all; done))
        | (refine stop ?_ _ _ ?_ <;> first | (simp only [sg_set, Nat.reduceEqDiff, ↓reduceIte]; done) | (rintro ⟨a1, a2⟩; rw [hn] at a2; simp_all; done))
        | trace_state
theorem ring_pu (g : Pg P tab) {least : Int} {closed : Bool} {r : List Pt} {v : AV} (hv : IsL 16 RPt v r) : Pu P 115 [v, .int .i64 least, .bool closed] (IsB (ringOk least closed r)) := by
  refine g.pu (vf := v115) rfl rfl ?_
  simp +contextual (maxSteps := 2000000) only [v115, hv.len, RX, VOp.fresh, bxC, bsC, un, most, callsOf, seval, Int.reducePow, ↓reduceIte, Nat.reduceEqDiff, reduceCtorEq]
  repeat' (first | apply And.intro | intro _)
  all_goals first
    | (rename_i hok; unfold ringOk at hok; omega)
    | skip
  refine ring_loop g hv (least := least) (closed := closed) (by omega) r.length 0 _ _ _ _ (by omega) ?_ ?_ ?_ ?_ ?_ ?_ ?_
  · simp only [sg_set, Nat.reduceEqDiff, ↓reduceIte]
  · simp only [sg_set, Nat.reduceEqDiff, ↓reduceIte]
  · simp only [sg_set, Nat.reduceEqDiff, ↓reduceIte]
  · simp only [sg_set, Nat.reduceEqDiff, ↓reduceIte]
  · simp only [sg_set, Nat.reduceEqDiff, ↓reduceIte]
    rfl
  · intro hall s' h'
    simp +contextual (maxSteps := 2000000) only [RX, VOp.fresh, bxC, bsC, un, most, callsOf, seval, Int.reducePow, ↓reduceIte, Nat.reduceEqDiff, reduceCtorEq]
    exact ⟨by omega, by omega, fun i hi => hall i (by omega) hi⟩
  · intro hn s' h' h4
    simp +contextual (maxSteps := 2000000) only [h4, RX, VOp.fresh, bxC, bsC, un, most, callsOf, seval, Int.reducePow, ↓reduceIte, Nat.reduceEqDiff, reduceCtorEq]
    intro hok
    exact hn fun j _ hj => hok.2.2 j hj
theorem getRing {v : AV} {l : List (List Pt)} (h : IsL 24 RRing v l) (i : Nat) (hi : i < l.length) : ∃ rv r, IsL 16 RPt rv (l.getD i []) ∧ AV.tolds r = true ∧ ∀ (hh : Heap) (kk : IntKind), iaV hh 1 none v (.int kk (i : Int)) = .val (.rp (rv :: r)) hh := by
  obtain ⟨ci, r, ⟨rv, e, hr⟩, ht, hia⟩ := h.get zRing tRing i hi
  have : l.getD i [] = l[i] := by simp [List.getD_eq_getElem?_getD, List.getElem?_eq_getElem hi]
  refine ⟨rv, r, by rw [this]; exact hr, ?_, fun hh kk => ?_⟩
  · rw [e] at ht
    simp only [AV.tolds, List.cons_append, List.nil_append, Bool.and_eq_true] at ht
    exact ht.2
  · rw [hia, e]; rfl
theorem tolds1 {b : Nat} {α : Type} {R : α → List AV → Prop} {v : AV} {l : List α} (h : IsL b R v l) (ht : ∀ a c, R a c → AV.tolds c = true) : AV.tolds [v] = true := by
  simp [AV.tolds, h.told ht]
theorem mayRing_pu (g : Pg P tab) {r : List Pt} {v : AV} (hv : IsL 16 RPt v r) : Pu P 117 [v] (IsB (¬ ringOk 3 true r)) := by
  refine g.pu (vf := v117) rfl rfl ?_
  simp +contextual (maxSteps := 2000000) only [v117, RX, VOp.fresh, bxC, bsC, un, most, callsOf, seval, Int.reducePow, ↓reduceIte, Nat.reduceEqDiff, reduceCtorEq]
  refine (ring_pu g hv).go (by simp [AV.tolds, AV.told, hv.told tPt]) ?_
  rintro x ⟨b, rfl, hb⟩
  cases b <;> simp +contextual (maxSteps := 2000000) only [RX, VOp.fresh, bxC, bsC, un, most, callsOf, seval, Int.reducePow, ↓reduceIte, Nat.reduceEqDiff, reduceCtorEq] <;> simpa using hb
theorem indexFunc_loop (g : Pg P tab) {l : List (List Pt)} {v : AV} (hv : IsL 24 RRing v l) (n : Nat) :
    ∀ (i : Nat) (s : T AV) (hh : Heap) (k : List Fr) (Q : Ex → T AV → Heap → Prop), i + n = l.length → sg s 0 = v → sg s 1 = .fn 117 [] → sg s 7 = .int .i64 l.length → sg s 8 = .int .i64 i →
      ((∀ j, i ≤ j → j < l.length → ringOk 3 true (l.getD j [])) → ∀ s', Un P k Q (.exit 0) s' hh) → (∀ j, i ≤ j → j < l.length → ¬ ringOk 3 true (l.getD j []) → ∀ s', sg s' 4 = .int .i64 j → Un P k Q .ret s' hh) → Lp P b128_0 s hh (Un P k Q) := by
  have hb := hv.bound (by decide)
  induction n with
  | zero =>
    intro i s hh k Q hi h0 h1 h7 h8 hK hR
    refine g.lpe b128_0.eq_1 ?_
    have c1 : ¬ ((i : Int) < (l.length : Int)) := by omega
    simp only [h7, h8, c1, RX, VOp.fresh, bxC, bsC, un, most, callsOf, seval, Int.reducePow, ↓reduceIte, Nat.reduceEqDiff, reduceCtorEq]
    exact hK (fun j h1 h2 => by omega) _
  | succ n ih =>
    intro i s hh k Q hi h0 h1 h7 h8 hK hR
    refine g.lpe b128_0.eq_1 ?_
    have c1 : (i : Int) < (l.length : Int) := by omega
    obtain ⟨rv, r1, hrv, _, g1⟩ := getRing hv i (by omega)
    have w1 : IntKind.i64.wrap ((i : Int) + 1) = ((i + 1 : Nat) : Int) := by rw [w64 (by omega) (by omega)]; push_cast; rfl
    simp only [h0, h1, h7, h8, c1, g1, RX, VOp.fresh, bxC, bsC, un, most, callsOf, seval, Int.reducePow, ↓reduceIte, Nat.reduceEqDiff, reduceCtorEq]
    refine (mayRing_pu g hrv).go (tolds1 hrv tPt) ?_
    rintro x ⟨b, rfl, hbb⟩
    cases b
    · simp only [h8, w1, RX, VOp.fresh, bxC, bsC, un, most, callsOf, seval, Int.reducePow, ↓reduceIte, Nat.reduceEqDiff, reduceCtorEq]
      have hok : ringOk 3 true (l.getD i []) := by
        apply Classical.byContradiction
        intro hn
        exact absurd (hbb.2 hn) (by simp)
      refine ih (i + 1) _ hh k Q (by omega) ?_ ?_ ?_ ?_ (fun hall => hK fun j h1 h2 => ?_) (fun j h1 h2 => hR j (by omega) h2)
      · simp only [h0, sg_set, Nat.reduceEqDiff, ↓reduceIte]
      · simp only [h1, sg_set, Nat.reduceEqDiff, ↓reduceIte]
      · simp only [h7, sg_set, Nat.reduceEqDiff, ↓reduceIte]
      · simp only [sg_set, Nat.reduceEqDiff, ↓reduceIte]
      · rcases Nat.lt_or_ge i j with h | h
        · exact hall j h h2
        · have : j = i := by omega
          subst this; exact hok
    · simp only [h8, RX, VOp.fresh, bxC, bsC, un, most, callsOf, seval, Int.reducePow, ↓reduceIte, Nat.reduceEqDiff, reduceCtorEq]
      exact hR i (Nat.le_refl _) (by omega) (hbb.1 rfl) _ (by simp only [sg_set, Nat.reduceEqDiff, ↓reduceIte])
theorem indexFunc_pu (g : Pg P tab) {l : List (List Pt)} {v : AV} (hv : IsL 24 RRing v l) : Pu P 128 [v, .fn 117 []] (fun x => ∃ n : Int, x = .int .i64 n ∧ (0 ≤ n ↔ ¬ ∀ i, i < l.length → ringOk 3 true (l.getD i []))) := by
  refine g.pu (vf := v128) rfl rfl ?_
  simp only [v128, hv.len, RX, VOp.fresh, bxC, bsC, un, most, callsOf, seval, Int.reducePow, ↓reduceIte, Nat.reduceEqDiff, reduceCtorEq]
  refine indexFunc_loop g hv l.length 0 _ _ _ _ (by omega) ?_ ?_ ?_ ?_ ?_ ?_
  · simp only [sg_set, Nat.reduceEqDiff, ↓reduceIte]
  · simp only [sg_set, Nat.reduceEqDiff, ↓reduceIte]
  · simp only [sg_set, Nat.reduceEqDiff, ↓reduceIte]
  · simp only [sg_set, Nat.reduceEqDiff, ↓reduceIte]
    rfl
  · intro hall s'
    simp only [RX, VOp.fresh, bxC, bsC, un, most, callsOf, seval, Int.reducePow, ↓reduceIte, Nat.reduceEqDiff, reduceCtorEq]
    exact ⟨-1, rfl, by simp; exact fun i hi => hall i (by omega) hi⟩
  · intro j _ hj hn s' h4
    simp only [h4, RX, VOp.fresh, bxC, bsC, un, most, callsOf, seval, Int.reducePow, ↓reduceIte, Nat.reduceEqDiff, reduceCtorEq]
    exact ⟨j, rfl, ⟨fun _ h => hn (h j hj), fun _ => by omega⟩⟩
theorem containsFunc_pu (g : Pg P tab) {l : List (List Pt)} {v : AV} (hv : IsL 24 RRing v l) : Pu P 116 [v, .fn 117 []] (IsB (¬ ∀ i, i < l.length → ringOk 3 true (l.getD i []))) := by
  refine g.pu (vf := v116) rfl rfl ?_
  simp only [v116, RX, VOp.fresh, bxC, bsC, un, most, callsOf, seval, Int.reducePow, ↓reduceIte, Nat.reduceEqDiff, reduceCtorEq]
  refine (indexFunc_pu g hv).go (by simp [AV.tolds, AV.told, hv.told tRing]) ?_
  rintro x ⟨n, rfl, hn⟩
  simp only [RX, VOp.fresh, bxC, bsC, un, most, callsOf, seval, Int.reducePow, ↓reduceIte, Nat.reduceEqDiff, reduceCtorEq]
  exact hn
def featOk (f : Feat) : Prop := 1 ≤ f.id ∧ f.id ≤ 65535 ∧ 1 ≤ f.rings.length ∧ f.rings.length ≤ 4 ∧
  ((f.shape = 0 ∧ f.rings.length = 1 ∧ (f.rings.getD 0 []).length = 1 ∧ ptOk ((f.rings.getD 0 []).getD 0 ⟨0, 0⟩)) ∨ (f.shape = 1 ∧ f.rings.length = 1 ∧ ringOk 2 false (f.rings.getD 0 [])) ∨ (f.shape = 2 ∧ ∀ i, i < f.rings.length → ringOk 3 true (f.rings.getD i [])))
theorem shapeMay_pu (g : Pg P tab) {f : Feat} {v : AV} (hv : IsL 24 RRing v f.rings) : Pu P 88 [.agg [.int .i64 f.id, .int .i64 f.shape, v]] (IsB (featOk f)) := by
  refine g.pu (vf := v88) rfl rfl ?_
  have hb := hv.bound (by decide)
  by_cases h0 : 0 < f.rings.length
  · obtain ⟨rv, r1, hrv, t1, g1⟩ := getRing hv 0 h0
    simp only [Int.natCast_zero, Int.ofNat_zero, Int.ofNat_eq_natCast] at g1
    by_cases h1 : 0 < (f.rings.getD 0 []).length
    · obtain ⟨r2, t2, g2⟩ := getPt hrv 0 h1
      simp only [Int.natCast_zero, Int.ofNat_zero, Int.ofNat_eq_natCast] at g2
      simp +contextual (maxSteps := 2000000) only [v88, hv.len, hrv.len, g1, g2, RX, VOp.fresh, bxC, bsC, un, most, callsOf, seval, Int.reducePow, ↓reduceIte, Nat.reduceEqDiff, reduceCtorEq]
      repeat' (first | apply And.intro | intro _)
      all_goals first
        | (rename_i hok; obtain ⟨a1, a2, a3, a4, ⟨b1, b2, b3, b4⟩ | ⟨b1, b2, b3⟩ | ⟨b1, b2⟩⟩ := hok <;> omega)
        | (refine (pointMay_pu g _).go rfl ?_
           rintro x rfl
           simp +contextual (maxSteps := 2000000) only [RX, VOp.fresh, bxC, bsC, un, most, callsOf, seval, Int.reducePow, ↓reduceIte, Nat.reduceEqDiff, reduceCtorEq]
           exact ⟨fun h => ⟨by omega, by omega, by omega, by omega, .inl ⟨by omega, by omega, by omega, h⟩⟩, fun hok => by obtain ⟨a1, a2, a3, a4, ⟨b1, b2, b3, b4⟩ | ⟨b1, b2, b3⟩ | ⟨b1, b2⟩⟩ := hok <;> first | assumption | omega⟩)
        | (refine (ring_pu g hrv).go (by simp [AV.tolds, AV.told, hrv.told tPt]) ?_
           rintro x ⟨b, rfl, hbb⟩
           simp +contextual (maxSteps := 2000000) only [RX, VOp.fresh, bxC, bsC, un, most, callsOf, seval, Int.reducePow, ↓reduceIte, Nat.reduceEqDiff, reduceCtorEq]
           rw [hbb]
           exact ⟨fun h => ⟨by omega, by omega, by omega, by omega, .inr (.inl ⟨by omega, by omega, h⟩)⟩, fun hok => by obtain ⟨a1, a2, a3, a4, ⟨b1, b2, b3, b4⟩ | ⟨b1, b2, b3⟩ | ⟨b1, b2⟩⟩ := hok <;> first | assumption | omega⟩)
        | (refine (containsFunc_pu g hv).go (by simp [AV.tolds, AV.told, hv.told tRing]) ?_
           rintro x ⟨b, rfl, hbb⟩
           cases b <;> simp +contextual (maxSteps := 2000000) only [RX, VOp.fresh, bxC, bsC, un, most, callsOf, seval, Int.reducePow, ↓reduceIte, Nat.reduceEqDiff, reduceCtorEq]
           · exact ⟨by omega, by omega, by omega, by omega, .inr (.inr ⟨by omega, Classical.byContradiction fun hn => absurd (hbb.2 hn) (by simp)⟩)⟩
           · intro hok; obtain ⟨a1, a2, a3, a4, ⟨b1, b2, b3, b4⟩ | ⟨b1, b2, b3⟩ | ⟨b1, b2⟩⟩ := hok <;> first | exact hbb.1 rfl b2 | omega)
        | trace_state
    · have e1 : (f.rings.getD 0 []).length = 0 := by omega
      simp +contextual (maxSteps := 2000000) only [v88, hv.len, hrv.len, g1, e1, RX, VOp.fresh, bxC, bsC, un, most, callsOf, seval, Int.reducePow, ↓reduceIte, Nat.reduceEqDiff, reduceCtorEq]
      repeat' (first | apply And.intro | intro _)
      all_goals first
        | (rename_i hok; obtain ⟨a1, a2, a3, a4, ⟨b1, b2, b3, b4⟩ | ⟨b1, b2, b3⟩ | ⟨b1, b2⟩⟩ := hok <;> omega)
        | (refine (ring_pu g hrv).go (by simp [AV.tolds, AV.told, hrv.told tPt]) ?_
           rintro x ⟨b, rfl, hbb⟩
           simp +contextual (maxSteps := 2000000) only [RX, VOp.fresh, bxC, bsC, un, most, callsOf, seval, Int.reducePow, ↓reduceIte, Nat.reduceEqDiff, reduceCtorEq]
           rw [hbb]
           exact ⟨fun h => ⟨by omega, by omega, by omega, by omega, .inr (.inl ⟨by omega, by omega, h⟩)⟩, fun hok => by obtain ⟨a1, a2, a3, a4, ⟨b1, b2, b3, b4⟩ | ⟨b1, b2, b3⟩ | ⟨b1, b2⟩⟩ := hok <;> first | assumption | omega⟩)
        | (refine (containsFunc_pu g hv).go (by simp [AV.tolds, AV.told, hv.told tRing]) ?_
           rintro x ⟨b, rfl, hbb⟩
           cases b <;> simp +contextual (maxSteps := 2000000) only [RX, VOp.fresh, bxC, bsC, un, most, callsOf, seval, Int.reducePow, ↓reduceIte, Nat.reduceEqDiff, reduceCtorEq]
           · exact ⟨by omega, by omega, by omega, by omega, .inr (.inr ⟨by omega, Classical.byContradiction fun hn => absurd (hbb.2 hn) (by simp)⟩)⟩
           · intro hok; obtain ⟨a1, a2, a3, a4, ⟨b1, b2, b3, b4⟩ | ⟨b1, b2, b3⟩ | ⟨b1, b2⟩⟩ := hok <;> first | exact hbb.1 rfl b2 | omega)
        | trace_state
  · have e0 : f.rings.length = 0 := by omega
    have c1 : (f.rings.length : Int) < 1 := by omega
    simp +contextual (maxSteps := 2000000) only [v88, hv.len, c1, RX, VOp.fresh, bxC, bsC, un, most, callsOf, seval, Int.reducePow, ↓reduceIte, Nat.reduceEqDiff, reduceCtorEq]
    repeat' (first | apply And.intro | intro _)
    all_goals (rename_i hok; obtain ⟨a1, a2, a3, a4, _⟩ := hok; omega)
end
end Go.Proofs.Ythmkenkjfmbkiaa.VM
namespace Go.Proofs.Ythmkenkjfmbkiaa.VM
attribute [local irreducible] Af Nx EvO Ev Un Gd Cd EvR EvQ EvC Nc Gc Lp EvM NxM AfM GdM EvMR EvMQ EvMD EvMC Nm Gm
def opOk (nodes : Int) (o : Op) : Prop := (o.kind = 0 ∧ featOk o.f ∧ o.id = 0 ∧ mpZero o.m) ∨ (o.kind = 1 ∧ 1 ≤ o.id ∧ o.id ≤ 65535 ∧ ftZero o.f ∧ mpZero o.m) ∨ (o.kind = 2 ∧ mpOk nodes o.m ∧ o.id = 0 ∧ ftZero o.f)
def opId (o : Op) : Int := if o.kind = 0 then o.f.id else o.id
def op0 : Op := ⟨0, ⟨0, 0, []⟩, 0, ⟨0, [], []⟩⟩
section
variable {P : Program}
theorem opMay_pu (g : Pg P tab) {nodes : Int} {o : Op} {c r : List AV} (hc : ROp o c) (hr : AV.tolds r = true) : Pu P 73 [.rp (c ++ r), .int .i64 nodes] (IsB (opOk nodes o)) := by
  refine g.pu (vf := v73) rfl rfl ?_
  obtain ⟨v, a, u, rfl, _, _, _, hv, _, _, ha, hu⟩ := hc
  have tv := hv.told tRing
  have ta := ha.told tInt
  have tu := hu.told tInt
  simp +contextual (maxSteps := 2000000) only [v73, RX, VOp.fresh, bxC, bsC, un, most, callsOf, seval, Int.reducePow, ↓reduceIte, Nat.reduceEqDiff, reduceCtorEq]
  repeat' (first | apply And.intro | intro _)
  · -- a put
    refine (shapeMay_pu g hv).go (by simp [AV.tolds, AV.told, tv]) ?_
    rintro x ⟨b, rfl, hb⟩
    cases b
    · simp +contextual (maxSteps := 2000000) only [RX, VOp.fresh, bxC, bsC, un, most, callsOf, seval, Int.reducePow, ↓reduceIte, Nat.reduceEqDiff, reduceCtorEq]
      rintro (⟨h1, h2, h3, h4⟩ | ⟨h1, _⟩ | ⟨h1, _⟩)
      · exact absurd (hb.2 h2) (by simp)
      · omega
      · omega
    · simp +contextual (maxSteps := 2000000) only [RX, VOp.fresh, bxC, bsC, un, most, callsOf, seval, Int.reducePow, ↓reduceIte, Nat.reduceEqDiff, reduceCtorEq]
      repeat' (first | apply And.intro | intro _)
      · refine (noMap_pu g ha hu _).go (by simp [AV.tolds, AV.told, ta, tu, hr]) ?_
        rintro x ⟨b, rfl, hb2⟩
        simp +contextual (maxSteps := 2000000) only [RX, VOp.fresh, bxC, bsC, un, most, callsOf, seval, Int.reducePow, ↓reduceIte, Nat.reduceEqDiff, reduceCtorEq]
        rw [hb2]
        exact ⟨fun h => .inl ⟨by assumption, hb.1 rfl, by assumption, h⟩, fun h => by rcases h with ⟨_, _, _, h4⟩ | ⟨h1, _⟩ | ⟨h1, _⟩ <;> first | exact h4 | omega⟩
      · rename_i hok
        rcases hok with ⟨_, _, h3, _⟩ | ⟨h1, _⟩ | ⟨h1, _⟩ <;> first | contradiction | omega
  · -- a delete
    refine (noFeature_pu g hv _).go (by simp [AV.tolds, AV.told, tv, ta, tu, hr]) ?_
    rintro x ⟨b, rfl, hb⟩
    cases b
    · simp +contextual (maxSteps := 2000000) only [RX, VOp.fresh, bxC, bsC, un, most, callsOf, seval, Int.reducePow, ↓reduceIte, Nat.reduceEqDiff, reduceCtorEq]
      rintro (⟨h1, _⟩ | ⟨h1, h2, h3, h4, h5⟩ | ⟨h1, _⟩)
      · omega
      · exact absurd (hb.2 h4) (by simp)
      · omega
    · simp +contextual (maxSteps := 2000000) only [RX, VOp.fresh, bxC, bsC, un, most, callsOf, seval, Int.reducePow, ↓reduceIte, Nat.reduceEqDiff, reduceCtorEq]
      refine (noMap_pu g ha hu _).go (by simp [AV.tolds, AV.told, ta, tu, hr]) ?_
      rintro x ⟨b, rfl, hb2⟩
      simp +contextual (maxSteps := 2000000) only [RX, VOp.fresh, bxC, bsC, un, most, callsOf, seval, Int.reducePow, ↓reduceIte, Nat.reduceEqDiff, reduceCtorEq]
      rw [hb2]
      exact ⟨fun h => .inr (.inl ⟨by assumption, by omega, by omega, hb.1 rfl, h⟩), fun h => by rcases h with ⟨h1, _⟩ | ⟨_, _, _, _, h4⟩ | ⟨h1, _⟩ <;> first | exact h4 | omega⟩
  · rename_i hok
    rcases hok with ⟨h1, _⟩ | ⟨h1, _⟩ | ⟨h1, _⟩ <;> omega
  · rename_i hok
    rcases hok with ⟨h1, _⟩ | ⟨h1, _⟩ | ⟨h1, _⟩ <;> omega
  · -- a map
    refine (mapMay_pu g ha hu).go (by simp [AV.tolds, AV.told, ta, tu]) ?_
    rintro x ⟨b, rfl, hb⟩
    cases b
    · simp +contextual (maxSteps := 2000000) only [RX, VOp.fresh, bxC, bsC, un, most, callsOf, seval, Int.reducePow, ↓reduceIte, Nat.reduceEqDiff, reduceCtorEq]
      rintro (⟨h1, _⟩ | ⟨h1, _⟩ | ⟨h1, h2, h3, h4⟩)
      · omega
      · omega
      · exact absurd (hb.2 h2) (by simp)
    · simp +contextual (maxSteps := 2000000) only [RX, VOp.fresh, bxC, bsC, un, most, callsOf, seval, Int.reducePow, ↓reduceIte, Nat.reduceEqDiff, reduceCtorEq]
      repeat' (first | apply And.intro | intro _)
      · refine (noFeature_pu g hv _).go (by simp [AV.tolds, AV.told, tv, ta, tu, hr]) ?_
        rintro x ⟨b, rfl, hb2⟩
        simp +contextual (maxSteps := 2000000) only [RX, VOp.fresh, bxC, bsC, un, most, callsOf, seval, Int.reducePow, ↓reduceIte, Nat.reduceEqDiff, reduceCtorEq]
        rw [hb2]
        exact ⟨fun h => .inr (.inr ⟨by assumption, hb.1 rfl, by assumption, h⟩), fun h => by rcases h with ⟨h1, _⟩ | ⟨h1, _⟩ | ⟨_, _, _, h4⟩ <;> first | exact h4 | omega⟩
      · rename_i hok
        rcases hok with ⟨h1, _⟩ | ⟨h1, _⟩ | ⟨_, _, h3, _⟩ <;> first | contradiction | omega
  · rename_i hok
    rcases hok with ⟨h1, _⟩ | ⟨h1, _⟩ | ⟨h1, _⟩ <;> contradiction
theorem opId_pu (g : Pg P tab) {o : Op} {c r : List AV} (hc : ROp o c) : Pu P 74 [.rp (c ++ r)] (fun x => x = .int .i64 (opId o)) := by
  refine g.pu (vf := v74) rfl rfl ?_
  obtain ⟨v, a, u, rfl, _⟩ := hc
  simp +contextual (maxSteps := 2000000) only [v74, opId, RX, VOp.fresh, bxC, bsC, un, most, callsOf, seval, Int.reducePow, ↓reduceIte, Nat.reduceEqDiff, reduceCtorEq]
theorem getOp {v : AV} {l : List Op} (h : IsL 112 ROp v l) (i : Nat) (hi : i < l.length) : ∃ c r, ROp (l.getD i op0) c ∧ AV.tolds c = true ∧ AV.tolds r = true ∧ ∀ (hh : Heap) (kk : IntKind), iaV hh 8 none v (.int kk (i : Int)) = .val (.rp (c ++ r)) hh := by
  obtain ⟨ci, r, hr, ht, hia⟩ := h.get zOp tOp i hi
  have : l.getD i op0 = l[i] := by simp [List.getD_eq_getElem?_getD, List.getElem?_eq_getElem hi]
  rw [Cat.told.tolds_append, Bool.and_eq_true] at ht
  exact ⟨ci, r, by rw [this]; exact hr, ht.1, ht.2, hia⟩
def opsAt (nodes : Int) (l : List Op) (i : Nat) : Prop := opOk nodes (l.getD i op0) ∧ ((l.getD i op0).kind = 2 → i = 0) ∧ (0 < opId (l.getD i op0) → ∀ j, j < i → opId (l.getD j op0) ≠ opId (l.getD i op0))
def opsOk (nodes : Int) (l : List Op) : Prop := 1 ≤ l.length ∧ l.length ≤ 32 ∧ ∀ i, i < l.length → opsAt nodes l i
/-- the ids that were seen -/
def idsTo (l : List Op) : Nat → List Int
  | 0 => []
  | i + 1 => if 0 < opId (l.getD i op0) then idsTo l i ++ [opId (l.getD i op0)] else idsTo l i
theorem idsTo_mem (l : List Op) (x : Int) : ∀ i, x ∈ idsTo l i ↔ 0 < x ∧ ∃ j, j < i ∧ opId (l.getD j op0) = x
  | 0 => by simp [idsTo]
  | i + 1 => by
    unfold idsTo
    have ih := idsTo_mem l x i
    split
    · rename_i h
      rw [List.mem_append, ih, List.mem_singleton]
      constructor
      · rintro (⟨a, j, b, c⟩ | rfl)
        · exact ⟨a, j, by omega, c⟩
        · exact ⟨h, i, by omega, rfl⟩
      · rintro ⟨a, j, b, c⟩
        rcases Nat.lt_or_ge j i with h' | h'
        · exact .inl ⟨a, j, h', c⟩
        · have : j = i := by omega
          subst this; exact .inr c.symm
    · rename_i h
      rw [ih]
      constructor
      · rintro ⟨a, j, b, c⟩; exact ⟨a, j, by omega, c⟩
      · rintro ⟨a, j, b, c⟩
        refine ⟨a, j, ?_, c⟩
        rcases Nat.lt_or_ge j i with h' | h'
        · exact h'
        · have : j = i := by omega
          subst this; omega
def seenE (ids : List Int) : List (AV × AV) := ids.map fun x => (.int .i64 x, .bool true)
theorem findE_seen (x : Int) : ∀ ids : List Int, findE .int (.int .i64 x) (seenE ids) = some (if x ∈ ids then some (.bool true) else none)
  | [] => rfl
  | y :: ids => by
    show (match sameK .int (.int .i64 x) (.int .i64 y) with | some true => some (some (AV.bool true)) | some false => findE .int (.int .i64 x) (seenE ids) | none => none) = _
    have : sameK .int (.int .i64 x) (.int .i64 y) = some (decide (x = y)) := by simp [sameK]
    rw [this]
    by_cases e : x = y
    · simp [e]
    · simp [e, findE_seen x ids]
theorem updE_seen {x : Int} : ∀ {ids : List Int}, x ∉ ids → updE .int (.int .i64 x) (.bool true) (seenE ids) = seenE (ids ++ [x])
  | [], _ => rfl
  | y :: ids, h => by
    have hne : x ≠ y := fun e => h (by rw [e]; exact .head _)
    have : sameK .int (.int .i64 x) (.int .i64 y) = some (decide (x = y)) := by simp [sameK]
    show (match sameK .int (.int .i64 x) (.int .i64 y) with | some true => (AV.int .i64 x, AV.bool true) :: seenE ids | _ => (AV.int .i64 y, AV.bool true) :: updE .int (.int .i64 x) (.bool true) (seenE ids)) = _
    rw [this, decide_eq_false hne]
    simp only [updE_seen (fun hm => h (.tail _ hm))]
    rfl
theorem lkB_seen {hh : Heap} {x : Int} {ids : List Int} {ver : Nat} : lkB .int (.bool false) false hh (.int .i64 x) (some (.map (seenE ids) ver)) = .val (.bool (decide (x ∈ ids))) hh := by
  simp only [lkB, findE_seen]
  by_cases h : x ∈ ids <;> simp [h]
theorem muB_seen {hh : Heap} {b : Nat} {x : Int} {ids : List Int} {ver : Nat} (h : x ∉ ids) : muB .int hh b (.int .i64 x) (.bool true) (some (.map (seenE ids) ver)) = .val .undef (hh.put b (.map (seenE (ids ++ [x])) (ver + 1))) := by
  simp only [muB, findE_seen, updE_seen h]
theorem opsMay_loop (g : Pg P tab) {nodes : Int} {l : List Op} {v : AV} (hv : IsL 112 ROp v l) (hl : l.length ≤ 32) (b : Nat) (n : Nat) :
    ∀ (i : Nat) (s : T AV) (hh : Heap) (ver : Nat) (k : List Fr) (Q : Ex → T AV → Heap → Prop), i + n = l.length → sg s 0 = v → sg s 1 = .int .i64 nodes → sg s 5 = .map b → sg s 19 = .int .i64 l.length → sg s 20 = .int .i64 i →
      hh.get b = some (.map (seenE (idsTo l i)) ver) →
      ((∀ j, i ≤ j → j < l.length → opsAt nodes l j) → ∀ s' h', Un P k Q (.exit 0) s' h') → ((¬ ∀ j, i ≤ j → j < l.length → opsAt nodes l j) → ∀ s' h', sg s' 4 = .bool false → Un P k Q .ret s' h') → Lp P b47_0 s hh (Un P k Q) := by
  induction n with
  | zero =>
    intro i s hh ver k Q hi h0 h1 h5 h19 h20 hg hK hR
    refine g.lpe b47_0.eq_1 ?_
    have c1 : ¬ ((i : Int) < (l.length : Int)) := by omega
    simp only [h19, h20, c1, RX, VOp.fresh, bxC, bsC, un, most, callsOf, seval, Int.reducePow, ↓reduceIte, Nat.reduceEqDiff, reduceCtorEq]
    exact hK (fun j h1 h2 => by omega) _ _
  | succ n ih =>
    intro i s hh ver k Q hi h0 h1 h5 h19 h20 hg hK hR
    refine g.lpe b47_0.eq_1 ?_
    have c1 : (i : Int) < (l.length : Int) := by omega
    obtain ⟨c, r, hc, tc, tr, g1⟩ := getOp hv i (by omega)
    have w1 : IntKind.i64.wrap ((i : Int) + 1) = ((i + 1 : Nat) : Int) := by rw [w64 (by omega) (by omega)]; push_cast; rfl
    have next : opsAt nodes l i → ∀ (s' : T AV) (h' : Heap) (ver' : Nat), sg s' 0 = v → sg s' 1 = .int .i64 nodes → sg s' 5 = .map b → sg s' 19 = .int .i64 l.length → sg s' 20 = .int .i64 ((i + 1 : Nat) : Int) →
        h'.get b = some (.map (seenE (idsTo l (i + 1))) ver') → Lp P b47_0 s' h' (Un P k Q) := by
      intro hok s' h' ver' a1 a2 a3 a4 a5 a6
      refine ih (i + 1) s' h' ver' k Q (by omega) a1 a2 a3 a4 a5 a6 (fun hall => hK fun j h1 h2 => ?_) (fun hn => hR fun hall => hn fun j h1 h2 => hall j (by omega) h2)
      rcases Nat.lt_or_ge i j with h | h
      · exact hall j h h2
      · have : j = i := by omega
        subst this; exact hok
    have stop : ¬ opsAt nodes l i → ∀ (s' : T AV) (h' : Heap), sg s' 4 = .bool false → Un P k Q .ret s' h' := fun hn => hR fun hall => hn (hall i (Nat.le_refl _) (by omega))
    simp only [h0, h1, h5, h19, h20, c1, g1, RX, VOp.fresh, bxC, bsC, un, most, callsOf, seval, Int.reducePow, ↓reduceIte, Nat.reduceEqDiff, reduceCtorEq]
    refine (opMay_pu g hc tr).go (by simp [AV.tolds, AV.told, Cat.told.tolds_append, tc, tr]) ?_
    rintro x ⟨ob, rfl, hob⟩
    have hid := opId_pu g (r := r) hc
    have hkind : ∃ c', c = .int .i64 (l.getD i op0).kind :: c' := by
      obtain ⟨v', a, u, rfl, _⟩ := hc
      exact ⟨_, rfl⟩
    obtain ⟨c', rfl⟩ := hkind
    cases ob
    · simp only [RX, VOp.fresh, bxC, bsC, un, most, callsOf, seval, Int.reducePow, ↓reduceIte, Nat.reduceEqDiff, reduceCtorEq]
      exact stop (fun hok => absurd (hob.2 hok.1) (by simp)) _ _ (by simp only [sg_set, Nat.reduceEqDiff, ↓reduceIte])
    · have hok := hob.1 rfl
      generalize hx : opId (l.getD i op0) = x0 at *
      have hids : idsTo l (i + 1) = if 0 < x0 then idsTo l i ++ [x0] else idsTo l i := by rw [idsTo, hx]
      by_cases hk : (l.getD i op0).kind = 2
      · rw [hk] at hid tc
        by_cases hi0 : (0 : Int) < (i : Int)
        · simp only [h0, h1, h5, h19, h20, hk, hi0, RX, VOp.fresh, bxC, bsC, un, most, callsOf, seval, Int.reducePow, ↓reduceIte, Nat.reduceEqDiff, reduceCtorEq]
          exact stop (fun hok => absurd (hok.2.1 hk) (by omega)) _ _ (by simp only [sg_set, Nat.reduceEqDiff, ↓reduceIte])
        · simp only [h0, h1, h5, h19, h20, hk, hi0, RX, VOp.fresh, bxC, bsC, un, most, callsOf, seval, Int.reducePow, ↓reduceIte, Nat.reduceEqDiff, reduceCtorEq]
          refine hid.go (by simp [AV.tolds, AV.told, Cat.told.tolds_append, tc, tr]; simpa [AV.tolds, AV.told] using tc) ?_
          rintro x rfl
          by_cases hp : 0 < x0
          · by_cases hm : x0 ∈ idsTo l i
            · simp only [h0, h1, h5, h19, h20, hp, hm, hg, lkB_seen, RX, VOp.fresh, bxC, bsC, un, most, callsOf, seval, Int.reducePow, ↓reduceIte, Nat.reduceEqDiff, reduceCtorEq]
              refine stop (fun hok => ?_) _ _ (by simp only [sg_set, Nat.reduceEqDiff, ↓reduceIte])
              obtain ⟨_, j, h1, h2⟩ := (idsTo_mem l _ i).1 hm
              exact hok.2.2 (by rw [hx]; exact hp) j h1 (by rw [hx]; exact h2)
            · simp only [h0, h1, h5, h19, h20, hp, hm, hg, lkB_seen, muB_seen hm, w1, RX, VOp.fresh, bxC, bsC, un, most, callsOf, seval, Int.reducePow, ↓reduceIte, Nat.reduceEqDiff, reduceCtorEq]
              refine next ⟨hok, fun _ => by omega, fun _ j h1 h2 => hm ((idsTo_mem l _ i).2 ⟨hp, j, h1, by rw [h2, hx]⟩)⟩ _ _ (ver + 1) ?_ ?_ ?_ ?_ ?_ ?_
              · simp only [h0, sg_set, Nat.reduceEqDiff, ↓reduceIte]
              · simp only [h1, sg_set, Nat.reduceEqDiff, ↓reduceIte]
              · simp only [h5, sg_set, Nat.reduceEqDiff, ↓reduceIte]
              · simp only [h19, sg_set, Nat.reduceEqDiff, ↓reduceIte]
              · simp only [sg_set, Nat.reduceEqDiff, ↓reduceIte]
              · rw [Heap.get_put, if_pos rfl, hids, if_pos hp]
          · simp only [h0, h1, h5, h19, h20, hp, w1, RX, VOp.fresh, bxC, bsC, un, most, callsOf, seval, Int.reducePow, ↓reduceIte, Nat.reduceEqDiff, reduceCtorEq]
            refine next ⟨hok, fun _ => by omega, fun h => absurd (by rw [hx] at h; exact h) hp⟩ _ _ ver ?_ ?_ ?_ ?_ ?_ ?_
            · simp only [h0, sg_set, Nat.reduceEqDiff, ↓reduceIte]
            · simp only [h1, sg_set, Nat.reduceEqDiff, ↓reduceIte]
            · simp only [h5, sg_set, Nat.reduceEqDiff, ↓reduceIte]
            · simp only [h19, sg_set, Nat.reduceEqDiff, ↓reduceIte]
            · simp only [sg_set, Nat.reduceEqDiff, ↓reduceIte]
            · rw [hg, hids, if_neg hp]
      · simp only [h0, h1, h5, h19, h20, hk, RX, VOp.fresh, bxC, bsC, un, most, callsOf, seval, Int.reducePow, ↓reduceIte, Nat.reduceEqDiff, reduceCtorEq]
        refine hid.go (by simp [AV.tolds, AV.told, Cat.told.tolds_append, tc, tr]; simpa [AV.tolds, AV.told] using tc) ?_
        rintro x rfl
        by_cases hp : 0 < x0
        · by_cases hm : x0 ∈ idsTo l i
          · simp only [h0, h1, h5, h19, h20, hp, hm, hg, lkB_seen, RX, VOp.fresh, bxC, bsC, un, most, callsOf, seval, Int.reducePow, ↓reduceIte, Nat.reduceEqDiff, reduceCtorEq]
            refine stop (fun hok => ?_) _ _ (by simp only [sg_set, Nat.reduceEqDiff, ↓reduceIte])
            obtain ⟨_, j, h1, h2⟩ := (idsTo_mem l _ i).1 hm
            exact hok.2.2 (by rw [hx]; exact hp) j h1 (by rw [hx]; exact h2)
          · simp only [h0, h1, h5, h19, h20, hp, hm, hg, lkB_seen, muB_seen hm, w1, RX, VOp.fresh, bxC, bsC, un, most, callsOf, seval, Int.reducePow, ↓reduceIte, Nat.reduceEqDiff, reduceCtorEq]
            refine next ⟨hok, fun h => absurd h hk, fun _ j h1 h2 => hm ((idsTo_mem l _ i).2 ⟨hp, j, h1, by rw [h2, hx]⟩)⟩ _ _ (ver + 1) ?_ ?_ ?_ ?_ ?_ ?_
            · simp only [h0, sg_set, Nat.reduceEqDiff, ↓reduceIte]
            · simp only [h1, sg_set, Nat.reduceEqDiff, ↓reduceIte]
            · simp only [h5, sg_set, Nat.reduceEqDiff, ↓reduceIte]
            · simp only [h19, sg_set, Nat.reduceEqDiff, ↓reduceIte]
            · simp only [sg_set, Nat.reduceEqDiff, ↓reduceIte]
            · rw [Heap.get_put, if_pos rfl, hids, if_pos hp]
        · simp only [h0, h1, h5, h19, h20, hp, w1, RX, VOp.fresh, bxC, bsC, un, most, callsOf, seval, Int.reducePow, ↓reduceIte, Nat.reduceEqDiff, reduceCtorEq]
          refine next ⟨hok, fun h => absurd h hk, fun h => absurd (by rw [hx] at h; exact h) hp⟩ _ _ ver ?_ ?_ ?_ ?_ ?_ ?_
          · simp only [h0, sg_set, Nat.reduceEqDiff, ↓reduceIte]
          · simp only [h1, sg_set, Nat.reduceEqDiff, ↓reduceIte]
          · simp only [h5, sg_set, Nat.reduceEqDiff, ↓reduceIte]
          · simp only [h19, sg_set, Nat.reduceEqDiff, ↓reduceIte]
          · simp only [sg_set, Nat.reduceEqDiff, ↓reduceIte]
          · rw [hg, hids, if_neg hp]
theorem opsMay_pu (g : Pg P tab) {nodes : Int} {l : List Op} {v : AV} (hv : IsL 112 ROp v l) : Pu P 47 [v, .int .i64 nodes] (IsB (opsOk nodes l)) := by
  refine g.pu (vf := v47) rfl rfl ?_
  have hb := hv.bound (by decide)
  simp +contextual (maxSteps := 2000000) only [v47, hv.len, RX, VOp.fresh, bxC, bsC, un, most, callsOf, seval, Int.reducePow, ↓reduceIte, Nat.reduceEqDiff, reduceCtorEq]
  repeat' (first | apply And.intro | intro _)
  all_goals first
    | (rename_i hok; unfold opsOk at hok; omega)
    | skip
  refine opsMay_loop (nodes := nodes) g hv (by omega) 0 l.length 0 _ _ 0 _ _ (by omega) ?_ ?_ ?_ ?_ ?_ ?_ ?_ ?_
  · simp only [sg_set, Nat.reduceEqDiff, ↓reduceIte]
  · simp only [sg_set, Nat.reduceEqDiff, ↓reduceIte]
  · simp only [sg_set, Nat.reduceEqDiff, ↓reduceIte]
  · simp only [sg_set, Nat.reduceEqDiff, ↓reduceIte]
  · simp only [sg_set, Nat.reduceEqDiff, ↓reduceIte]
    rfl
  · rw [Heap.get_mk, if_pos rfl]; rfl
  · intro hall s' h'
    simp +contextual (maxSteps := 2000000) only [RX, VOp.fresh, bxC, bsC, un, most, callsOf, seval, Int.reducePow, ↓reduceIte, Nat.reduceEqDiff, reduceCtorEq]
    exact ⟨by omega, by omega, fun i hi => hall i (by omega) hi⟩
  · intro hn s' h' h4
    simp +contextual (maxSteps := 2000000) only [h4, RX, VOp.fresh, bxC, bsC, un, most, callsOf, seval, Int.reducePow, ↓reduceIte, Nat.reduceEqDiff, reduceCtorEq]
    intro hok
    exact hn fun j _ hj => hok.2.2 j hj
end
end Go.Proofs.Ythmkenkjfmbkiaa.VM
namespace Go.Proofs.Ythmkenkjfmbkiaa.VM
attribute [local irreducible] Af Nx EvO Ev Un Gd Cd EvR EvQ EvC Nc Gc Lp EvM NxM AfM GdM EvMR EvMQ EvMD EvMC Nm Gm
section
variable {P : Program}
theorem num_pu (g : Pg P tab) (n : Int) : Pu P 17 [.int .i64 n] (fun v => v = .int .i64 n) := by
  refine g.pu (vf := v17) rfl rfl ?_
  simp +contextual (maxSteps := 2000000) (disch := omega) only [v17, RX, VOp.fresh, bxC, bsC, un, most, callsOf, seval, Int.reducePow, ↓reduceIte, Nat.reduceEqDiff, reduceCtorEq]
theorem i64c {n : Int} (a : -1000000 ≤ n) (b : n ≤ 1000000) : I64 n := ⟨by omega, by omega⟩
theorem i0 : I64 0 := i64c (by decide) (by decide)
theorem i1 : I64 1 := i64c (by decide) (by decide)
end
end Go.Proofs.Ythmkenkjfmbkiaa.VM
namespace Go.Proofs.Ythmkenkjfmbkiaa.VM
attribute [local irreducible] Af Nx EvO Ev Un Gd Cd EvR EvQ EvC Nc Gc Lp EvM NxM AfM GdM EvMR EvMQ EvMD EvMC Nm Gm
theorem getD_ring {l : List (List Pt)} {i : Nat} (hi : i < l.length) : l.getD i [] = l[i] := by simp [List.getD_eq_getElem?_getD, List.getElem?_eq_getElem hi]
theorem getD_op {l : List Op} {i : Nat} (hi : i < l.length) : l.getD i op0 = l[i] := by simp [List.getD_eq_getElem?_getD, List.getElem?_eq_getElem hi]
end Go.Proofs.Ythmkenkjfmbkiaa.VM
namespace Go.Proofs.Ythmkenkjfmbkiaa.VM
attribute [local irreducible] Af Nx EvO Ev Un Gd Cd EvR EvQ EvC Nc Gc Lp EvM NxM AfM GdM EvMR EvMQ EvMD EvMC Nm Gm
theorem row_isL {α : Type} {b : Nat} {R : α → List AV → Prop} {l : List α} {c : List AV} (hb : l.length * b ≤ reachBytes) (h : Cat R l c) : IsL b R (cRow c l.length) l := by
  cases l with
  | nil => exact isL_nil b R
  | cons x l => rw [cRow_s _ (by simp)]; exact isL_rs h hb
theorem reach_eq : reachBytes = 140737488351232 := rfl
end Go.Proofs.Ythmkenkjfmbkiaa.VM
namespace Go.Proofs.Ythmkenkjfmbkiaa.VM
attribute [local irreducible] Af Nx EvO Ev Un Gd Cd EvR EvQ EvC Nc Gc Lp EvM NxM AfM GdM EvMR EvMQ EvMD EvMC Nm Gm
theorem Lvs.put {h : Heap} {B : Nat → Prop} {x y : List AV} (l : Lvs h B x y) {b : Nat} (hb : ¬ B b) (o : Blk) : Lvs (h.put b o) B x y := l.frame (by rw [put_next]; exact Nat.le_refl _) fun c hc _ => by rw [Heap.get_put, if_neg (show ¬ c = b from fun e => hb (e ▸ hc))]
end Go.Proofs.Ythmkenkjfmbkiaa.VM
namespace Go.Proofs.Ythmkenkjfmbkiaa.VM
attribute [local irreducible] Af Nx EvO Ev Un Gd Cd EvR EvQ EvC Nc Gc Lp EvM NxM AfM GdM EvMR EvMQ EvMD EvMC Nm Gm
section
variable {P : Program}
theorem rPoint_pu (g : Pg P tab) (p : Pt) : Pu P 100 [.agg [.int .i64 p.x, .int .i64 p.y]] (IsB (ptOk p)) := by
  refine g.pu (vf := v100) rfl rfl ?_
  simp +contextual (maxSteps := 2000000) (disch := omega) only [v100, ptOk, coordOk, and_assoc, RX, VOp.fresh, bxC, bsC, un, most, callsOf, seval, Int.reducePow, ↓reduceIte, Nat.reduceEqDiff, reduceCtorEq]
theorem rZeroMap_pu (g : Pg P tab) {m : Mp} {v u : AV} (hv : IsL 8 RInt v m.starts) (hu : IsL 8 RInt u m.owners) : Pu P 98 [.agg [.int .i64 m.epoch, v, u]] (IsB (mpZero m)) := by
  refine g.pu (vf := v98) rfl rfl ?_
  simp +contextual (maxSteps := 2000000) (disch := omega) only [v98, hv.len, hu.len, mpZero, len0, RX, VOp.fresh, bxC, bsC, un, most, callsOf, seval, Int.reducePow, ↓reduceIte, Nat.reduceEqDiff, reduceCtorEq]
theorem rZeroFeat_pu (g : Pg P tab) {f : Feat} {v : AV} (hv : IsL 24 RRing v f.rings) : Pu P 99 [.agg [.int .i64 f.id, .int .i64 f.shape, v]] (IsB (ftZero f)) := by
  refine g.pu (vf := v99) rfl rfl ?_
  simp +contextual (maxSteps := 2000000) (disch := omega) only [v99, hv.len, ftZero, len0, RX, VOp.fresh, bxC, bsC, un, most, callsOf, seval, Int.reducePow, ↓reduceIte, Nat.reduceEqDiff, reduceCtorEq]
def rrAt (r : List Pt) (i : Nat) : Prop := ptOk (r.getD i ⟨0, 0⟩) ∧ (0 < i → r.getD i ⟨0, 0⟩ ≠ r.getD (i - 1) ⟨0, 0⟩)
theorem rRing_loop (g : Pg P tab) {r : List Pt} {v : AV} {sh : Int} (hv : IsL 16 RPt v r) (hr : r.length ≤ 16) (n : Nat) :
    ∀ (i : Nat) (s : T AV) (hh : Heap) (k : List Fr) (Q : Ex → T AV → Heap → Prop), i + n = r.length → sg s 1 = v → sg s 0 = .int .i64 sh → sg s 5 = .int .i64 i →
      ((∀ j, i ≤ j → j < r.length → rrAt r j) → ∀ s' h', sg s' 1 = v → sg s' 0 = .int .i64 sh → Un P k Q (.exit 0) s' h') → ((¬ ∀ j, i ≤ j → j < r.length → rrAt r j) → ∀ s' h', sg s' 4 = .bool false → Un P k Q .ret s' h') → Lp P b77_0 s hh (Un P k Q) := by
  induction n with
  | zero =>
    intro i s hh k Q hi h1 h0 h5 hK hR
    refine g.lpe b77_0.eq_1 ?_
    have c1 : ¬ ((i : Int) < (r.length : Int)) := by omega
    simp only [h1, h5, hv.len, c1, RX, VOp.fresh, bxC, bsC, un, most, callsOf, seval, Int.reducePow, ↓reduceIte, Nat.reduceEqDiff, reduceCtorEq]
    exact hK (fun j h1 h2 => by omega) _ _ (by simp only [h1, sg_set, Nat.reduceEqDiff, ↓reduceIte]) (by simp only [h0, sg_set, Nat.reduceEqDiff, ↓reduceIte])
  | succ n ih =>
    intro i s hh k Q hi h1 h0 h5 hK hR
    refine g.lpe b77_0.eq_1 ?_
    have c1 : (i : Int) < (r.length : Int) := by omega
    obtain ⟨r1, _, g1⟩ := getPt hv i (by omega)
    have w1 : IntKind.i64.wrap ((i : Int) + 1) = ((i + 1 : Nat) : Int) := by rw [w64 (by omega) (by omega)]; push_cast; rfl
    have w2 : IntKind.i64.wrap ((i : Int) - 1) = (i : Int) - 1 := w64 (by omega) (by omega)
    have no : ¬ rrAt r i → ¬ ∀ j, i ≤ j → j < r.length → rrAt r j := fun h hall => h (hall i (Nat.le_refl _) (by omega))
    have step : rrAt r i → ∀ s' h', sg s' 1 = v → sg s' 0 = .int .i64 sh → sg s' 5 = .int .i64 (i + 1 : Nat) → Lp P b77_0 s' h' (Un P k Q) := fun hok s' h' a1 a0 a5 => by
      have all : (∀ j, i ≤ j → j < r.length → rrAt r j) ↔ ∀ j, i + 1 ≤ j → j < r.length → rrAt r j := ⟨fun h j h1 h2 => h j (by omega) h2, fun h j h1 h2 => by
        rcases Nat.lt_or_ge i j with h3 | h3
        · exact h j h3 h2
        · rw [show j = i by omega]; exact hok⟩
      exact ih (i + 1) _ _ k Q (by omega) a1 a0 a5 (fun h => hK (all.2 h)) (fun h => hR (fun h' => h (all.1 h')))
    simp only [h1, h5, hv.len, c1, g1, RX, VOp.fresh, bxC, bsC, un, most, callsOf, seval, Int.reducePow, ↓reduceIte, Nat.reduceEqDiff, reduceCtorEq]
    refine (rPoint_pu g _).go rfl ?_
    rintro x ⟨b, rfl, hb⟩
    cases b
    · simp only [h1, h5, RX, VOp.fresh, bxC, bsC, un, most, callsOf, seval, Int.reducePow, ↓reduceIte, Nat.reduceEqDiff, reduceCtorEq]
      exact hR (no fun h => by have := hb.2 h.1; cases this) _ _ (by simp only [sg_set, Nat.reduceEqDiff, ↓reduceIte])
    · simp only [h1, h5, RX, VOp.fresh, bxC, bsC, un, most, callsOf, seval, Int.reducePow, ↓reduceIte, Nat.reduceEqDiff, reduceCtorEq]
      by_cases hi0 : i = 0
      · have c2 : ¬ ((0 : Int) < (i : Int)) := by omega
        simp only [c2, h5, w1, RX, VOp.fresh, bxC, bsC, un, most, callsOf, seval, Int.reducePow, ↓reduceIte, Nat.reduceEqDiff, reduceCtorEq]
        refine step ⟨hb.1 rfl, fun h => by omega⟩ _ _ ?_ ?_ ?_
        · simp only [h1, sg_set, Nat.reduceEqDiff, ↓reduceIte]
        · simp only [h0, sg_set, Nat.reduceEqDiff, ↓reduceIte]
        · simp only [sg_set, Nat.reduceEqDiff, ↓reduceIte]
      · have c2 : (0 : Int) < (i : Int) := by omega
        obtain ⟨r2, _, g2⟩ := getPt hv (i - 1) (by omega)
        have ec : ((i - 1 : Nat) : Int) = (i : Int) - 1 := by omega
        rw [ec] at g2
        by_cases he : r.getD i ⟨0, 0⟩ = r.getD (i - 1) ⟨0, 0⟩
        · have he' : (r.getD i ⟨0, 0⟩).x = (r.getD (i - 1) ⟨0, 0⟩).x ∧ (r.getD i ⟨0, 0⟩).y = (r.getD (i - 1) ⟨0, 0⟩).y := by rw [he]; exact ⟨rfl, rfl⟩
          simp only [c2, w2, g2, g1, h1, h5, flat2, he', RX, VOp.fresh, bxC, bsC, un, most, callsOf, seval, Int.reducePow, ↓reduceIte, Nat.reduceEqDiff, reduceCtorEq]
          exact hR (no fun h => h.2 (by omega) he) _ _ (by simp only [sg_set, Nat.reduceEqDiff, ↓reduceIte])
        · have he' : ¬ ((r.getD i ⟨0, 0⟩).x = (r.getD (i - 1) ⟨0, 0⟩).x ∧ (r.getD i ⟨0, 0⟩).y = (r.getD (i - 1) ⟨0, 0⟩).y) := by rw [pt_eq]; exact he
          simp only [c2, w2, g2, g1, h1, h5, flat2, he', w1, RX, VOp.fresh, bxC, bsC, un, most, callsOf, seval, Int.reducePow, ↓reduceIte, Nat.reduceEqDiff, reduceCtorEq]
          refine step ⟨hb.1 rfl, fun h => he⟩ _ _ ?_ ?_ ?_
          · simp only [h1, sg_set, Nat.reduceEqDiff, ↓reduceIte]
          · simp only [h0, sg_set, Nat.reduceEqDiff, ↓reduceIte]
          · simp only [sg_set, Nat.reduceEqDiff, ↓reduceIte]
def rRing (sh : Int) (r : List Pt) : Prop := r.length ≤ 16 ∧ (∀ i, i < r.length → rrAt r i) ∧ ((sh = 0 ∧ r.length = 1) ∨ (sh = 1 ∧ 2 ≤ r.length) ∨ (sh = 2 ∧ 3 ≤ r.length ∧ r.getD 0 ⟨0, 0⟩ ≠ r.getD (r.length - 1) ⟨0, 0⟩))
theorem rRing_pu (g : Pg P tab) {r : List Pt} {v : AV} {sh : Int} (hv : IsL 16 RPt v r) : Pu P 77 [.int .i64 sh, v] (IsB (rRing sh r)) := by
  refine g.pu (vf := v77) rfl rfl ?_
  have hb := hv.bound (by decide)
  by_cases hl : r.length ≤ 16
  · have c1 : ¬ ((16 : Int) < (r.length : Int)) := by omega
    simp only [v77, hv.len, c1, RX, VOp.fresh, bxC, bsC, un, most, callsOf, seval, Int.reducePow, ↓reduceIte, Nat.reduceEqDiff, reduceCtorEq]
    refine rRing_loop g hv (sh := sh) hl r.length 0 _ _ _ _ (by omega) ?_ ?_ ?_ ?_ ?_
    · simp only [sg_set, Nat.reduceEqDiff, ↓reduceIte]
    · simp only [sg_set, Nat.reduceEqDiff, ↓reduceIte]
    · simp only [sg_set, Nat.reduceEqDiff, ↓reduceIte]
      rfl
    · intro hall s' h' a1 a0
      have hall' : ∀ i, i < r.length → rrAt r i := fun i hi => hall i (by omega) hi
      by_cases k0 : sh = 0
      · have d1 : ((r.length : Int) = 1) = (r.length = 1) := by rw [eq_iff_iff]; omega
        simp only [a0, a1, k0, hv.len, d1, RX, VOp.fresh, bxC, bsC, un, most, callsOf, seval, Int.reducePow, ↓reduceIte, Nat.reduceEqDiff, reduceCtorEq]
        exact ⟨fun h => ⟨hl, hall', .inl ⟨rfl, h⟩⟩, fun h => by rcases h.2.2 with h | h | h; exact h.2; exact absurd h.1 (by decide); exact absurd h.1 (by decide)⟩
      · by_cases k1 : sh = 1
        · have d1 : ((2 : Int) ≤ (r.length : Int)) = (2 ≤ r.length) := by rw [eq_iff_iff]; omega
          simp only [a0, a1, k1, hv.len, d1, RX, VOp.fresh, bxC, bsC, un, most, callsOf, seval, Int.reducePow, ↓reduceIte, Nat.reduceEqDiff, reduceCtorEq]
          exact ⟨fun h => ⟨hl, hall', .inr (.inl ⟨rfl, h⟩)⟩, fun h => by rcases h.2.2 with h | h | h; exact absurd h.1 (by decide); exact h.2; exact absurd h.1 (by decide)⟩
        · by_cases k2 : sh = 2
          · by_cases h3 : 3 ≤ r.length
            · have d1 : (3 : Int) ≤ (r.length : Int) := by omega
              obtain ⟨r1, _, g1⟩ := getPt hv 0 (by omega)
              obtain ⟨r2, _, g2⟩ := getPt hv (r.length - 1) (by omega)
              have ec : ((r.length - 1 : Nat) : Int) = (r.length : Int) - 1 := by omega
              rw [ec] at g2
              simp only [Int.natCast_zero, Int.ofNat_zero, Int.ofNat_eq_natCast] at g1
              have w2 : IntKind.i64.wrap ((r.length : Int) - 1) = (r.length : Int) - 1 := w64 (by omega) (by omega)
              simp only [a0, a1, k2, hv.len, d1, g1, g2, w2, flat2, pt_eq, RX, VOp.fresh, bxC, bsC, un, most, callsOf, seval, Int.reducePow, ↓reduceIte, Nat.reduceEqDiff, reduceCtorEq]
              refine ⟨fun h => ⟨hl, hall', .inr (.inr ⟨rfl, h3, by simpa using h⟩)⟩, fun h => ?_⟩
              rcases h.2.2 with h | h | h
              · exact absurd h.1 (by decide)
              · exact absurd h.1 (by decide)
              · simpa using h.2.2
            · have d1 : ¬ (3 : Int) ≤ (r.length : Int) := by omega
              simp only [a0, a1, k2, hv.len, d1, RX, VOp.fresh, bxC, bsC, un, most, callsOf, seval, Int.reducePow, ↓reduceIte, Nat.reduceEqDiff, reduceCtorEq]
              intro h
              rcases h.2.2 with h | h | h
              · exact absurd h.1 (by decide)
              · exact absurd h.1 (by decide)
              · exact h3 h.2.1
          · simp only [a0, a1, k0, k1, k2, RX, VOp.fresh, bxC, bsC, un, most, callsOf, seval, Int.reducePow, ↓reduceIte, Nat.reduceEqDiff, reduceCtorEq]
            intro h
            rcases h.2.2 with h | h | h
            · exact k0 h.1
            · exact k1 h.1
            · exact k2 h.1
    · intro hn s' h' h4
      simp only [h4, RX, VOp.fresh, bxC, bsC, un, most, callsOf, seval, Int.reducePow, ↓reduceIte, Nat.reduceEqDiff, reduceCtorEq]
      exact fun h => hn fun j _ hj => h.2.1 j hj
  · have c1 : (16 : Int) < (r.length : Int) := by omega
    simp only [v77, hv.len, c1, RX, VOp.fresh, bxC, bsC, un, most, callsOf, seval, Int.reducePow, ↓reduceIte, Nat.reduceEqDiff, reduceCtorEq]
    exact fun h => hl h.1
theorem rings_eq {r : List Pt} {c : Bool} (h1 : 1 ≤ r.length) : (∀ i, i < r.length → ringAt c r i) ↔ (∀ i, i < r.length → rrAt r i) ∧ (c = true → r.getD 0 ⟨0, 0⟩ ≠ r.getD (r.length - 1) ⟨0, 0⟩) := by
  constructor
  · intro h
    refine ⟨fun i hi => ⟨(h i hi).1, fun h0 => ?_⟩, fun hc => ?_⟩
    · have := (h (i - 1) (by omega)).2
      have e : nxt r.length (i - 1) = i := by unfold nxt; rw [if_neg (by omega)]; omega
      rw [e] at this
      exact fun e => this (.inl h0) e.symm
    · have := (h (r.length - 1) (by omega)).2 (.inr hc)
      have e : nxt r.length (r.length - 1) = 0 := by unfold nxt; rw [if_pos (by omega)]
      rw [e] at this
      exact fun e => this e.symm
  · rintro ⟨h, k⟩ i hi
    refine ⟨(h i hi).1, fun hc => ?_⟩
    unfold nxt at hc ⊢
    by_cases e : i + 1 = r.length
    · rw [if_pos e] at hc ⊢
      rcases hc with hc | hc
      · omega
      · have := k hc
        rw [show r.length - 1 = i by omega] at this
        exact fun e => this e.symm
    · rw [if_neg e] at hc ⊢
      have := (h (i + 1) (by omega)).2 (by omega)
      rw [Nat.add_sub_cancel] at this
      exact fun e => this e.symm
def rFeat (f : Feat) : Prop := 1 ≤ f.id ∧ f.id ≤ 65535 ∧ 1 ≤ f.rings.length ∧ f.rings.length ≤ 4 ∧ (f.shape = 2 ∨ f.rings.length = 1) ∧ ∀ i, i < f.rings.length → rRing f.shape (f.rings.getD i [])
theorem rFeat_eq (f : Feat) : rFeat f ↔ featOk f := by
  constructor
  · rintro ⟨a1, a2, a3, a4, a5, a6⟩
    refine ⟨a1, a2, a3, a4, ?_⟩
    have h0 := a6 0 (by omega)
    rcases h0.2.2 with ⟨k, h⟩ | ⟨k, h⟩ | ⟨k, h⟩
    · exact .inl ⟨k, by omega, h, (h0.2.1 0 (by omega)).1⟩
    · exact .inr (.inl ⟨k, by omega, by omega, by have := h0.1; omega, (rings_eq (by omega)).2 ⟨h0.2.1, fun e => by cases e⟩⟩)
    · refine .inr (.inr ⟨k, fun i hi => ?_⟩)
      have hi' := a6 i hi
      rcases hi'.2.2 with ⟨k', h⟩ | ⟨k', h⟩ | ⟨k', h, h2⟩
      · omega
      · omega
      · exact ⟨by omega, by have := hi'.1; omega, (rings_eq (by omega)).2 ⟨hi'.2.1, fun _ => h2⟩⟩
  · rintro ⟨a1, a2, a3, a4, h⟩
    rcases h with ⟨k, b2, b3, b4⟩ | ⟨k, b2, b3⟩ | ⟨k, b2⟩
    · refine ⟨a1, a2, a3, a4, .inr b2, fun i hi => ?_⟩
      have : i = 0 := by omega
      subst this
      refine ⟨by omega, fun j hj => ?_, .inl ⟨k, b3⟩⟩
      have : j = 0 := by omega
      subst this
      exact ⟨b4, fun h => by omega⟩
    · refine ⟨a1, a2, a3, a4, .inr b2, fun i hi => ?_⟩
      have : i = 0 := by omega
      subst this
      obtain ⟨c1, c2, c3⟩ := b3
      exact ⟨by omega, ((rings_eq (by omega)).1 c3).1, .inr (.inl ⟨k, by omega⟩)⟩
    · refine ⟨a1, a2, a3, a4, .inl k, fun i hi => ?_⟩
      obtain ⟨c1, c2, c3⟩ := b2 i hi
      have := (rings_eq (by omega)).1 c3
      exact ⟨by omega, this.1, .inr (.inr ⟨k, by omega, this.2 rfl⟩)⟩
theorem rFeat_loop (g : Pg P tab) {f : Feat} {v : AV} (hv : IsL 24 RRing v f.rings) {hh : Heap} {e : TypeId} {ver : Nat} (hg : hh.get 0 = some (.cells [.int .i64 f.id, .int .i64 f.shape, v] e ver)) (n : Nat) :
    ∀ (i : Nat) (s : T AV) (k : List Fr) (Q : Ex → T AV → Heap → Prop), i + n = f.rings.length → sg s 1 = .ptr 0 0 → sg s 3 = .int .i64 i →
      ((∀ j, i ≤ j → j < f.rings.length → rRing f.shape (f.rings.getD j [])) → ∀ s', Un P k Q (.exit 0) s' hh) → ((¬ ∀ j, i ≤ j → j < f.rings.length → rRing f.shape (f.rings.getD j [])) → ∀ s', sg s' 2 = .bool false → Un P k Q .ret s' hh) → Lp P b50_0 s hh (Un P k Q) := by
  have hb := hv.bound (by decide)
  induction n with
  | zero =>
    intro i s k Q hi h1 h3 hK hR
    refine g.lpe b50_0.eq_1 ?_
    have c1 : ¬ ((i : Int) < (f.rings.length : Int)) := by omega
    simp only [h1, h3, hg, hv.len, c1, RX, VOp.fresh, bxC, bsC, un, most, callsOf, seval, Int.reducePow, ↓reduceIte, Nat.reduceEqDiff, reduceCtorEq]
    exact hK (fun j h1 h2 => by omega) _
  | succ n ih =>
    intro i s k Q hi h1 h3 hK hR
    refine g.lpe b50_0.eq_1 ?_
    have c1 : (i : Int) < (f.rings.length : Int) := by omega
    obtain ⟨rv, r1, hrv, _, g1⟩ := getRing hv i (by omega)
    have w1 : IntKind.i64.wrap ((i : Int) + 1) = ((i + 1 : Nat) : Int) := by rw [w64 (by omega) (by omega)]; push_cast; rfl
    simp only [h1, h3, hg, hv.len, c1, g1, RX, VOp.fresh, bxC, bsC, un, most, callsOf, seval, Int.reducePow, ↓reduceIte, Nat.reduceEqDiff, reduceCtorEq]
    refine (rRing_pu g hrv).go (by simp [AV.tolds, AV.told, hrv.told tPt]) ?_
    rintro x ⟨b, rfl, hbb⟩
    cases b
    · simp only [h3, RX, VOp.fresh, bxC, bsC, un, most, callsOf, seval, Int.reducePow, ↓reduceIte, Nat.reduceEqDiff, reduceCtorEq]
      refine hR (fun hall => ?_) _ (by simp only [sg_set, Nat.reduceEqDiff, ↓reduceIte])
      have := hbb.2 (hall i (Nat.le_refl _) (by omega))
      cases this
    · simp only [h3, w1, RX, VOp.fresh, bxC, bsC, un, most, callsOf, seval, Int.reducePow, ↓reduceIte, Nat.reduceEqDiff, reduceCtorEq]
      have hok := hbb.1 rfl
      have all : (∀ j, i ≤ j → j < f.rings.length → rRing f.shape (f.rings.getD j [])) ↔ ∀ j, i + 1 ≤ j → j < f.rings.length → rRing f.shape (f.rings.getD j []) := ⟨fun h j h1 h2 => h j (by omega) h2, fun h j h1 h2 => by
        rcases Nat.lt_or_ge i j with h3 | h3
        · exact h j h3 h2
        · rw [show j = i by omega]; exact hok⟩
      refine ih (i + 1) _ k Q (by omega) ?_ ?_ (fun h => hK (all.2 h)) (fun h => hR (fun h' => h (all.1 h')))
      · simp only [h1, sg_set, Nat.reduceEqDiff, ↓reduceIte]
      · simp only [sg_set, Nat.reduceEqDiff, ↓reduceIte]
theorem rShape_pu (g : Pg P tab) {f : Feat} {v : AV} (hv : IsL 24 RRing v f.rings) : Pu P 50 [.agg [.int .i64 f.id, .int .i64 f.shape, v]] (IsB (featOk f)) := by
  rw [show IsB (featOk f) = IsB (rFeat f) from by rw [show featOk f = rFeat f from propext (rFeat_eq f).symm]]
  refine g.pu (vf := v50) rfl rfl ?_
  have d1 : ((f.rings.length : Int) < 1) = ¬ (1 ≤ f.rings.length) := by rw [eq_iff_iff]; omega
  have d2 : ((4 : Int) < (f.rings.length : Int)) = ¬ (f.rings.length ≤ 4) := by rw [eq_iff_iff]; omega
  have d3 : ((f.rings.length : Int) = 1) = (f.rings.length = 1) := by rw [eq_iff_iff]; omega
  by_cases hc : 1 ≤ f.id ∧ f.id ≤ 65535 ∧ 1 ≤ f.rings.length ∧ f.rings.length ≤ 4 ∧ (f.shape = 2 ∨ f.rings.length = 1)
  · obtain ⟨e1, e2, e3, e4, e5⟩ := hc
    have f1 : ¬ f.id < 1 := by omega
    have f2 : ¬ 65535 < f.id := by omega
    have go : ∀ (s : T AV) (k : List Fr) (Q : Ex → T AV → Heap → Prop), True := fun _ _ _ => trivial
    rcases e5 with e5 | e5
    · simp only [v50, hv.len, d1, d2, d3, f1, f2, e3, e4, e5, RX, VOp.fresh, bxC, bsC, un, most, callsOf, seval, Int.reducePow, ↓reduceIte, Nat.reduceEqDiff, reduceCtorEq]
      refine rFeat_loop g hv (by rw [Heap.get_mk, if_pos rfl, e5]) f.rings.length 0 _ _ _ (by omega) ?_ ?_ ?_ ?_
      · simp only [sg_set, Nat.reduceEqDiff, ↓reduceIte]
      · simp only [sg_set, Nat.reduceEqDiff, ↓reduceIte]
        rfl
      · intro hall s'
        simp only [RX, VOp.fresh, bxC, bsC, un, most, callsOf, seval, Int.reducePow, ↓reduceIte, Nat.reduceEqDiff, reduceCtorEq]
        exact ⟨e1, e2, e3, e4, .inl e5, fun i hi => hall i (by omega) hi⟩
      · intro hn s' h2
        simp only [h2, RX, VOp.fresh, bxC, bsC, un, most, callsOf, seval, Int.reducePow, ↓reduceIte, Nat.reduceEqDiff, reduceCtorEq]
        exact fun h => hn fun j _ hj => h.2.2.2.2.2 j hj
    · by_cases e6 : f.shape = 2
      · simp only [v50, hv.len, d1, d2, d3, f1, f2, e3, e4, e5, e6, RX, VOp.fresh, bxC, bsC, un, most, callsOf, seval, Int.reducePow, ↓reduceIte, Nat.reduceEqDiff, reduceCtorEq]
        refine rFeat_loop g hv (by rw [Heap.get_mk, if_pos rfl, e6]) f.rings.length 0 _ _ _ (by omega) ?_ ?_ ?_ ?_
        · simp only [sg_set, Nat.reduceEqDiff, ↓reduceIte]
        · simp only [sg_set, Nat.reduceEqDiff, ↓reduceIte]
          rfl
        · intro hall s'
          simp only [RX, VOp.fresh, bxC, bsC, un, most, callsOf, seval, Int.reducePow, ↓reduceIte, Nat.reduceEqDiff, reduceCtorEq]
          exact ⟨e1, e2, e3, e4, .inr e5, fun i hi => hall i (by omega) hi⟩
        · intro hn s' h2
          simp only [h2, RX, VOp.fresh, bxC, bsC, un, most, callsOf, seval, Int.reducePow, ↓reduceIte, Nat.reduceEqDiff, reduceCtorEq]
          exact fun h => hn fun j _ hj => h.2.2.2.2.2 j hj
      · simp only [v50, hv.len, d1, d2, d3, f1, f2, e3, e4, e5, e6, RX, VOp.fresh, bxC, bsC, un, most, callsOf, seval, Int.reducePow, ↓reduceIte, Nat.reduceEqDiff, reduceCtorEq]
        refine rFeat_loop g hv (by rw [Heap.get_mk, if_pos rfl]) f.rings.length 0 _ _ _ (by omega) ?_ ?_ ?_ ?_
        · simp only [sg_set, Nat.reduceEqDiff, ↓reduceIte]
        · simp only [sg_set, Nat.reduceEqDiff, ↓reduceIte]
          rfl
        · intro hall s'
          simp only [RX, VOp.fresh, bxC, bsC, un, most, callsOf, seval, Int.reducePow, ↓reduceIte, Nat.reduceEqDiff, reduceCtorEq]
          exact ⟨e1, e2, e3, e4, .inr e5, fun i hi => hall i (by omega) hi⟩
        · intro hn s' h2
          simp only [h2, RX, VOp.fresh, bxC, bsC, un, most, callsOf, seval, Int.reducePow, ↓reduceIte, Nat.reduceEqDiff, reduceCtorEq]
          exact fun h => hn fun j _ hj => h.2.2.2.2.2 j hj
  · have no : ¬ rFeat f := fun h => hc ⟨h.1, h.2.1, h.2.2.1, h.2.2.2.1, h.2.2.2.2.1⟩
    by_cases f1 : f.id < 1
    · simp only [v50, f1, no, RX, VOp.fresh, bxC, bsC, un, most, callsOf, seval, Int.reducePow, ↓reduceIte, Nat.reduceEqDiff, reduceCtorEq]
    · by_cases f2 : 65535 < f.id
      · simp only [v50, f1, f2, no, RX, VOp.fresh, bxC, bsC, un, most, callsOf, seval, Int.reducePow, ↓reduceIte, Nat.reduceEqDiff, reduceCtorEq]
      · by_cases e3 : 1 ≤ f.rings.length
        · by_cases e4 : f.rings.length ≤ 4
          · have e5 : ¬ f.shape = 2 := fun e => hc ⟨by omega, by omega, e3, e4, .inl e⟩
            have e6 : ¬ f.rings.length = 1 := fun e => hc ⟨by omega, by omega, e3, e4, .inr e⟩
            simp only [v50, hv.len, d1, d2, d3, f1, f2, e3, e4, e5, e6, no, RX, VOp.fresh, bxC, bsC, un, most, callsOf, seval, Int.reducePow, ↓reduceIte, Nat.reduceEqDiff, reduceCtorEq]
          · simp only [v50, hv.len, d1, d2, f1, f2, e3, e4, no, RX, VOp.fresh, bxC, bsC, un, most, callsOf, seval, Int.reducePow, ↓reduceIte, Nat.reduceEqDiff, reduceCtorEq]
        · simp only [v50, hv.len, d1, f1, f2, e3, no, RX, VOp.fresh, bxC, bsC, un, most, callsOf, seval, Int.reducePow, ↓reduceIte, Nat.reduceEqDiff, reduceCtorEq]
end
section
variable {P : Program}
theorem rMap_loop (g : Pg P tab) {nodes : Int} {m : Mp} {v u : AV} (hv : IsL 8 RInt v m.starts) (hu : IsL 8 RInt u m.owners) (hl : m.owners.length = m.starts.length) {hh : Heap} {e : TypeId} {ver : Nat} (hg : hh.get 0 = some (.cells [.int .i64 m.epoch, v, u] e ver)) (n : Nat) :
    ∀ (i : Nat) (s : T AV) (k : List Fr) (Q : Ex → T AV → Heap → Prop), i + n = m.starts.length → sg s 2 = .ptr 0 0 → sg s 1 = .int .i64 nodes → sg s 5 = .int .i64 i →
      ((∀ j, i ≤ j → j < m.starts.length → mpAt nodes m j) → ∀ s', Un P k Q (.exit 0) s' hh) → ((¬ ∀ j, i ≤ j → j < m.starts.length → mpAt nodes m j) → ∀ s', sg s' 4 = .bool false → Un P k Q .ret s' hh) → Lp P b42_0 s hh (Un P k Q) := by
  have hb := hv.bound (by decide)
  induction n with
  | zero =>
    intro i s k Q hi h2 h1 h5 hK hR
    refine g.lpe b42_0.eq_1 ?_
    have c1 : ¬ ((i : Int) < (m.starts.length : Int)) := by omega
    simp only [h2, h5, hg, hv.len, c1, RX, VOp.fresh, bxC, bsC, un, most, callsOf, seval, Int.reducePow, ↓reduceIte, Nat.reduceEqDiff, reduceCtorEq]
    exact hK (fun j h1 h2 => by omega) _
  | succ n ih =>
    intro i s k Q hi h2 h1 h5 hK hR
    refine g.lpe b42_0.eq_1 ?_
    have c1 : (i : Int) < (m.starts.length : Int) := by omega
    obtain ⟨r1, _, g1⟩ := getInt hv i (by omega)
    obtain ⟨r2, _, g2⟩ := getInt hu i (by omega)
    have w1 : IntKind.i64.wrap ((i : Int) + 1) = ((i + 1 : Nat) : Int) := by rw [w64 (by omega) (by omega)]; push_cast; rfl
    have w2 : IntKind.i64.wrap ((i : Int) - 1) = (i : Int) - 1 := w64 (by omega) (by omega)
    have no : ¬ mpAt nodes m i → ∀ s', sg s' 4 = .bool false → Un P k Q .ret s' hh := fun h => hR fun hall => h (hall i (Nat.le_refl _) (by omega))
    have step : mpAt nodes m i → ∀ s', sg s' 2 = .ptr 0 0 → sg s' 1 = .int .i64 nodes → sg s' 5 = .int .i64 (i + 1 : Nat) → Lp P b42_0 s' hh (Un P k Q) := fun hok s' a1 a0 a5 => by
      have all : (∀ j, i ≤ j → j < m.starts.length → mpAt nodes m j) ↔ ∀ j, i + 1 ≤ j → j < m.starts.length → mpAt nodes m j := ⟨fun h j h1 h2 => h j (by omega) h2, fun h j h1 h2 => by
        rcases Nat.lt_or_ge i j with h3 | h3
        · exact h j h3 h2
        · rw [show j = i by omega]; exact hok⟩
      exact ih (i + 1) _ k Q (by omega) a1 a0 a5 (fun h => hK (all.2 h)) (fun h => hR (fun h' => h (all.1 h')))
    generalize hsi : m.starts.getD i 0 = a at *
    generalize hoi : m.owners.getD i 0 = o at *
    have mp : mpAt nodes m i ↔ (a < 4294967296 ∧ (i = 0 ∨ m.starts.getD (i - 1) 0 < a) ∧ 0 ≤ o ∧ o < nodes) := by unfold mpAt; rw [hsi, hoi]
    by_cases x1 : 4294967296 ≤ a
    · simp only [h2, h1, h5, hg, hv.len, c1, g1, x1, RX, VOp.fresh, bxC, bsC, un, most, callsOf, seval, Int.reducePow, ↓reduceIte, Nat.reduceEqDiff, reduceCtorEq]
      exact no (fun h => by have := (mp.1 h).1; omega) _ (by simp only [sg_set, Nat.reduceEqDiff, ↓reduceIte])
    by_cases x2 : o < 0
    · simp only [h2, h1, h5, hg, hv.len, c1, g1, g2, x1, x2, RX, VOp.fresh, bxC, bsC, un, most, callsOf, seval, Int.reducePow, ↓reduceIte, Nat.reduceEqDiff, reduceCtorEq]
      exact no (fun h => by have := (mp.1 h).2.2.1; omega) _ (by simp only [sg_set, Nat.reduceEqDiff, ↓reduceIte])
    by_cases x3 : nodes ≤ o
    · simp only [h2, h1, h5, hg, hv.len, c1, g1, g2, x1, x2, x3, RX, VOp.fresh, bxC, bsC, un, most, callsOf, seval, Int.reducePow, ↓reduceIte, Nat.reduceEqDiff, reduceCtorEq]
      exact no (fun h => by have := (mp.1 h).2.2.2; omega) _ (by simp only [sg_set, Nat.reduceEqDiff, ↓reduceIte])
    by_cases hi0 : i = 0
    · have c2 : ¬ ((0 : Int) < (i : Int)) := by omega
      simp only [h2, h1, h5, hg, hv.len, c1, c2, g1, g2, x1, x2, x3, w1, RX, VOp.fresh, bxC, bsC, un, most, callsOf, seval, Int.reducePow, ↓reduceIte, Nat.reduceEqDiff, reduceCtorEq]
      refine step (mp.2 ⟨by omega, .inl hi0, by omega, by omega⟩) _ ?_ ?_ ?_
      · simp only [h2, sg_set, Nat.reduceEqDiff, ↓reduceIte]
      · simp only [h1, sg_set, Nat.reduceEqDiff, ↓reduceIte]
      · simp only [sg_set, Nat.reduceEqDiff, ↓reduceIte]
    · have c2 : (0 : Int) < (i : Int) := by omega
      obtain ⟨r3, _, g3⟩ := getInt hv (i - 1) (by omega)
      have ec : ((i - 1 : Nat) : Int) = (i : Int) - 1 := by omega
      rw [ec] at g3
      by_cases x4 : a ≤ m.starts.getD (i - 1) 0
      · simp only [h2, h1, h5, hg, hv.len, c1, c2, g1, g2, g3, x1, x2, x3, x4, w1, w2, RX, VOp.fresh, bxC, bsC, un, most, callsOf, seval, Int.reducePow, ↓reduceIte, Nat.reduceEqDiff, reduceCtorEq]
        exact no (fun h => by have := (mp.1 h).2.1; omega) _ (by simp only [sg_set, Nat.reduceEqDiff, ↓reduceIte])
      · simp only [h2, h1, h5, hg, hv.len, c1, c2, g1, g2, g3, x1, x2, x3, x4, w1, w2, RX, VOp.fresh, bxC, bsC, un, most, callsOf, seval, Int.reducePow, ↓reduceIte, Nat.reduceEqDiff, reduceCtorEq]
        refine step (mp.2 ⟨by omega, .inr (by omega), by omega, by omega⟩) _ ?_ ?_ ?_
        · simp only [h2, sg_set, Nat.reduceEqDiff, ↓reduceIte]
        · simp only [h1, sg_set, Nat.reduceEqDiff, ↓reduceIte]
        · simp only [sg_set, Nat.reduceEqDiff, ↓reduceIte]
theorem rMap_pu (g : Pg P tab) {nodes : Int} {m : Mp} {v u : AV} (hv : IsL 8 RInt v m.starts) (hu : IsL 8 RInt u m.owners) : Pu P 42 [.agg [.int .i64 m.epoch, v, u], .int .i64 nodes] (IsB (mpOk nodes m)) := by
  refine g.pu (vf := v42) rfl rfl ?_
  by_cases x1 : nodes < 1
  · have no : ¬ mpOk nodes m := fun h => by have := h.1; omega
    simp only [v42, x1, no, RX, VOp.fresh, bxC, bsC, un, most, callsOf, seval, Int.reducePow, ↓reduceIte, Nat.reduceEqDiff, reduceCtorEq]
  by_cases x2 : 8 < nodes
  · have no : ¬ mpOk nodes m := fun h => by have := h.2.1; omega
    simp only [v42, x1, x2, no, RX, VOp.fresh, bxC, bsC, un, most, callsOf, seval, Int.reducePow, ↓reduceIte, Nat.reduceEqDiff, reduceCtorEq]
  by_cases x3 : m.epoch < 1
  · have no : ¬ mpOk nodes m := fun h => by have := h.2.2.1; omega
    simp only [v42, x1, x2, x3, no, RX, VOp.fresh, bxC, bsC, un, most, callsOf, seval, Int.reducePow, ↓reduceIte, Nat.reduceEqDiff, reduceCtorEq]
  by_cases x4 : 65535 < m.epoch
  · have no : ¬ mpOk nodes m := fun h => by have := h.2.2.2.1; omega
    simp only [v42, x1, x2, x3, x4, no, RX, VOp.fresh, bxC, bsC, un, most, callsOf, seval, Int.reducePow, ↓reduceIte, Nat.reduceEqDiff, reduceCtorEq]
  by_cases x5 : (m.starts.length : Int) < 1
  · have no : ¬ mpOk nodes m := fun h => by have := h.2.2.2.2.1; omega
    simp only [v42, x1, x2, x3, x4, hv.len, x5, no, RX, VOp.fresh, bxC, bsC, un, most, callsOf, seval, Int.reducePow, ↓reduceIte, Nat.reduceEqDiff, reduceCtorEq]
  by_cases x6 : (32 : Int) < (m.starts.length : Int)
  · have no : ¬ mpOk nodes m := fun h => by have := h.2.2.2.2.2.1; omega
    simp only [v42, x1, x2, x3, x4, hv.len, x5, x6, no, RX, VOp.fresh, bxC, bsC, un, most, callsOf, seval, Int.reducePow, ↓reduceIte, Nat.reduceEqDiff, reduceCtorEq]
  by_cases x7 : (m.owners.length : Int) = (m.starts.length : Int)
  · obtain ⟨r1, _, g1⟩ := getInt hv 0 (by omega)
    simp only [Int.natCast_zero, Int.ofNat_zero, Int.ofNat_eq_natCast] at g1
    by_cases x8 : m.starts.getD 0 0 = 0
    · simp only [v42, x1, x2, x3, x4, hv.len, hu.len, x5, x6, x7, g1, x8, RX, VOp.fresh, bxC, bsC, un, most, callsOf, seval, Int.reducePow, ↓reduceIte, Nat.reduceEqDiff, reduceCtorEq]
      refine rMap_loop g hv hu (nodes := nodes) (by omega) (by rw [Heap.get_mk, if_pos rfl]) m.starts.length 0 _ _ _ (by omega) ?_ ?_ ?_ ?_ ?_
      · simp only [sg_set, Nat.reduceEqDiff, ↓reduceIte]
      · simp only [sg_set, Nat.reduceEqDiff, ↓reduceIte]
      · simp only [sg_set, Nat.reduceEqDiff, ↓reduceIte]
        rfl
      · intro hall s'
        simp only [RX, VOp.fresh, bxC, bsC, un, most, callsOf, seval, Int.reducePow, ↓reduceIte, Nat.reduceEqDiff, reduceCtorEq]
        exact ⟨by omega, by omega, by omega, by omega, by omega, by omega, by omega, x8, fun i hi => hall i (by omega) hi⟩
      · intro hn s' h4
        simp only [h4, RX, VOp.fresh, bxC, bsC, un, most, callsOf, seval, Int.reducePow, ↓reduceIte, Nat.reduceEqDiff, reduceCtorEq]
        exact fun h => hn fun j _ hj => h.2.2.2.2.2.2.2.2 j hj
    · have no : ¬ mpOk nodes m := fun h => x8 h.2.2.2.2.2.2.2.1
      simp only [v42, x1, x2, x3, x4, hv.len, hu.len, x5, x6, x7, g1, x8, no, RX, VOp.fresh, bxC, bsC, un, most, callsOf, seval, Int.reducePow, ↓reduceIte, Nat.reduceEqDiff, reduceCtorEq]
  · have no : ¬ mpOk nodes m := fun h => by have := h.2.2.2.2.2.2.1; omega
    simp only [v42, x1, x2, x3, x4, hv.len, hu.len, x5, x6, x7, no, RX, VOp.fresh, bxC, bsC, un, most, callsOf, seval, Int.reducePow, ↓reduceIte, Nat.reduceEqDiff, reduceCtorEq]
def opIdR (o : Op) : Int := if o.kind = 0 then o.f.id else if o.kind = 1 then o.id else 0
theorem rId_pu (g : Pg P tab) {o : Op} {c : List AV} (hc : ROp o c) : Pu P 76 [.agg c] (fun x => x = .int .i64 (opIdR o)) := by
  obtain ⟨v, a, u, rfl, _⟩ := hc
  refine g.pu (vf := v76) rfl rfl ?_
  by_cases k0 : o.kind = 0
  · simp only [v76, k0, opIdR, RX, VOp.fresh, bxC, bsC, un, most, callsOf, seval, Int.reducePow, ↓reduceIte, Nat.reduceEqDiff, reduceCtorEq]
  · by_cases k1 : o.kind = 1
    · simp only [v76, k1, opIdR, RX, VOp.fresh, bxC, bsC, un, most, callsOf, seval, Int.reducePow, ↓reduceIte, Nat.reduceEqDiff, reduceCtorEq]
    · simp only [v76, k0, k1, opIdR, RX, VOp.fresh, bxC, bsC, un, most, callsOf, seval, Int.reducePow, ↓reduceIte, Nat.reduceEqDiff, reduceCtorEq]
theorem rOp_pu (g : Pg P tab) {o : Op} {c : List AV} (hc : ROp o c) : Pu P 75 [.agg c] (IsB (opOk 8 o)) := by
  obtain ⟨v, a, u, rfl, _, _, _, hv, _, _, ha, hu⟩ := hc
  refine g.pu (vf := v75) rfl rfl ?_
  have t1 : AV.tolds [.agg [.int .i64 o.f.id, .int .i64 o.f.shape, v]] = true := by simp [AV.tolds, AV.told, hv.told tRing]
  have t2 : AV.tolds [.agg [.int .i64 o.m.epoch, a, u]] = true := by simp [AV.tolds, AV.told, ha.told tInt, hu.told tInt]
  have t3 : AV.tolds [.agg [.int .i64 o.m.epoch, a, u], .int .i64 8] = true := by simp [AV.tolds, AV.told, ha.told tInt, hu.told tInt]
  by_cases k0 : o.kind = 0
  · simp only [v75, k0, RX, VOp.fresh, bxC, bsC, un, most, callsOf, seval, Int.reducePow, ↓reduceIte, Nat.reduceEqDiff, reduceCtorEq]
    refine (rShape_pu g hv).go t1 ?_
    rintro x ⟨b, rfl, hb⟩
    cases b
    · simp only [RX, VOp.fresh, bxC, bsC, un, most, callsOf, seval, Int.reducePow, ↓reduceIte, Nat.reduceEqDiff, reduceCtorEq]
      rintro (⟨_, h, _⟩ | ⟨k, _⟩ | ⟨k, _⟩)
      · have := hb.2 h; cases this
      · omega
      · omega
    · by_cases x1 : o.id = 0
      · simp only [x1, RX, VOp.fresh, bxC, bsC, un, most, callsOf, seval, Int.reducePow, ↓reduceIte, Nat.reduceEqDiff, reduceCtorEq]
        refine (rZeroMap_pu g ha hu).go t2 ?_
        rintro x ⟨b, rfl, hb2⟩
        simp only [RX, VOp.fresh, bxC, bsC, un, most, callsOf, seval, Int.reducePow, ↓reduceIte, Nat.reduceEqDiff, reduceCtorEq]
        rw [hb2]
        exact ⟨fun h => .inl ⟨k0, hb.1 rfl, x1, h⟩, fun h => by rcases h with ⟨_, _, _, h⟩ | ⟨k, _⟩ | ⟨k, _⟩ <;> first | exact h | omega⟩
      · simp only [x1, RX, VOp.fresh, bxC, bsC, un, most, callsOf, seval, Int.reducePow, ↓reduceIte, Nat.reduceEqDiff, reduceCtorEq]
        rintro (⟨_, _, h, _⟩ | ⟨k, _⟩ | ⟨k, _⟩)
        · exact x1 h
        · omega
        · omega
  · by_cases k1 : o.kind = 1
    · have only : opOk 8 o → 1 ≤ o.id ∧ o.id ≤ 65535 ∧ ftZero o.f ∧ mpZero o.m := fun h => by rcases h with ⟨k, _⟩ | ⟨_, h⟩ | ⟨k, _⟩ <;> first | exact h | omega
      by_cases x1 : 1 ≤ o.id
      · by_cases x2 : o.id ≤ 65535
        · simp only [v75, k1, x1, x2, RX, VOp.fresh, bxC, bsC, un, most, callsOf, seval, Int.reducePow, ↓reduceIte, Nat.reduceEqDiff, reduceCtorEq]
          refine (rZeroFeat_pu g hv).go t1 ?_
          rintro x ⟨b, rfl, hb⟩
          cases b
          · simp only [RX, VOp.fresh, bxC, bsC, un, most, callsOf, seval, Int.reducePow, ↓reduceIte, Nat.reduceEqDiff, reduceCtorEq]
            intro h
            have := hb.2 (only h).2.2.1
            cases this
          · simp only [RX, VOp.fresh, bxC, bsC, un, most, callsOf, seval, Int.reducePow, ↓reduceIte, Nat.reduceEqDiff, reduceCtorEq]
            refine (rZeroMap_pu g ha hu).go t2 ?_
            rintro x ⟨b, rfl, hb2⟩
            simp only [RX, VOp.fresh, bxC, bsC, un, most, callsOf, seval, Int.reducePow, ↓reduceIte, Nat.reduceEqDiff, reduceCtorEq]
            rw [hb2]
            exact ⟨fun h => .inr (.inl ⟨k1, x1, x2, hb.1 rfl, h⟩), fun h => (only h).2.2.2⟩
        · simp only [v75, k1, x1, x2, RX, VOp.fresh, bxC, bsC, un, most, callsOf, seval, Int.reducePow, ↓reduceIte, Nat.reduceEqDiff, reduceCtorEq]
          exact fun h => x2 (only h).2.1
      · simp only [v75, k1, x1, RX, VOp.fresh, bxC, bsC, un, most, callsOf, seval, Int.reducePow, ↓reduceIte, Nat.reduceEqDiff, reduceCtorEq]
        exact fun h => x1 (only h).1
    · by_cases k2 : o.kind = 2
      · have only : opOk 8 o → mpOk 8 o.m ∧ o.id = 0 ∧ ftZero o.f := fun h => by rcases h with ⟨k, _⟩ | ⟨k, _⟩ | ⟨_, h⟩ <;> first | exact h | omega
        simp only [v75, k2, RX, VOp.fresh, bxC, bsC, un, most, callsOf, seval, Int.reducePow, ↓reduceIte, Nat.reduceEqDiff, reduceCtorEq]
        refine (rMap_pu g (nodes := 8) ha hu).go t3 ?_
        rintro x ⟨b, rfl, hb⟩
        cases b
        · simp only [RX, VOp.fresh, bxC, bsC, un, most, callsOf, seval, Int.reducePow, ↓reduceIte, Nat.reduceEqDiff, reduceCtorEq]
          intro h
          have := hb.2 (only h).1
          cases this
        · simp only [RX, VOp.fresh, bxC, bsC, un, most, callsOf, seval, Int.reducePow, ↓reduceIte, Nat.reduceEqDiff, reduceCtorEq]
          refine (rZeroFeat_pu g hv).go t1 ?_
          rintro x ⟨b, rfl, hb2⟩
          cases b
          · simp only [RX, VOp.fresh, bxC, bsC, un, most, callsOf, seval, Int.reducePow, ↓reduceIte, Nat.reduceEqDiff, reduceCtorEq]
            intro h
            have := hb2.2 (only h).2.2
            cases this
          · by_cases x1 : o.id = 0
            · simp only [x1, RX, VOp.fresh, bxC, bsC, un, most, callsOf, seval, Int.reducePow, ↓reduceIte, Nat.reduceEqDiff, reduceCtorEq]
              exact .inr (.inr ⟨k2, hb.1 rfl, x1, hb2.1 rfl⟩)
            · simp only [x1, RX, VOp.fresh, bxC, bsC, un, most, callsOf, seval, Int.reducePow, ↓reduceIte, Nat.reduceEqDiff, reduceCtorEq]
              exact fun h => x1 (only h).2.1
      · simp only [v75, k0, k1, k2, RX, VOp.fresh, bxC, bsC, un, most, callsOf, seval, Int.reducePow, ↓reduceIte, Nat.reduceEqDiff, reduceCtorEq]
        rintro (⟨k, _⟩ | ⟨k, _⟩ | ⟨k, _⟩)
        · exact k0 k
        · exact k1 k
        · exact k2 k
end
def idAns : List AV → AV
  | [.agg (.int _ k :: .int _ f :: _ :: _ :: .int _ i :: _)] => .int .i64 (if k = 0 then f else if k = 1 then i else 0)
  | _ => .undef
def cId (_ : Nat) (args : List AV) (h : Heap) : AV × Heap := (idAns args, h)
section
variable {P : Program}
theorem rOps_in (g : Pg P tab) {l : List Op} {v : AV} (hv : IsL 112 ROp v l) {i : Nat} (hi : i < l.length) (n : Nat) :
    ∀ (j : Nat) (s : T AV) (hh : Heap) (k : List Fr) (Q : Ex → T AV → Heap → Prop), j + n = i → sg s 0 = v → sg s 3 = .int .i64 i → sg s 4 = .int .i64 j →
      ((∀ x, j ≤ x → x < i → ¬ (0 < opIdR (l.getD i op0) ∧ opIdR (l.getD x op0) = opIdR (l.getD i op0))) → ∀ s', sg s' 0 = v → sg s' 3 = .int .i64 i → Un P k Q (.exit 2) s' hh) → ((¬ ∀ x, j ≤ x → x < i → ¬ (0 < opIdR (l.getD i op0) ∧ opIdR (l.getD x op0) = opIdR (l.getD i op0))) → ∀ s', sg s' 2 = .bool false → Un P k Q .ret s' hh) → Lp P b48_0 s hh (Un P k Q) := by
  have hb := hv.bound (by decide)
  induction n with
  | zero =>
    intro j s hh k Q hj h0 h3 h4 hK hR
    refine g.lpe b48_0.eq_1 ?_
    have c1 : ¬ ((j : Int) < (i : Int)) := by omega
    simp only [h3, h4, c1, RX, VOp.fresh, bxC, bsC, un, most, callsOf, seval, Int.reducePow, ↓reduceIte, Nat.reduceEqDiff, reduceCtorEq]
    exact hK (fun x h1 h2 => by omega) _ (by simp only [h0, sg_set, Nat.reduceEqDiff, ↓reduceIte]) (by simp only [h3, sg_set, Nat.reduceEqDiff, ↓reduceIte])
  | succ n ih =>
    intro j s hh k Q hj h0 h3 h4 hK hR
    refine g.lpe b48_0.eq_1 ?_
    have c1 : (j : Int) < (i : Int) := by omega
    have w1 : IntKind.i64.wrap ((j : Int) + 1) = ((j + 1 : Nat) : Int) := by rw [w64 (by omega) (by omega)]; push_cast; rfl
    obtain ⟨ci, ri, hci, _, _, gi⟩ := getOp hv i hi
    obtain ⟨cj, rj, hcj, _, _, gj⟩ := getOp hv j (by omega)
    have oi : ∀ h, OK P 76 [.agg ci] h (.int .i64 (opIdR (l.getD i op0))) h := fun h => (rId_pu g hci).exact (by simp [AV.tolds, AV.told, tOp _ _ hci])
    have oj : ∀ h, OK P 76 [.agg cj] h (.int .i64 (opIdR (l.getD j op0))) h := fun h => (rId_pu g hcj).exact (by simp [AV.tolds, AV.told, tOp _ _ hcj])
    obtain ⟨v1, a1, u1, rfl, _⟩ := hci
    obtain ⟨v2, a2, u2, rfl, _⟩ := hcj
    have ei : idAns [.agg [.int .i64 (l.getD i op0).kind, .int .i64 (l.getD i op0).f.id, .int .i64 (l.getD i op0).f.shape, v1, .int .i64 (l.getD i op0).id, .int .i64 (l.getD i op0).m.epoch, a1, u1]] = .int .i64 (opIdR (l.getD i op0)) := rfl
    have ej : idAns [.agg [.int .i64 (l.getD j op0).kind, .int .i64 (l.getD j op0).f.id, .int .i64 (l.getD j op0).f.shape, v2, .int .i64 (l.getD j op0).id, .int .i64 (l.getD j op0).m.epoch, a2, u2]] = .int .i64 (opIdR (l.getD j op0)) := rfl
    generalize opIdR (l.getD i op0) = x at *
    generalize hy : opIdR (l.getD j op0) = y at *
    have step : ¬ (0 < x ∧ y = x) → ∀ s', sg s' 0 = v → sg s' 3 = .int .i64 i → sg s' 4 = .int .i64 (j + 1 : Nat) → Lp P b48_0 s' hh (Un P k Q) := fun hok s' q0 q3 q4 => by
      have all : (∀ z, j ≤ z → z < i → ¬ (0 < x ∧ opIdR (l.getD z op0) = x)) ↔ ∀ z, j + 1 ≤ z → z < i → ¬ (0 < x ∧ opIdR (l.getD z op0) = x) := ⟨fun h z h1 h2 => h z (by omega) h2, fun h z h1 h2 => by
        rcases Nat.lt_or_ge j z with h3 | h3
        · exact h z h3 h2
        · rw [show z = j by omega, hy]; exact hok⟩
      exact ih (j + 1) _ _ k Q (by omega) q0 q3 q4 (fun h => hK (all.2 h)) (fun h => hR (fun h' => h (all.1 h')))
    simp only [h0, h3, h4, c1, RX, VOp.fresh, bxC, bsC, un, most, callsOf, seval, Int.reducePow, ↓reduceIte, Nat.reduceEqDiff, reduceCtorEq]
    refine EvD.same cId rfl ?_
    by_cases x1 : 0 < x
    · by_cases x2 : y = x
      · have oj' := oj
        rw [x2] at oj'
        simp only [h0, h3, h4, gi, gj, cId, ei, ej, oi, oj', x1, x2, RX, VOp.fresh, bxC, bsC, un, most, callsOf, seval, Int.reducePow, ↓reduceIte, Nat.reduceEqDiff, reduceCtorEq]
        refine hR (fun h => ?_) _ (by simp only [sg_set, Nat.reduceEqDiff, ↓reduceIte])
        have := h j (Nat.le_refl _) (by omega)
        rw [hy] at this
        exact this ⟨x1, x2⟩
      · simp only [h0, h3, h4, gi, gj, cId, ei, ej, oi, oj, x1, x2, w1, RX, VOp.fresh, bxC, bsC, un, most, callsOf, seval, Int.reducePow, ↓reduceIte, Nat.reduceEqDiff, reduceCtorEq]
        refine step (fun h => x2 h.2) _ ?_ ?_ ?_
        · simp only [h0, sg_set, Nat.reduceEqDiff, ↓reduceIte]
        · simp only [h3, sg_set, Nat.reduceEqDiff, ↓reduceIte]
        · simp only [sg_set, Nat.reduceEqDiff, ↓reduceIte]
    · simp only [h0, h3, h4, gi, gj, cId, ei, ej, oi, oj, x1, w1, RX, VOp.fresh, bxC, bsC, un, most, callsOf, seval, Int.reducePow, ↓reduceIte, Nat.reduceEqDiff, reduceCtorEq]
      refine step (fun h => x1 h.1) _ ?_ ?_ ?_
      · simp only [h0, sg_set, Nat.reduceEqDiff, ↓reduceIte]
      · simp only [h3, sg_set, Nat.reduceEqDiff, ↓reduceIte]
      · simp only [sg_set, Nat.reduceEqDiff, ↓reduceIte]
def rOpsAt (l : List Op) (i : Nat) : Prop := opOk 8 (l.getD i op0) ∧ ((l.getD i op0).kind = 2 → i = 0) ∧ ∀ x, x < i → ¬ (0 < opIdR (l.getD i op0) ∧ opIdR (l.getD x op0) = opIdR (l.getD i op0))
theorem rOps_loop (g : Pg P tab) {l : List Op} {v : AV} (hv : IsL 112 ROp v l) (n : Nat) :
    ∀ (i : Nat) (s : T AV) (hh : Heap) (k : List Fr) (Q : Ex → T AV → Heap → Prop), i + n = l.length → sg s 0 = v → sg s 3 = .int .i64 i →
      ((∀ x, i ≤ x → x < l.length → rOpsAt l x) → ∀ s', Un P k Q (.exit 0) s' hh) → ((¬ ∀ x, i ≤ x → x < l.length → rOpsAt l x) → ∀ s', sg s' 2 = .bool false → Un P k Q .ret s' hh) → Lp P b48_1 s hh (Un P k Q) := by
  have hb := hv.bound (by decide)
  induction n with
  | zero =>
    intro i s hh k Q hi h0 h3 hK hR
    refine g.lpe b48_1.eq_1 ?_
    have c1 : ¬ ((i : Int) < (l.length : Int)) := by omega
    simp only [h0, h3, hv.len, c1, RX, VOp.fresh, bxC, bsC, un, most, callsOf, seval, Int.reducePow, ↓reduceIte, Nat.reduceEqDiff, reduceCtorEq]
    exact hK (fun x h1 h2 => by omega) _
  | succ n ih =>
    intro i s hh k Q hi h0 h3 hK hR
    refine g.lpe b48_1.eq_1 ?_
    have c1 : (i : Int) < (l.length : Int) := by omega
    have w1 : IntKind.i64.wrap ((i : Int) + 1) = ((i + 1 : Nat) : Int) := by rw [w64 (by omega) (by omega)]; push_cast; rfl
    obtain ⟨ci, ri, hci, _, _, gi⟩ := getOp hv i (by omega)
    have pi := rOp_pu g hci
    have ti : AV.tolds [.agg ci] = true := by simp [AV.tolds, AV.told, tOp _ _ hci]
    obtain ⟨v1, a1, u1, rfl, _⟩ := hci
    have no : ¬ rOpsAt l i → ∀ s', sg s' 2 = .bool false → Un P k Q .ret s' hh := fun h => hR fun hall => h (hall i (Nat.le_refl _) (by omega))
    simp only [h0, h3, hv.len, c1, gi, RX, VOp.fresh, bxC, bsC, un, most, callsOf, seval, Int.reducePow, ↓reduceIte, Nat.reduceEqDiff, reduceCtorEq]
    refine pi.go ti ?_
    rintro x ⟨b, rfl, hbb⟩
    have inner : opOk 8 (l.getD i op0) → ((l.getD i op0).kind = 2 → i = 0) → ∀ s', sg s' 0 = v → sg s' 3 = .int .i64 i → sg s' 4 = .int .i64 0 → Lp P b48_0 s' hh (Un P (.blk 2 :: .blk 1 :: .seq (.ops [⟨some 17, none, .mov (.t 3)⟩, ⟨some 18, none, .bin .add (.t 17) (.c (.int .i64 1))⟩, ⟨some 3, none, .mov (.t 18)⟩]) :: .lp b48_1 :: k) Q) := by
      intro q1 q2 s' a0 a3 a4
      refine rOps_in g hv (i := i) (by omega) i 0 _ _ _ _ (by omega) a0 a3 a4 ?_ ?_
      · intro hall s'' b0 b3
        simp only [b0, b3, w1, RX, VOp.fresh, bxC, bsC, un, most, callsOf, seval, Int.reducePow, ↓reduceIte, Nat.reduceEqDiff, reduceCtorEq]
        have hok : rOpsAt l i := ⟨q1, q2, fun x hx => hall x (by omega) hx⟩
        have all : (∀ x, i ≤ x → x < l.length → rOpsAt l x) ↔ ∀ x, i + 1 ≤ x → x < l.length → rOpsAt l x := ⟨fun h x h1 h2 => h x (by omega) h2, fun h x h1 h2 => by
          rcases Nat.lt_or_ge i x with h3 | h3
          · exact h x h3 h2
          · rw [show x = i by omega]; exact hok⟩
        refine ih (i + 1) _ _ k Q (by omega) ?_ ?_ (fun h => hK (all.2 h)) (fun h => hR (fun h' => h (all.1 h')))
        · simp only [b0, sg_set, Nat.reduceEqDiff, ↓reduceIte]
        · simp only [sg_set, Nat.reduceEqDiff, ↓reduceIte]
      · intro hn s'' h2
        simp only [RX, VOp.fresh, bxC, bsC, un, most, callsOf, seval, Int.reducePow, ↓reduceIte, Nat.reduceEqDiff, reduceCtorEq]
        exact no (fun h => hn fun x _ hx => h.2.2 x hx) _ h2
    cases b
    · simp only [RX, VOp.fresh, bxC, bsC, un, most, callsOf, seval, Int.reducePow, ↓reduceIte, Nat.reduceEqDiff, reduceCtorEq]
      exact no (fun h => by have := hbb.2 h.1; cases this) _ (by simp only [sg_set, Nat.reduceEqDiff, ↓reduceIte])
    · by_cases k2 : (l.getD i op0).kind = 2
      · by_cases hi0 : i = 0
        · have c2 : ¬ ((0 : Int) < (i : Int)) := by omega
          simp only [h0, h3, gi, k2, c2, RX, VOp.fresh, bxC, bsC, un, most, callsOf, seval, Int.reducePow, ↓reduceIte, Nat.reduceEqDiff, reduceCtorEq]
          refine inner (hbb.1 rfl) (fun _ => hi0) _ ?_ ?_ ?_
          · simp only [h0, sg_set, Nat.reduceEqDiff, ↓reduceIte]
          · simp only [h3, sg_set, Nat.reduceEqDiff, ↓reduceIte]
          · simp only [sg_set, Nat.reduceEqDiff, ↓reduceIte]
        · have c2 : (0 : Int) < (i : Int) := by omega
          simp only [h0, h3, gi, k2, c2, RX, VOp.fresh, bxC, bsC, un, most, callsOf, seval, Int.reducePow, ↓reduceIte, Nat.reduceEqDiff, reduceCtorEq]
          exact no (fun h => hi0 (h.2.1 k2)) _ (by simp only [sg_set, Nat.reduceEqDiff, ↓reduceIte])
      · simp only [h0, h3, gi, k2, RX, VOp.fresh, bxC, bsC, un, most, callsOf, seval, Int.reducePow, ↓reduceIte, Nat.reduceEqDiff, reduceCtorEq]
        refine inner (hbb.1 rfl) (fun h => absurd h k2) _ ?_ ?_ ?_
        · simp only [h0, sg_set, Nat.reduceEqDiff, ↓reduceIte]
        · simp only [h3, sg_set, Nat.reduceEqDiff, ↓reduceIte]
        · simp only [sg_set, Nat.reduceEqDiff, ↓reduceIte]
theorem opIdR_eq {o : Op} (h : opOk 8 o) : opIdR o = opId o := by
  unfold opIdR opId
  rcases h with ⟨k, _⟩ | ⟨k, _⟩ | ⟨k, _, h, _⟩
  · rw [if_pos k, if_pos k]
  · rw [if_neg (by omega), if_pos k, if_neg (by omega)]
  · rw [if_neg (by omega), if_neg (by omega), if_neg (by omega), h]
theorem rOps_eq (l : List Op) : (1 ≤ l.length ∧ l.length ≤ 32 ∧ ∀ i, i < l.length → rOpsAt l i) ↔ opsOk 8 l := by
  constructor
  · rintro ⟨h1, h2, h3⟩
    refine ⟨h1, h2, fun i hi => ?_⟩
    obtain ⟨a, b, c⟩ := h3 i hi
    refine ⟨a, b, fun h0 j hj => ?_⟩
    have := c j hj
    rw [opIdR_eq a, opIdR_eq (h3 j (by omega)).1] at this
    exact fun e => this ⟨h0, e⟩
  · rintro ⟨h1, h2, h3⟩
    refine ⟨h1, h2, fun i hi => ?_⟩
    obtain ⟨a, b, c⟩ := h3 i hi
    refine ⟨a, b, fun j hj => ?_⟩
    rw [opIdR_eq a, opIdR_eq (h3 j (by omega)).1]
    exact fun e => c e.1 j hj e.2
theorem rOps_pu (g : Pg P tab) {l : List Op} {v : AV} (hv : IsL 112 ROp v l) : Pu P 48 [v] (IsB (opsOk 8 l)) := by
  refine g.pu (vf := v48) rfl rfl ?_
  by_cases x1 : (l.length : Int) < 1
  · have no : ¬ opsOk 8 l := fun h => by have := h.1; omega
    simp only [v48, hv.len, x1, no, RX, VOp.fresh, bxC, bsC, un, most, callsOf, seval, Int.reducePow, ↓reduceIte, Nat.reduceEqDiff, reduceCtorEq]
  by_cases x2 : (32 : Int) < (l.length : Int)
  · have no : ¬ opsOk 8 l := fun h => by have := h.2.1; omega
    simp only [v48, hv.len, x1, x2, no, RX, VOp.fresh, bxC, bsC, un, most, callsOf, seval, Int.reducePow, ↓reduceIte, Nat.reduceEqDiff, reduceCtorEq]
  simp only [v48, hv.len, x1, x2, RX, VOp.fresh, bxC, bsC, un, most, callsOf, seval, Int.reducePow, ↓reduceIte, Nat.reduceEqDiff, reduceCtorEq]
  refine rOps_loop g hv l.length 0 _ _ _ _ (by omega) ?_ ?_ ?_ ?_
  · simp only [sg_set, Nat.reduceEqDiff, ↓reduceIte]
  · simp only [sg_set, Nat.reduceEqDiff, ↓reduceIte]
    rfl
  · intro hall s'
    simp only [RX, VOp.fresh, bxC, bsC, un, most, callsOf, seval, Int.reducePow, ↓reduceIte, Nat.reduceEqDiff, reduceCtorEq]
    exact (rOps_eq l).1 ⟨by omega, by omega, fun i hi => hall i (by omega) hi⟩
  · intro hn s' h2
    simp only [h2, RX, VOp.fresh, bxC, bsC, un, most, callsOf, seval, Int.reducePow, ↓reduceIte, Nat.reduceEqDiff, reduceCtorEq]
    exact fun h => hn fun i _ hi => ((rOps_eq l).2 h).2.2 i hi
end
end Go.Proofs.Ythmkenkjfmbkiaa.VM
set_option linter.unusedSimpArgs false
set_option linter.unusedVariables false
set_option linter.defProp false
set_option maxHeartbeats 1000000
namespace Go.Proofs.Ythmkenkjfmbkiaa.VM
attribute [local irreducible] Af Nx EvO Ev Un Gd Cd EvR EvQ EvC Nc Gc Lp EvM NxM AfM GdM EvMR EvMQ EvMD EvMC Nm Gm
def Plain {α : Type} (R : α → List AV → Prop) (sz : Nat) : Prop := ∀ a c, R a c → c.length = sz ∧ c.all AV.one = true ∧ AV.tolds c = true ∧ AV.bares c = true
theorem Plain.cat {α : Type} {R : α → List AV → Prop} {sz : Nat} (p : Plain R sz) : ∀ {l : List α} {c : List AV}, Cat R l c → c.length = l.length * sz ∧ c.all AV.one = true ∧ AV.tolds c = true ∧ AV.bares c = true
  | _, _, .nil => ⟨by simp, rfl, rfl, rfl⟩
  | _, _, .cons h t => by
    obtain ⟨a1, a2, a3, a4⟩ := p _ _ h
    obtain ⟨b1, b2, b3, b4⟩ := p.cat t
    exact ⟨by rw [List.length_append, a1, b1, List.length_cons, Nat.add_mul]; omega, by rw [List.all_append, a2, b2]; rfl, by rw [Cat.told.tolds_append, a3, b3]; rfl, by rw [bares_app, a4, b4]; rfl⟩
theorem plainPt : Plain RPt 2 := fun a c h => by rw [h.1]; exact ⟨rfl, rfl, rfl, rfl⟩
/-- what stands is put behind an empty slice of one's own -/
theorem app_copy {α : Type} {R : α → List AV → Prop} {sz bytes : Nat} (p : Plain R sz) {x : AV} {l : List α} (hx : IsL bytes R x l) {h : Heap} {b e0 v0 : Nat} (hg : h.get b = some (.cells [] e0 v0)) (e : TypeId) :
    ∃ v h' t, appendV h sz bytes e (.sl b 0 0 0 sz) x = some (v, h') ∧ h.next ≤ h'.next ∧ (∀ c, c < h.next → c ≠ b → h'.get c = h.get c) ∧ Lv h' (fun c => h.next ≤ c) v t ∧ IsL bytes R t l ∧ v.cells = some [v] ∧ v.one = true := by
  have hbq : Nat.beq sz sz = true := by rw [Nat.beq_eq]
  have z : ∀ x : AV, l = [] → lenV x = some 0 → cellsOf h sz 0 x = some [] → ∃ v h' t, appendV h sz bytes e (.sl b 0 0 0 sz) x = some (v, h') ∧ h.next ≤ h'.next ∧ (∀ c, c < h.next → c ≠ b → h'.get c = h.get c) ∧ Lv h' (fun c => h.next ≤ c) v t ∧ IsL bytes R t l ∧ v.cells = some [v] ∧ v.one = true := by
    intro x hl h1 h2
    subst hl
    refine ⟨.sl b 0 0 0 sz, h.put b (.cells [] e0 (v0 + 1)), .rs [] 0, ?_, Nat.le_refl _, fun c _ hc => by rw [Heap.get_put, if_neg hc], ⟨[], .sl0, rfl, Own.nil, fun b hb => by simp at hb⟩, ⟨by simp, .inr ⟨[], rfl, .nil⟩⟩, rfl, rfl⟩
    simp only [appendV, h1, h2, List.length_nil, Nat.zero_mul, List.all_nil, and_self, if_true, hbq, cond_true, Nat.add_zero, Nat.le_refl, writeAt, hg, lsets]
    rfl
  obtain ⟨hb0, ⟨rfl, hl⟩ | ⟨c, rfl, hc⟩⟩ := hx
  · exact z _ hl rfl rfl
  · obtain ⟨h1, h2, h3, h4⟩ := p.cat hc
    by_cases h0 : l.length = 0
    · have hl : l = [] := List.eq_nil_of_length_eq_zero h0
      have : c = [] := List.eq_nil_of_length_eq_zero (by rw [h1, h0, Nat.zero_mul])
      subst this
      refine z _ hl (by rw [lenV, h0]) ?_
      simp [cellsOf, cut_eq]
    · have hcut : cut c 0 (l.length * sz) = some c := by rw [cut_eq, List.drop_zero, ← h1, List.take_length, if_pos rfl]
      refine ⟨.sl h.next 0 l.length l.length sz, (h.put b .dead).mk' h.next (.cells c e 0), .rs c l.length, ?_, by rw [mk_next, put_next]; omega, fun d hd hne => by rw [Heap.get_mk, if_neg (by omega), Heap.get_put, if_neg hne], ⟨[h.next], ?_, rfl, ?_, fun d hd => by simp at hd; omega⟩, ⟨hb0, .inr ⟨c, rfl, hc⟩⟩, rfl, rfl⟩
      · have hm : l.length * bytes ≤ most2 := by exact Nat.le_trans hb0 (by rw [reach_eq]; decide)
        have h5 : ¬ (l.length ≤ 0) := by omega
        have hc0 : cut ([] : List AV) 0 0 = some [] := rfl
        simp only [appendV, lenV, cellsOf, hcut, hc0, h1, h2, List.nil_append, and_self, if_true, hbq, cond_true, h5, if_false, hm, Nat.le_refl, hg, Nat.zero_mul, Nat.zero_add]
      · exact (Fd.sl (by omega) (by rw [mk_next]; omega) (by rw [Heap.get_mk, if_pos rfl]) (hcut) (Fds.tolds h3)).cast rfl
      · intro d hd
        simp only [List.mem_singleton] at hd
        subst hd
        exact ⟨c, e, 0, by rw [Heap.get_mk, if_pos rfl], h4⟩
section
variable {P : Program}
theorem Cat.take {α : Type} {R : α → List AV → Prop} {l : List α} {c d : List AV} {i : Nat} (hi : i < l.length) (h : Cat R (l.take i) c) (h' : R l[i] d) : Cat R (l.take (i + 1)) (c ++ d) := by
  rw [List.take_succ_eq_append_getElem hi]
  have := h.append (Cat.cons h' .nil)
  rwa [List.append_nil] at this
end
theorem len3 {l : List AV} (h : l.length = 3) : ∃ x y z, l = [x, y, z] := match l, h with | [x, y, z], _ => ⟨x, y, z, rfl⟩
end Go.Proofs.Ythmkenkjfmbkiaa.VM
namespace Go.Proofs.Ythmkenkjfmbkiaa.VM
attribute [local irreducible] Af Nx EvO Ev Un Gd Cd EvR EvQ EvC Nc Gc Lp EvM NxM AfM GdM EvMR EvMQ EvMD EvMC Nm Gm
section
variable {P : Program}
theorem sPts_loop (g : Pg P tab) {l : List Pt} {a b w u p0 p1 q0 q1 : AV} (ha : IsL 16 RPt a l) (hb : IsL 16 RPt b l) {i0 n2 n3 : Nat} (hwa : ∃ r, ∀ hh : Heap, iaV hh 1 none w (.int .i64 i0) = .val (.rp (a :: r)) hh) (hub : ∃ r, ∀ hh : Heap, iaV hh 1 none u (.int .i64 i0) = .val (.rp (b :: r)) hh) (n : Nat) :
    ∀ (i : Nat) (s : T AV) (hh : Heap) (k : List Fr) (Q : Ex → T AV → Heap → Prop), i + n = l.length → (∃ e ver, hh.get n2 = some (.cells [p0, p1, w] e ver)) → (∃ e ver, hh.get n3 = some (.cells [q0, q1, u] e ver)) → sg s 2 = .ptr n2 0 → sg s 3 = .ptr n3 0 → sg s 5 = .int .i64 i0 → sg s 6 = .int .i64 i →
      (∀ s', (∀ j, j = 2 ∨ j = 3 ∨ j = 5 → sg s' j = sg s j) → Un P k Q (.exit 2) s' hh) → Lp P b26_0 s hh (Un P k Q) := by
  have hbd := ha.bound (by decide)
  obtain ⟨ra, hwa⟩ := hwa
  obtain ⟨rb, hub⟩ := hub
  induction n with
  | zero =>
    intro i s hh k Q hi hx hy h2 h3 h5 h6 hK
    refine g.lpe b26_0.eq_1 ?_
    obtain ⟨e1, v1, hx⟩ := hx
    have c1 : ¬ ((i : Int) < (l.length : Int)) := by omega
    simp only [h2, h3, h5, h6, hx, hwa, ha.len, c1, RX, VOp.fresh, bxC, bsC, un, most, callsOf, seval, Int.reducePow, ↓reduceIte, Nat.reduceEqDiff, reduceCtorEq]
    refine hK _ ?_
    rintro j (rfl | rfl | rfl) <;> simp only [sg_set, Nat.reduceEqDiff, ↓reduceIte]
  | succ n ih =>
    intro i s hh k Q hi hx hy h2 h3 h5 h6 hK
    refine g.lpe b26_0.eq_1 ?_
    have c1 : (i : Int) < (l.length : Int) := by omega
    obtain ⟨r1, _, g1⟩ := getPt ha i (by omega)
    obtain ⟨r2, _, g2⟩ := getPt hb i (by omega)
    have w1 : IntKind.i64.wrap ((i : Int) + 1) = ((i + 1 : Nat) : Int) := by rw [w64 (by omega) (by omega)]; push_cast; rfl
    have hx' := hx
    have hy' := hy
    obtain ⟨e1, v1, hx⟩ := hx
    obtain ⟨e2, v2, hy⟩ := hy
    simp only [h2, h3, h5, h6, hx, hy, hwa, hub, ha.len, c1, g1, g2, w1, flat2, RX, VOp.fresh, bxC, bsC, un, most, callsOf, seval, Int.reducePow, ↓reduceIte, Nat.reduceEqDiff, reduceCtorEq]
    refine ih (i + 1) _ _ k Q (by omega) hx' hy' ?_ ?_ ?_ ?_ ?_
    · simp only [h2, sg_set, Nat.reduceEqDiff, ↓reduceIte]
    · simp only [h3, sg_set, Nat.reduceEqDiff, ↓reduceIte]
    · simp only [h5, sg_set, Nat.reduceEqDiff, ↓reduceIte]
    · simp only [sg_set, Nat.reduceEqDiff, ↓reduceIte]
    · intro s' q
      refine hK s' fun j hj => (q j hj).trans ?_
      rcases hj with rfl | rfl | rfl <;> simp only [sg_set, Nat.reduceEqDiff, ↓reduceIte]
theorem sRings_loop (g : Pg P tab) {l : List (List Pt)} {w u p0 p1 q0 q1 : AV} (ha : IsL 24 RRing w l) (hb : IsL 24 RRing u l) {n2 n3 : Nat} (n : Nat) :
    ∀ (i : Nat) (s : T AV) (hh : Heap) (k : List Fr) (Q : Ex → T AV → Heap → Prop), i + n = l.length → (∃ e ver, hh.get n2 = some (.cells [p0, p1, w] e ver)) → (∃ e ver, hh.get n3 = some (.cells [q0, q1, u] e ver)) → sg s 2 = .ptr n2 0 → sg s 3 = .ptr n3 0 → sg s 5 = .int .i64 i →
      (∀ s', Un P k Q (.exit 0) s' hh) → Lp P b26_1 s hh (Un P k Q) := by
  have hbd := ha.bound (by decide)
  induction n with
  | zero =>
    intro i s hh k Q hi hx hy h2 h3 h5 hK
    refine g.lpe b26_1.eq_1 ?_
    obtain ⟨e1, v1, hx⟩ := hx
    have c1 : ¬ ((i : Int) < (l.length : Int)) := by omega
    simp only [h2, h3, h5, hx, ha.len, c1, RX, VOp.fresh, bxC, bsC, un, most, callsOf, seval, Int.reducePow, ↓reduceIte, Nat.reduceEqDiff, reduceCtorEq]
    exact hK _
  | succ n ih =>
    intro i s hh k Q hi hx hy h2 h3 h5 hK
    refine g.lpe b26_1.eq_1 ?_
    have c1 : (i : Int) < (l.length : Int) := by omega
    obtain ⟨x1, r1, i1, _, g1⟩ := getRing ha i (by omega)
    obtain ⟨x2, r2, i2, _, g2⟩ := getRing hb i (by omega)
    have w1 : IntKind.i64.wrap ((i : Int) + 1) = ((i + 1 : Nat) : Int) := by rw [w64 (by omega) (by omega)]; push_cast; rfl
    have hx' := hx
    have hy' := hy
    obtain ⟨e1, v1, hx⟩ := hx
    obtain ⟨e2, v2, hy⟩ := hy
    simp only [h2, h3, h5, hx, hy, ha.len, c1, g1, g2, i1.len, i2.len, RX, VOp.fresh, bxC, bsC, un, most, callsOf, seval, Int.reducePow, ↓reduceIte, Nat.reduceEqDiff, reduceCtorEq]
    refine sPts_loop g i1 i2 (i0 := i) ⟨r1, fun hh => g1 hh _⟩ ⟨r2, fun hh => g2 hh _⟩ (l.getD i []).length 0 _ _ _ _ (by omega) hx' hy' ?_ ?_ ?_ ?_ ?_
    · simp only [h2, sg_set, Nat.reduceEqDiff, ↓reduceIte]
    · simp only [h3, sg_set, Nat.reduceEqDiff, ↓reduceIte]
    · simp only [h5, sg_set, Nat.reduceEqDiff, ↓reduceIte]
    · simp only [sg_set, Nat.reduceEqDiff, ↓reduceIte]
      rfl
    intro s' q
    have a2 := q 2 (by simp)
    have a3 := q 3 (by simp)
    have a5 := q 5 (by simp)
    simp only [sg_set, Nat.reduceEqDiff, ↓reduceIte, h2, h3, h5] at a2 a3 a5
    simp only [a5, w1, RX, VOp.fresh, bxC, bsC, un, most, callsOf, seval, Int.reducePow, ↓reduceIte, Nat.reduceEqDiff, reduceCtorEq]
    refine ih (i + 1) _ _ k Q (by omega) hx' hy' ?_ ?_ ?_ hK
    · simp only [a2, sg_set, Nat.reduceEqDiff, ↓reduceIte]
    · simp only [a3, sg_set, Nat.reduceEqDiff, ↓reduceIte]
    · simp only [sg_set, Nat.reduceEqDiff, ↓reduceIte]
theorem sFeat_pu (g : Pg P tab) {f : Feat} {c d : List AV} (hc : RFeat f c) (hd : RFeat f d) : Pu P 26 [.agg c, .agg d] (fun v => v = .bool true) := by
  obtain ⟨a, rfl, _, _, ha⟩ := hc
  obtain ⟨b, rfl, _, _, hb⟩ := hd
  refine g.pu (vf := v26) rfl rfl ?_
  simp only [v26, ha.len, hb.len, RX, VOp.fresh, bxC, bsC, un, most, callsOf, seval, Int.reducePow, ↓reduceIte, Nat.reduceEqDiff, reduceCtorEq]
  refine sRings_loop g ha hb (n2 := 0) (n3 := 1) f.rings.length 0 _ _ _ _ (by omega) ⟨50, 0, by rw [Heap.get_mk, if_neg (by decide), Heap.get_mk, if_pos rfl]⟩ ⟨50, 0, by rw [Heap.get_mk, if_pos rfl]⟩ ?_ ?_ ?_ fun s' => ?_
  · simp only [sg_set, Nat.reduceEqDiff, ↓reduceIte]
  · simp only [sg_set, Nat.reduceEqDiff, ↓reduceIte]
  · simp only [sg_set, Nat.reduceEqDiff, ↓reduceIte]
    rfl
  simp only [RX, VOp.fresh, bxC, bsC, un, most, callsOf, seval, Int.reducePow, ↓reduceIte, Nat.reduceEqDiff, reduceCtorEq]
end
end Go.Proofs.Ythmkenkjfmbkiaa.VM
namespace Go.Proofs.Ythmkenkjfmbkiaa.VM
attribute [local irreducible] Af Nx EvO Ev Un Gd Cd EvR EvQ EvC Nc Gc Lp EvM NxM AfM GdM EvMR EvMQ EvMD EvMC Nm Gm
end Go.Proofs.Ythmkenkjfmbkiaa.VM
namespace Go.Proofs.Ythmkenkjfmbkiaa.VM
attribute [local irreducible] Af Nx EvO Ev Un Gd Cd EvR EvQ EvC Nc Gc Lp EvM NxM AfM GdM EvMR EvMQ EvMD EvMC Nm Gm
end Go.Proofs.Ythmkenkjfmbkiaa.VM
namespace Go.Proofs.Ythmkenkjfmbkiaa.VM
attribute [local irreducible] Af Nx EvO Ev Un Gd Cd EvR EvQ EvC Nc Gc Lp EvM NxM AfM GdM EvMR EvMQ EvMD EvMC Nm Gm
theorem bares_mem : ∀ {l : List AV} {x : AV}, AV.bares l = true → x ∈ l → x.bare = true
  | y :: l, x, h, hx => by
    simp only [AV.bares, Bool.and_eq_true] at h
    rcases List.mem_cons.1 hx with rfl | hx
    · exact h.1
    · exact bares_mem h.2 hx
section
variable {h : Heap} {B : Nat → Prop}
theorem Fds.get : ∀ {x y : List AV} {D : List Nat}, Fds h x y D → ∀ {j : Nat} {b : AV}, y[j]? = some b → ∃ a E, x[j]? = some a ∧ a ∈ x ∧ Fd h a b E ∧ ∀ c ∈ E, c ∈ D
  | _, _, _, .nil, j, b, e => by simp at e
  | _, _, _, .cons (x := x) (D := D) f t, 0, b, e => by
    simp only [List.getElem?_cons_zero, Option.some.injEq] at e
    subst e
    exact ⟨x, D, rfl, List.mem_cons_self, f, fun c hc => List.mem_append_left _ hc⟩
  | _, _, _, .cons f t, j + 1, b, e => by
    simp only [List.getElem?_cons_succ] at e
    obtain ⟨a, E, h1, h2, h3, h4⟩ := t.get e
    exact ⟨a, E, by simpa using h1, List.mem_cons_of_mem _ h2, h3, fun c hc => List.mem_append_right _ (h4 c hc)⟩
theorem Lvs.get {x y : List AV} (l : Lvs h B x y) {j : Nat} {b : AV} (e : y[j]? = some b) : ∃ a, x[j]? = some a ∧ Lv h B a b := by
  obtain ⟨D, f, hb, o, i⟩ := l
  obtain ⟨a, E, h1, h2, h3, h4⟩ := f.get e
  exact ⟨a, h1, E, h3, bares_mem hb h2, fun c hc => o c (h4 c hc), fun c hc => i c (h4 c hc)⟩
end
end Go.Proofs.Ythmkenkjfmbkiaa.VM
namespace Go.Proofs.Ythmkenkjfmbkiaa.VM
attribute [local irreducible] Af Nx EvO Ev Un Gd Cd EvR EvQ EvC Nc Gc Lp EvM NxM AfM GdM EvMR EvMQ EvMD EvMC Nm Gm
structure Bx where
  x0 : Int
  y0 : Int
  x1 : Int
  y1 : Int
def boxOk (b : Bx) : Prop := coordOk b.x0 ∧ coordOk b.y0 ∧ coordOk b.x1 ∧ coordOk b.y1 ∧ b.x0 ≤ b.x1 ∧ b.y0 ≤ b.y1
instance (b : Bx) : Decidable (boxOk b) := by unfold boxOk; infer_instance
def nodeOk (x : Int) : Prop := 0 ≤ x ∧ x < 8
instance (x : Int) : Decidable (nodeOk x) := by unfold nodeOk; infer_instance
def feat0 : Feat := ⟨0, 0, []⟩
section
variable {P : Program}
theorem isL_one {b : Nat} {α : Type} {R : α → List AV → Prop} {v : AV} {l : List α} (h : IsL b R v l) : v.one = true := by
  rcases h.2 with ⟨rfl, _⟩ | ⟨c, rfl, _⟩ <;> rfl
theorem zFeat (a : Feat) (c : List AV) (h : RFeat a c) : c.length = 3 := by obtain ⟨v, rfl, _⟩ := h; rfl
theorem getFeat {v : AV} {l : List Feat} (h : IsL 40 RFeat v l) (i : Nat) (hi : i < l.length) : ∃ rv r, IsL 24 RRing rv (l.getD i feat0).rings ∧ I64 (l.getD i feat0).id ∧ I64 (l.getD i feat0).shape ∧ AV.tolds r = true ∧
    ∀ (hh : Heap) (kk : IntKind), iaV hh 3 none v (.int kk (i : Int)) = .val (.rp (.int .i64 (l.getD i feat0).id :: .int .i64 (l.getD i feat0).shape :: rv :: r)) hh := by
  obtain ⟨ci, r, ⟨rv, e, i1, i2, hr⟩, ht, hia⟩ := h.get zFeat tFeat i hi
  have : l.getD i feat0 = l[i] := by simp [List.getD_eq_getElem?_getD, List.getElem?_eq_getElem hi]
  refine ⟨rv, r, by rw [this]; exact hr, by rw [this]; exact i1, by rw [this]; exact i2, ?_, fun hh kk => ?_⟩
  · rw [e] at ht
    simp only [AV.tolds, List.cons_append, List.nil_append, Bool.and_eq_true] at ht
    exact ht.2.2.2
  · rw [hia, e, this]; rfl
end
def zeroBox (b : Bx) : Prop := b.x0 = 0 ∧ b.y0 = 0 ∧ b.x1 = 0 ∧ b.y1 = 0
instance (b : Bx) : Decidable (zeroBox b) := by unfold zeroBox; infer_instance
end Go.Proofs.Ythmkenkjfmbkiaa.VM
namespace Go.Proofs.Ythmkenkjfmbkiaa.VM
attribute [local irreducible] Af Nx EvO Ev Un Gd Cd EvR EvQ EvC Nc Gc Lp EvM NxM AfM GdM EvMR EvMQ EvMD EvMC Nm Gm
end Go.Proofs.Ythmkenkjfmbkiaa.VM
namespace Go.Proofs.Ythmkenkjfmbkiaa.VM
attribute [local irreducible] Af Nx EvO Ev Un Gd Cd EvR EvQ EvC Nc Gc Lp EvM NxM AfM GdM EvMR EvMQ EvMD EvMC Nm Gm
end Go.Proofs.Ythmkenkjfmbkiaa.VM
namespace Go.Proofs.Ythmkenkjfmbkiaa.VM
attribute [local irreducible] Af Nx EvO Ev Un Gd Cd EvR EvQ EvC Nc Gc Lp EvM NxM AfM GdM EvMR EvMQ EvMD EvMC Nm Gm
end Go.Proofs.Ythmkenkjfmbkiaa.VM
namespace Go.Proofs.Ythmkenkjfmbkiaa.VM
open Go.RowKit
section
variable {φ φ' : Env} {w : World}
mutual
theorem VR.down (hx : ∀ b p, φ b = some p → φ' b = some p) : ∀ {x : AV} {u : Value}, x.told = true → VR φ' w x u → VR φ w x u
  | _, _, _, .undef => .undef
  | _, _, _, .bool b => .bool b
  | _, _, _, .int k n => .int k n
  | _, _, _, .str s => .str s
  | _, _, e, .ptr _ => by simp [AV.told] at e
  | _, _, _, .nilp => .nilp
  | _, _, e, .sl .. => by simp [AV.told] at e
  | _, _, e, .sl0 _ => by simp [AV.told] at e
  | _, _, _, .nils => .nils
  | _, _, e, .map _ => by simp [AV.told] at e
  | _, _, _, .nilm => .nilm
  | _, _, e, .fn hf h => .fn hf (VRs.down hx (by simpa [AV.told] using e) h)
  | _, _, _, .nilf => .nilf
  | _, _, e, .agg h => .agg (VRs.down hx (by simpa [AV.told] using e) h)
  | _, _, e, .tup h => .tup (VRs.down hx (by simpa [AV.told] using e) h)
  | _, _, e, .rs hl hB hlt h => .rs hl (fun b p hb => hB b p (hx b p hb)) hlt (VRm.down hx (by simpa [AV.told] using e) h)
  | _, _, _, .rs0 a c => .rs0 a c
  | _, _, e, .yld _ => by simp [AV.told] at e
  | _, _, e, .rp hB hlt h => .rp (fun b p hb => hB b p (hx b p hb)) hlt (VRm.down hx (by simpa [AV.told] using e) h)
theorem VRs.down (hx : ∀ b p, φ b = some p → φ' b = some p) : ∀ {x : List AV} {u : List Value}, AV.tolds x = true → VRs φ' w x u → VRs φ w x u
  | _, _, _, .nil => .nil
  | _, _, e, .cons h t => by
    simp only [AV.tolds, Bool.and_eq_true] at e
    exact .cons (VR.down hx e.1 h) (VRs.down hx e.2 t)
theorem VRm.down (hx : ∀ b p, φ b = some p → φ' b = some p) : ∀ {x : List AV} {B o : Nat}, AV.tolds x = true → VRm φ' w x B o → VRm φ w x B o
  | _, _, _, _, .nil => .nil
  | _, _, _, e, .cons hc h t => by
    simp only [AV.tolds, Bool.and_eq_true] at e
    exact .cons hc (VR.down hx e.1 h) (VRm.down hx e.2 t)
end
variable {h : Heap}
mutual
theorem Fd.vrD (hr : HR φ' w h) (hx : ∀ b p, φ b = some p → φ' b = some p) (hn : ∀ b B o, live (h.get b) = true → φ' b = some (B, o) → ∀ c p, φ c = some p → p.1 ≠ B) : ∀ {x y : AV} {D : List Nat} {u : Value}, Fd h x y D → VR φ' w x u → VR φ w y u
  | _, _, _, _, .told e, v => v.down hx e
  | _, _, _, _, .sl hl _ hg hc t, .sl hb hcap hlen hs hsz => by
    obtain ⟨B', o', e', n, q1, q2, q3, q4, q5⟩ := hr.cells hg
    rw [hb] at q1
    cases q1
    exact .rs (by omega) (hn _ _ _ (by rw [hg]; rfl) hb) (hr.lt _ _ hb) (Fds.vrmD hr hx hn t (q3.cut hc))
  | _, _, _, _, .sl hl _ _ _ _, .sl0 a => absurd hl (by omega)
  | _, _, _, _, .sl0, .sl _ _ _ _ _ => .rs0 _ _
  | _, _, _, _, .sl0, .sl0 a => .rs0 _ _
  | _, _, _, _, .ptr _ hg t, .ptr hb => by
    obtain ⟨B', o', e', n, q1, q2, q3, q4, q5⟩ := hr.cells hg
    rw [hb] at q1
    cases q1
    exact .rp (hn _ _ _ (by rw [hg]; rfl) hb) (hr.lt _ _ hb) (Fds.vrmD hr hx hn t (q3.drop _))
  | _, _, _, _, .agg t, .agg hv => .agg (Fds.vrsD hr hx hn t hv)
  | _, _, _, _, .tup t, .tup hv => .tup (Fds.vrsD hr hx hn t hv)
theorem Fds.vrsD (hr : HR φ' w h) (hx : ∀ b p, φ b = some p → φ' b = some p) (hn : ∀ b B o, live (h.get b) = true → φ' b = some (B, o) → ∀ c p, φ c = some p → p.1 ≠ B) : ∀ {x y : List AV} {D : List Nat} {u : List Value}, Fds h x y D → VRs φ' w x u → VRs φ w y u
  | _, _, _, _, .nil, .nil => .nil
  | _, _, _, _, .cons f t, .cons hv tv => .cons (Fd.vrD hr hx hn f hv) (Fds.vrsD hr hx hn t tv)
theorem Fds.vrmD (hr : HR φ' w h) (hx : ∀ b p, φ b = some p → φ' b = some p) (hn : ∀ b B o, live (h.get b) = true → φ' b = some (B, o) → ∀ c p, φ c = some p → p.1 ≠ B) : ∀ {x y : List AV} {D : List Nat} {B o : Nat}, Fds h x y D → VRm φ' w x B o → VRm φ w y B o
  | _, _, _, _, _, .nil, .nil => .nil
  | _, _, _, _, _, .cons f t, .cons hc hv tv => .cons hc (Fd.vrD hr hx hn f hv) (Fds.vrmD hr hx hn t tv)
end
end
/-- memory of which nothing is known -/
def deadT : Nat → T Blk
  | 0 => .e
  | n + 1 => (deadT n).set n .dead
theorem deadT_get (b : Nat) : ∀ n, (deadT n).get b = if b < n then some .dead else none
  | 0 => by rw [if_neg (by omega)]; rfl
  | n + 1 => by
    rw [deadT, T.get_set, deadT_get b n]
    by_cases e : b = n
    · rw [if_pos e, if_pos (by omega)]
    · rw [if_neg e]
      by_cases l : b < n
      · rw [if_pos l, if_pos (by omega)]
      · rw [if_neg l, if_neg (by omega)]
def deadH (n : Nat) : Heap := ⟨n, deadT n⟩
theorem deadH_get (n b : Nat) : (deadH n).get b = if b < n then some .dead else none := deadT_get b n
theorem deadH_not (n b : Nat) : live ((deadH n).get b) = false := by
  rw [deadH_get]
  split <;> rfl
section
variable {P : Program} {φ : Env} {w : World} {h : Heap}
theorem hr_dead (hr : HR φ w h) : HR φ w (deadH h.next) := by
  refine ⟨fun b => ?_, hr.lt, fun b b' p p' hl => ?_, fun b hb => ?_⟩
  · rw [deadH_get]
    by_cases l : b < h.next
    · rw [if_pos l]; trivial
    · rw [if_neg l]
      have := hr.blk b
      rw [hr.next b (by omega)] at this
      exact this
  · rw [deadH_not] at hl; cases hl
  · rw [deadH_get, if_neg (by have : (deadH h.next).next = h.next := rfl; omega)]
theorem OK.freeze {f : Nat} {args : List AV} {v v' : AV} {h2 : Heap} {D : List Nat} (o : OK P f args (deadH h.next) v h2) (fd : Fd h2 v v' D) : OK P f args h v' h := by
  obtain ⟨hly, he, o⟩ := o.old (.inl fun r e => by rw [deadH_get] at e; split at e <;> cases e)
  refine .inl ⟨hly, he, fun φ w us hr hus => ?_⟩
  refine Calls.mono (o φ w us (hr_dead hr) hus) ?_
  rintro e w' ⟨φ', u, rfl, hvu, hr', hu⟩
  have keep : ∀ B, B < w.heap.size → w'.heap[B]? = w.heap[B]? := fun B hB => hu.keepL B hB fun b p hl => by rw [deadH_not] at hl; cases hl
  have hU : Upd φ w φ w' := ⟨hu.os, hu.tape, hu.output, hu.size, fun _ _ e => e, fun _ _ _ e => .inl ⟨_, _, e⟩, fun B hB _ => keep B hB, hu.shape, hu.drawn⟩
  refine ⟨φ, u, rfl, fd.vrD hr' hu.ext (fun b B o hl hb c p hc e => ?_) hvu, ⟨fun b => ?_, fun b p e => Nat.lt_of_lt_of_le (hr.lt b p e) hu.size, hr.inj, hr.next⟩, UpdH.same _ _ hU keep⟩
  · rcases hu.newL b B o hl hb with ⟨b0, o0, h0, _⟩ | h0
    · rw [deadH_not] at h0; cases h0
    · have := hr.lt c p hc
      omega
  · cases hl : live (h.get b) with
    | true => exact BR.upd hr hU hl fun p hp => keep _ (hr.lt _ _ hp)
    | false =>
      have := hr.blk b
      cases hg : h.get b with
      | none => rw [hg] at this; exact this
      | some o =>
        cases o with
        | dead => trivial
        | _ => rw [hg] at hl; cases hl
/-- what a call makes, told; it may hand on what was told -/
def Ft (P : Program) (f : Nat) (args : List AV) (Q : AV → Prop) : Prop := ∀ n, Cl P f args (deadH n) fun v h' => ∃ v' D, Fd h' v v' D ∧ Q v'
theorem Ft.cl {f : Nat} {args : List AV} {h : Heap} {Q : AV → Prop} (p : Ft P f args Q) {R : AV → Heap → Prop} (k : ∀ v, Q v → R v h) : Cl P f args h R := by
  obtain ⟨v, h2, o, v', D, fd, q⟩ := p h.next
  exact ⟨v', h, o.freeze fd, k v' q⟩
theorem Ft.mono {f : Nat} {args : List AV} {Q R : AV → Prop} (p : Ft P f args Q) (k : ∀ v, Q v → R v) : Ft P f args R := fun n => (p n).mono fun v h' ⟨v', D, fd, q⟩ => ⟨v', D, fd, k v' q⟩
theorem Ft.of {f : Nat} {args : List AV} {Q : AV → Prop} (c : ∀ h, Cl P f args h fun v h' => ∃ v' D, Fd h' v v' D ∧ Q v') : Ft P f args Q := fun n => c _
end
end Go.Proofs.Ythmkenkjfmbkiaa.VM
namespace Go.Proofs.Ythmkenkjfmbkiaa.VM
section
variable {α : Type} {R : α → List AV → Prop} {z : Nat} {h h' : Heap} {v : AV} {l : List α}
/-- elements of so many cells, told -/
structure Tr (R : α → List AV → Prop) (z : Nat) : Prop where
  len : ∀ a c, R a c → c.length = z
  one : ∀ a c, R a c → c.all AV.one = true
  told : ∀ a c, R a c → AV.tolds c = true
def RowT (R : α → List AV → Prop) (z : Nat) (h : Heap) (v : AV) (l : List α) : Prop := ∃ cs, Row h v z cs l.length ∧ Cat R l cs
theorem RowT.nil (h : Heap) : RowT R z h .nils [] := ⟨[], .nil _ _, .nil⟩
theorem RowT.len (r : RowT R z h v l) (hh : Heap) : lnV hh v = .val (.int .i64 l.length) hh := let ⟨_, r, _⟩ := r; r.len hh
theorem RowT.one (r : RowT R z h v l) : v.one = true := let ⟨_, r, _⟩ := r; r.one
theorem RowT.cells (r : RowT R z h v l) : v.cells = some [v] := by
  obtain ⟨cs, ⟨rfl, _⟩ | ⟨b, e, ver, rfl, _⟩, _⟩ := r <;> rfl
theorem RowT.lt (r : RowT R z h v l) : ∀ b ∈ blkOf v, b < h.next := let ⟨_, r, _⟩ := r; r.lt
theorem RowT.frame (r : RowT R z h v l) (hn : h.next ≤ h'.next) (hg : ∀ b ∈ blkOf v, h'.get b = h.get b) : RowT R z h' v l := let ⟨cs, r, c⟩ := r; ⟨cs, r.frame hn hg, c⟩
theorem RowT.ext (r : RowT R z h v l) (x : Ext h h') : RowT R z h' v l := let ⟨cs, r, c⟩ := r; ⟨cs, r.ext x, c⟩
/-- one more, in a new block -/
theorem RowT.push (tr : Tr R z) (r : RowT R z h v l) {a : α} {c : List AV} (ha : R a c) {nb eb vb : Nat} (hg : h.get nb = some (.cells c eb vb)) {bytes : Nat} (hb : (l.length + 1) * bytes ≤ most2) (e : TypeId) :
    ∃ h', appendV h z bytes e v (.sl nb 0 1 1 z) = some (.sl h.next 0 (l.length + 1) (l.length + 1) z, h') ∧ RowT R z h' (.sl h.next 0 (l.length + 1) (l.length + 1) z) (l ++ [a]) ∧ h'.next = h.next + 1 ∧ ∀ b, b ∉ blkOf v → b ≠ h.next → h'.get b = h.get b := by
  obtain ⟨cs, r, hc⟩ := r
  obtain ⟨h', e1, r', hn, k⟩ := r.push hg (tr.len _ _ ha) (tr.one _ _ ha) hb e
  refine ⟨h', e1, ⟨cs ++ c, by rw [List.length_append, List.length_singleton]; exact r', ?_⟩, hn, k⟩
  have := hc.append (Cat.cons ha .nil)
  rwa [List.append_nil] at this
/-- told as a whole -/
theorem RowT.fd (tr : Tr R z) (r : RowT R z h v l) {b : Nat} (hb : l.length * b ≤ reachBytes) : ∃ v' D, Fd h v v' D ∧ IsL b R v' l := by
  obtain ⟨cs, r, hc⟩ := r
  obtain ⟨v', f, h1⟩ := r.fd (Fds.tolds (hc.told tr.told))
  refine ⟨v', _, f, ?_⟩
  rcases h1 with ⟨rfl, h0⟩ | rfl
  · have : l = [] := List.eq_nil_of_length_eq_zero h0
    subst this
    exact isL_nil _ _
  · exact isL_rs hc hb
end
end Go.Proofs.Ythmkenkjfmbkiaa.VM
namespace Go.Proofs.Ythmkenkjfmbkiaa.VM
attribute [local irreducible] Af Nx EvO Ev Un Gd Cd EvR EvQ EvC Nc Gc Lp EvM NxM AfM GdM EvMR EvMQ EvMD EvMC Nm Gm
/-- the stretch that has a place -/
def IxAt (l : List Int) (d : Int) (k : Nat) : Prop := k < l.length ∧ l.getD k 0 ≤ d ∧ (k + 1 < l.length → d < l.getD (k + 1) 0)
def Rise (l : List Int) : Prop := ∀ i, i + 1 < l.length → l.getD i 0 < l.getD (i + 1) 0
theorem Rise.lt {l : List Int} (h : Rise l) : ∀ {j i : Nat}, i < j → j < l.length → l.getD i 0 < l.getD j 0
  | 0, i, h1, _ => by omega
  | j + 1, i, h1, h2 => by
    have h3 := h j h2
    rcases Nat.lt_or_ge i j with h4 | h4
    · exact Int.lt_trans (Rise.lt h h4 (by omega)) h3
    · rw [show i = j by omega]; exact h3
theorem IxAt.uniq {l : List Int} {d : Int} {a b : Nat} (h : Rise l) (x : IxAt l d a) (y : IxAt l d b) : a = b := by
  obtain ⟨x1, x2, x3⟩ := x
  obtain ⟨y1, y2, y3⟩ := y
  rcases Nat.lt_trichotomy a b with c | c | c
  · have h1 := x3 (by omega)
    rcases Nat.lt_or_ge (a + 1) b with e | e
    · have := h.lt e y1; omega
    · have : a + 1 = b := by omega
      rw [this] at h1; omega
  · exact c
  · have h1 := y3 (by omega)
    rcases Nat.lt_or_ge (b + 1) a with e | e
    · have := h.lt e x1; omega
    · have : b + 1 = a := by omega
      rw [this] at h1; omega
section
variable {P : Program}
theorem nan121 (g : Pg P tab) (a : Int) : Pu P 121 [.int .i64 a] (fun v => v = .bool false) := by
  refine g.pu (vf := v121) rfl rfl ?_
  simp only [v121, RX, VOp.fresh, bxC, bsC, un, most, callsOf, seval, Int.reducePow, ↓reduceIte, Nat.reduceEqDiff, reduceCtorEq]
theorem nan102 (g : Pg P tab) (a : Int) : Pu P 102 [.int .i64 a] (fun v => v = .bool false) := by
  refine g.pu (vf := v102) rfl rfl ?_
  simp only [v102, RX, VOp.fresh, bxC, bsC, un, most, callsOf, seval, Int.reducePow, ↓reduceIte, Nat.reduceEqDiff, reduceCtorEq]
theorem less_pu (g : Pg P tab) (a b : Int) : Pu P 101 [.int .i64 a, .int .i64 b] (fun v => v = .bool (decide (a < b))) := by
  refine g.pu (vf := v101) rfl rfl ?_
  simp only [v101, RX, VOp.fresh, bxC, bsC, un, most, callsOf, seval, Int.reducePow, ↓reduceIte, Nat.reduceEqDiff, reduceCtorEq]
  refine (nan121 g _).go rfl ?_
  rintro v rfl
  simp only [RX, VOp.fresh, bxC, bsC, un, most, callsOf, seval, Int.reducePow, ↓reduceIte, Nat.reduceEqDiff, reduceCtorEq]
theorem bs_loop (g : Pg P tab) {l : List Int} {w : AV} (hw : IsL 8 RInt w l) (hr : Rise l) {d : Int} (n : Nat) : ∀ (i j : Nat) (s : T AV) (h : Heap) (k : List Fr) (Q : Ex → T AV → Heap → Prop), j ≤ i + n → i ≤ j → j ≤ l.length → (∀ a, a < i → l.getD a 0 < d) → (∀ a, j ≤ a → a < l.length → d ≤ l.getD a 0) →
    sg s 0 = w → sg s 1 = .int .i64 d → sg s 6 = .int .i64 l.length → sg s 7 = .int .i64 i → sg s 8 = .int .i64 j →
    (∀ s' m, m ≤ l.length → (∀ a, a < m → l.getD a 0 < d) → (∀ a, m ≤ a → a < l.length → d ≤ l.getD a 0) → sg s' 0 = w → sg s' 1 = .int .i64 d → sg s' 6 = .int .i64 l.length → sg s' 7 = .int .i64 m → Un P k Q (.exit 0) s' h) → Lp P b82_0 s h (Un P k Q) := by
  have hbd := hw.bound (by decide)
  induction n with
  | zero =>
    intro i j s h k Q hn hij hj hlo hhi t0 t1 t6 t7 t8 hQ
    refine g.lpe b82_0.eq_1 ?_
    obtain rfl : i = j := by omega
    have c1 : ¬ (i : Int) < (i : Int) := by omega
    simp only [t7, t8, c1, RX, VOp.fresh, bxC, bsC, un, most, callsOf, seval, Int.reducePow, ↓reduceIte, Nat.reduceEqDiff, reduceCtorEq]
    refine hQ _ i hj hlo hhi ?_ ?_ ?_ ?_
    · simp only [t0, sg_set, Nat.reduceEqDiff, ↓reduceIte]
    · simp only [t1, sg_set, Nat.reduceEqDiff, ↓reduceIte]
    · simp only [t6, sg_set, Nat.reduceEqDiff, ↓reduceIte]
    · simp only [t7, sg_set, Nat.reduceEqDiff, ↓reduceIte]
  | succ n ih =>
    intro i j s h k Q hn hij hj hlo hhi t0 t1 t6 t7 t8 hQ
    by_cases hlt : i < j
    · refine g.lpe b82_0.eq_1 ?_
      have c1 : (i : Int) < (j : Int) := by omega
      obtain ⟨m, hm⟩ : ∃ m : Nat, m = (i + j) / 2 := ⟨_, rfl⟩
      have w1 : IntKind.i64.wrap ((i : Int) + (j : Int)) = ((i + j : Nat) : Int) := by rw [w64 (by omega) (by omega)]; push_cast; rfl
      have w2 : IntKind.u64.wrap ((i + j : Nat) : Int) = ((i + j : Nat) : Int) := wu64 (by omega) (by omega)
      have w3 : ((i + j : Nat) : Int) / 2 = (m : Int) := by omega
      have w4 : IntKind.i64.wrap (m : Int) = (m : Int) := w64 (by omega) (by omega)
      have w5 : IntKind.i64.wrap ((m : Int) + 1) = ((m + 1 : Nat) : Int) := by rw [w64 (by omega) (by omega)]; push_cast; rfl
      obtain ⟨r, ht, hia⟩ := getInt hw m (by omega)
      simp only [t0, t1, t7, t8, c1, w1, w2, w3, w4, hia, RX, VOp.fresh, bxC, bsC, un, most, callsOf, seval, Int.reducePow, ↓reduceIte, Nat.reduceEqDiff, reduceCtorEq]
      refine (less_pu g _ _).go rfl ?_
      rintro v rfl
      by_cases hc : l.getD m 0 < d
      · simp only [hc, w5, RX, VOp.fresh, bxC, bsC, un, most, callsOf, seval, Int.reducePow, ↓reduceIte, Nat.reduceEqDiff, reduceCtorEq]
        refine ih (m + 1) j _ h k Q (by omega) (by omega) hj (fun a ha => ?_) hhi ?_ ?_ ?_ ?_ ?_ hQ
        · rcases Nat.lt_or_ge a m with e | e
          · exact Int.lt_trans (hr.lt e (by omega)) hc
          · rw [show a = m by omega]; exact hc
        · simp only [t0, sg_set, Nat.reduceEqDiff, ↓reduceIte]
        · simp only [t1, sg_set, Nat.reduceEqDiff, ↓reduceIte]
        · simp only [t6, sg_set, Nat.reduceEqDiff, ↓reduceIte]
        · simp only [sg_set, Nat.reduceEqDiff, ↓reduceIte]
        · simp only [t8, sg_set, Nat.reduceEqDiff, ↓reduceIte]
      · simp only [hc, RX, VOp.fresh, bxC, bsC, un, most, callsOf, seval, Int.reducePow, ↓reduceIte, Nat.reduceEqDiff, reduceCtorEq]
        refine ih i m _ h k Q (by omega) (by omega) (by omega) hlo (fun a ha hb => ?_) ?_ ?_ ?_ ?_ ?_ hQ
        · rcases Nat.lt_or_ge m a with e | e
          · have := hr.lt e hb; omega
          · rw [show a = m by omega]; omega
        · simp only [t0, sg_set, Nat.reduceEqDiff, ↓reduceIte]
        · simp only [t1, sg_set, Nat.reduceEqDiff, ↓reduceIte]
        · simp only [t6, sg_set, Nat.reduceEqDiff, ↓reduceIte]
        · simp only [t7, sg_set, Nat.reduceEqDiff, ↓reduceIte]
        · simp only [sg_set, Nat.reduceEqDiff, ↓reduceIte]
    · refine g.lpe b82_0.eq_1 ?_
      obtain rfl : i = j := by omega
      have c1 : ¬ (i : Int) < (i : Int) := by omega
      simp only [t7, t8, c1, RX, VOp.fresh, bxC, bsC, un, most, callsOf, seval, Int.reducePow, ↓reduceIte, Nat.reduceEqDiff, reduceCtorEq]
      refine hQ _ i hj hlo hhi ?_ ?_ ?_ ?_
      · simp only [t0, sg_set, Nat.reduceEqDiff, ↓reduceIte]
      · simp only [t1, sg_set, Nat.reduceEqDiff, ↓reduceIte]
      · simp only [t6, sg_set, Nat.reduceEqDiff, ↓reduceIte]
      · simp only [t7, sg_set, Nat.reduceEqDiff, ↓reduceIte]
theorem bs_pu (g : Pg P tab) {l : List Int} {w : AV} (hw : IsL 8 RInt w l) (hr : Rise l) (d : Int) : Pu P 82 [w, .int .i64 d] (fun v => ∃ (m : Nat) (f : Bool), v = .tup [.int .i64 m, .bool f] ∧ m ≤ l.length ∧ (∀ a, a < m → l.getD a 0 < d) ∧ (∀ a, m ≤ a → a < l.length → d ≤ l.getD a 0) ∧ (f = true ↔ m < l.length ∧ l.getD m 0 = d)) := by
  refine g.pu (vf := v82) rfl rfl ?_
  simp only [v82, hw.len, RX, VOp.fresh, bxC, bsC, un, most, callsOf, seval, Int.reducePow, ↓reduceIte, Nat.reduceEqDiff, reduceCtorEq]
  refine bs_loop g hw hr (d := d) l.length 0 l.length _ _ _ _ (by omega) (by omega) (Nat.le_refl _) (fun a ha => by omega) (fun a h1 h2 => by omega) ?_ ?_ ?_ ?_ ?_ ?_
  · simp only [sg_set, Nat.reduceEqDiff, ↓reduceIte]
  · simp only [sg_set, Nat.reduceEqDiff, ↓reduceIte]
  · simp only [sg_set, Nat.reduceEqDiff, ↓reduceIte]
  · simp only [sg_set, Nat.reduceEqDiff, ↓reduceIte]
    rfl
  · simp only [sg_set, Nat.reduceEqDiff, ↓reduceIte]
  intro s' m hm hlo hhi t0 t1 t6 t7
  have told : ∀ (m : Nat) (f : Bool) (hh : Heap) {R : AV → Prop}, R (.tup [.int .i64 m, .bool f]) → Tl hh (.tup [.int .i64 m, .bool f]) R := fun m f hh R r => ⟨_, .tup (.cons (.int _ _) (.cons (.bool _) .nil)), r⟩
  by_cases hml : m < l.length
  · have c1 : (m : Int) < (l.length : Int) := by omega
    obtain ⟨r, ht, hia⟩ := getInt hw m hml
    by_cases he : l.getD m 0 = d
    · simp only [t0, t1, t6, t7, c1, hia, he, RX, VOp.fresh, bxC, bsC, un, most, callsOf, seval, Int.reducePow, ↓reduceIte, Nat.reduceEqDiff, reduceCtorEq]
      exact told m true _ ⟨m, true, rfl, hm, hlo, hhi, ⟨fun _ => ⟨hml, he⟩, fun _ => rfl⟩⟩
    · simp only [t0, t1, t6, t7, c1, hia, he, RX, VOp.fresh, bxC, bsC, un, most, callsOf, seval, Int.reducePow, ↓reduceIte, Nat.reduceEqDiff, reduceCtorEq]
      refine (nan102 g _).go rfl ?_
      rintro v rfl
      simp only [RX, VOp.fresh, bxC, bsC, un, most, callsOf, seval, Int.reducePow, ↓reduceIte, Nat.reduceEqDiff, reduceCtorEq]
      exact told m false _ ⟨m, false, rfl, hm, hlo, hhi, ⟨fun c => (by cases c), fun c => absurd c.2 he⟩⟩
  · have c1 : ¬ (m : Int) < (l.length : Int) := by omega
    simp only [t0, t1, t6, t7, c1, RX, VOp.fresh, bxC, bsC, un, most, callsOf, seval, Int.reducePow, ↓reduceIte, Nat.reduceEqDiff, reduceCtorEq]
    exact told m false _ ⟨m, false, rfl, hm, hlo, hhi, ⟨fun c => (by cases c), fun c => absurd c.1 hml⟩⟩
theorem Cl.exact {f : Nat} {args : List AV} {h h2 : Heap} {a : AV} (c : Cl P f args h fun v h' => v = a ∧ h' = h2) : OK P f args h a h2 := by
  obtain ⟨v, h', o, rfl, rfl⟩ := c
  exact o
theorem at_ok (g : Pg P tab) {l : List Int} {w ep u : AV} (hw : IsL 8 RInt w l) (hr : Rise l) {d : Int} {k : Nat} (hk : IxAt l d k) {h : Heap} {b e ver : Nat} (hg : h.get b = some (.cells [ep, w, u] e ver)) : OK P 58 [.ptr b 0, .int .i64 d] h (.int .i64 k) h := by
  have hbd := hw.bound (by decide)
  refine Cl.exact ?_
  refine g.cl (vf := v58) rfl rfl ?_
  simp only [v58, hg, RX, VOp.fresh, bxC, bsC, un, most, callsOf, seval, Int.reducePow, ↓reduceIte, Nat.reduceEqDiff, reduceCtorEq]
  refine (bs_pu g hw hr d).go (by simp [AV.tolds, AV.told, hw.told tInt]) ?_
  rintro v ⟨m, f, rfl, hm, hlo, hhi, hf⟩
  obtain ⟨k1, k2, k3⟩ := hk
  cases f with
  | true =>
    obtain ⟨f1, f2⟩ := hf.1 rfl
    have : m = k := IxAt.uniq hr (d := d) ⟨f1, by omega, fun h => by have := hr m h; omega⟩ ⟨k1, k2, k3⟩
    subst this
    simp only [RX, VOp.fresh, bxC, bsC, un, most, callsOf, seval, Int.reducePow, ↓reduceIte, Nat.reduceEqDiff, reduceCtorEq]
  | false =>
    have hkm : k < m := by
      rcases Nat.lt_or_ge k m with e | e
      · exact e
      · exfalso
        have h1 := hhi k e k1
        have h2 : l.getD k 0 = d := by omega
        rcases Nat.lt_or_ge m k with e2 | e2
        · have := hhi m (Nat.le_refl _) (by omega)
          have := hr.lt e2 k1
          omega
        · have : m = k := by omega
          subst this
          have := hf.2 ⟨k1, h2⟩
          cases this
    have hmk : m = k + 1 := by
      rcases Nat.lt_or_ge (k + 1) m with e | e
      · have := hlo (k + 1) e
        have := k3 (by omega)
        omega
      · omega
    have w1 : IntKind.i64.wrap ((m : Int) - 1) = (k : Int) := by rw [w64 (by omega) (by omega)]; omega
    simp only [w1, RX, VOp.fresh, bxC, bsC, un, most, callsOf, seval, Int.reducePow, ↓reduceIte, Nat.reduceEqDiff, reduceCtorEq]
theorem ixAt_ex {l : List Int} (hr : Rise l) {d : Int} (h0 : 0 < l.length) (h1 : l.getD 0 0 ≤ d) : ∃ k, IxAt l d k := by
  have go : ∀ n i, i + n = l.length → i < l.length → l.getD i 0 ≤ d → ∃ k, IxAt l d k := by
    intro n
    induction n with
    | zero => intro i hi hl; omega
    | succ n ih =>
      intro i hi hl hd
      by_cases hc : i + 1 < l.length ∧ l.getD (i + 1) 0 ≤ d
      · exact ih (i + 1) (by omega) hc.1 hc.2
      · exact ⟨i, hl, hd, fun h => by
          rcases Int.lt_or_le d (l.getD (i + 1) 0) with e | e
          · exact e
          · exact absurd ⟨h, e⟩ hc⟩
  exact go l.length 0 (by omega) h0 h1
theorem mpOk.rise {nodes : Int} {m : Mp} (h : mpOk nodes m) : Rise m.starts := fun i hi => by
  have := h.2.2.2.2.2.2.2.2 (i + 1) hi
  unfold mpAt at this
  rcases this.2.1 with h | h
  · omega
  · exact h
end
end Go.Proofs.Ythmkenkjfmbkiaa.VM
namespace Go.Proofs.Ythmkenkjfmbkiaa.VM
attribute [local irreducible] Af Nx EvO Ev Un Gd Cd EvR EvQ EvC Nc Gc Lp EvM NxM AfM GdM EvMR EvMQ EvMD EvMC Nm Gm
abbrev ic (l : List Int) : List AV := l.map (.int .i64)
theorem ic_len (l : List Int) : (ic l).length = l.length := List.length_map _
theorem ic_one (l : List Int) : (ic l).all AV.one = true := by simp [ic, AV.one]
section
variable {P : Program}
theorem cat_int {l : List Int} {c : List AV} (h : Cat RInt l c) : c = ic l := by
  induction h with
  | nil => rfl
  | cons h t ih => rw [h.1, ih]; rfl
/-- a row of numbers, told, as cells -/
theorem isL_cells {l : List Int} {w : AV} (hw : IsL 8 RInt w l) (hh : Heap) : lenV w = some l.length ∧ cellsOf hh 1 l.length w = some (ic l) := by
  rcases hw.2 with ⟨rfl, rfl⟩ | ⟨c, rfl, hc⟩
  · exact ⟨rfl, rfl⟩
  · refine ⟨rfl, ?_⟩
    rw [cat_int hc]
    simp only [cellsOf, Nat.mul_one]
    rw [cut_eq, List.drop_zero, List.take_of_length_le (by rw [ic_len]; exact Nat.le_refl _), if_pos (ic_len l)]
theorem clone_cl (g : Pg P tab) {l : List Int} {w : AV} (hw : IsL 8 RInt w l) (h0 : 0 < l.length) {h : Heap} {Q : AV → Heap → Prop} (q : ∀ h' b, h.next ≤ b → b < h'.next → (∃ e ver, h'.get b = some (.cells (ic l) e ver)) → Ext h h' → Q (.sl b 0 l.length l.length 1) h') : Cl P 83 [w] h Q := by
  refine g.cl (vf := v83) rfl rfl ?_
  have hne : eqv .sl w .nils = some false := by
    rcases hw.2 with ⟨rfl, rfl⟩ | ⟨c, rfl, hc⟩
    · simp at h0
    · rfl
  have x1 := Ext.mk (h := h) (.cells [] 3 0)
  have n1 : (h.mk' h.next (.cells [] 3 0)).next = h.next + 1 := by rw [mk_next]; omega
  obtain ⟨hl, hc⟩ := isL_cells hw (h.mk' h.next (.cells [] 3 0))
  have hm : l.length * 8 ≤ most2 := by have := hw.1; rw [reach_eq] at this; unfold most2; omega
  have hm0 : ¬ l.length ≤ 0 := by omega
  have hold : cellsOf (h.mk' h.next (.cells [] 3 0)) 1 0 (.sl h.next 0 0 0 1) = some [] := cells_of (by rw [Heap.get_mk, if_pos rfl]) rfl 0
  have ha : appendV (h.mk' h.next (.cells [] 3 0)) 1 8 3 (.sl h.next 0 0 0 1) w = some (.sl (h.next + 1) 0 l.length l.length 1, ((h.mk' h.next (.cells [] 3 0)).put h.next .dead).mk' (h.next + 1) (.cells (ic l) 3 0)) := by
    have o1 := ic_one l
    have il := ic_len l
    simp only [appendV, hl, hc, il, Nat.mul_one, o1, and_self, if_true, Nat.beq_refl, cond_true, hm0, if_false, hm, hold, n1, Nat.zero_add, List.nil_append]
  simp only [v83, HE, hne, ha, RX, VOp.fresh, bxC, bsC, un, most, callsOf, seval, Int.reducePow, ↓reduceIte, Nat.reduceEqDiff, reduceCtorEq]
  refine q _ _ (Nat.le_succ _) ?_ ⟨3, 0, ?_⟩ ⟨?_, fun b hb => ?_⟩
  · rw [mk_next, put_next, n1]; omega
  · rw [Heap.get_mk, if_pos rfl]
  · rw [mk_next, put_next, n1]; omega
  · rw [Heap.get_mk, if_neg (by omega), Heap.get_put, if_neg (by omega)]; exact x1.2 b hb
/-- a map of one's own -/
structure OMap (h : Heap) (N : Nat) (m : Mp) (sv ov : AV) : Prop where
  s : ∃ b e ver, sv = .sl b 0 m.starts.length m.starts.length 1 ∧ N ≤ b ∧ b < h.next ∧ h.get b = some (.cells (ic m.starts) e ver)
  o : ∃ b e ver, ov = .sl b 0 m.owners.length m.owners.length 1 ∧ N ≤ b ∧ b < h.next ∧ h.get b = some (.cells (ic m.owners) e ver)
  ne : blkOf sv ≠ blkOf ov
theorem mapCopy_cl (g : Pg P tab) {m : Mp} {v u : AV} (hv : IsL 8 RInt v m.starts) (hu : IsL 8 RInt u m.owners) (h0 : 0 < m.starts.length) (h1 : 0 < m.owners.length) {h : Heap} {Q : AV → Heap → Prop} (q : ∀ h' sv ov, OMap h' h.next m sv ov → Ext h h' → Q (.agg [.int .i64 m.epoch, sv, ov]) h') : Cl P 59 [.agg [.int .i64 m.epoch, v, u]] h Q := by
  refine g.cl (vf := v59) rfl rfl ?_
  have ov := isL_one hv
  have ou := isL_one hu
  simp only [v59, RX, VOp.fresh, bxC, bsC, un, most, callsOf, seval, Int.reducePow, ↓reduceIte, Nat.reduceEqDiff, reduceCtorEq]
  obtain ⟨_, h2, ok1, b1, rfl, p1, p2, ⟨e1, ver1, p3⟩, x1⟩ := clone_cl g hv h0 (h := (h.mk' h.next (.cells [.int .i64 m.epoch, v, u] 24 0)).mk' (h.next + 1) (.cells [.int .i64 0, .nils, .nils] 24 0)) (Q := fun v h' => ∃ b, v = .sl b 0 m.starts.length m.starts.length 1 ∧ _ ≤ b ∧ b < h'.next ∧ (∃ e ver, h'.get b = some (.cells (ic m.starts) e ver)) ∧ Ext _ h') (fun h' b a c d e => ⟨b, rfl, a, c, d, e⟩)
  obtain ⟨_, h3, ok2, b2, rfl, r1, r2, ⟨e2, ver2, r3⟩, x2⟩ := clone_cl g hu h1 (h := h2) (Q := fun v h' => ∃ b, v = .sl b 0 m.owners.length m.owners.length 1 ∧ _ ≤ b ∧ b < h'.next ∧ (∃ e ver, h'.get b = some (.cells (ic m.owners) e ver)) ∧ Ext _ h') (fun h' b a c d e => ⟨b, rfl, a, c, d, e⟩)
  have nH : ((h.mk' h.next (.cells [.int .i64 m.epoch, v, u] 24 0)).mk' (h.next + 1) (.cells [.int .i64 0, .nils, .nils] 24 0)).next = h.next + 2 := by rw [mk_next, mk_next]; omega
  rw [nH] at p1
  have x1n := x1.1
  rw [nH] at x1n
  have x2n := x2.1
  have n2 : ¬ h2.next = h.next + 2 := by omega
  have g0 : h2.get h.next = some (.cells [.int .i64 m.epoch, v, u] 24 0) := (x1.2 _ (by omega)).trans (by rw [Heap.get_mk, if_neg (by omega), Heap.get_mk, if_pos rfl])
  have g1 : h2.get (h.next + 1) = some (.cells [.int .i64 0, .nils, .nils] 24 0) := (x1.2 _ (by omega)).trans (by rw [Heap.get_mk, if_pos rfl])
  have g03 := (x2.2 h.next (by omega)).trans g0
  have g13 := (x2.2 (h.next + 1) (by omega)).trans g1
  have k3 : ∀ b, b < h.next → h3.get b = h.get b := fun b hb => by rw [x2.2 b (by omega), x1.2 b (by omega), Heap.get_mk, if_neg (by omega), Heap.get_mk, if_neg (by omega)]
  have pb1 := (x2.2 b1 (by omega)).trans p3
  refine EvD.lk (fun _ _ hh => if hh.next = h.next + 2 then (.sl b1 0 m.starts.length m.starts.length 1, h2) else (.sl b2 0 m.owners.length m.owners.length 1, h3)) ?_
  simp only [nH, n2, ok1, ok2, g0, g1, g03, g13, HN, RW, RX, VOp.fresh, bxC, bsC, un, most, callsOf, seval, Int.reducePow, ↓reduceIte, Nat.reduceEqDiff, reduceCtorEq]
  refine ⟨⟨⟨?_, trivial⟩, trivial⟩, ?_⟩
  · show Lk _ _ _ _
    simp only [Lk, wanted, HN, RX, VOp.fresh, bxC, bsC, un, most, callsOf, seval, Int.reducePow, ↓reduceIte, Nat.reduceEqDiff, reduceCtorEq]
  refine q _ _ _ ⟨⟨b1, e1, ver1, rfl, by omega, by rw [put_next, put_next, put_next]; omega, ?_⟩, ⟨b2, e2, ver2, rfl, by omega, by rw [put_next, put_next, put_next]; omega, ?_⟩, ?_⟩ ⟨by rw [put_next, put_next, put_next]; omega, fun b hb => ?_⟩
  · rw [Heap.get_put, if_neg (by omega), Heap.get_put, if_neg (by omega), Heap.get_put, if_neg (by omega)]; exact pb1
  · rw [Heap.get_put, if_neg (by omega), Heap.get_put, if_neg (by omega), Heap.get_put, if_neg (by omega)]; exact r3
  · simp only [blkOf, ne_eq, List.cons.injEq, and_true]; omega
  · rw [Heap.get_put, if_neg (by omega), Heap.get_put, if_neg (by omega), Heap.get_put, if_neg (by omega)]; exact k3 b hb
/-- a part of a row goes to the front -/
theorem del_cells {A B C z y : List AV} (hb : B.length = y.length) : (((A ++ B ++ C ++ z).take A.length ++ C ++ (A ++ B ++ C ++ z).drop (A.length + C.length)).take (A.length + C.length) ++ y ++ ((A ++ B ++ C ++ z).take A.length ++ C ++ (A ++ B ++ C ++ z).drop (A.length + C.length)).drop (A.length + C.length + y.length)) = A ++ C ++ (y ++ z) := by
  have e1 : (A ++ B ++ C ++ z).take A.length = A := by rw [List.append_assoc, List.append_assoc, List.take_left' rfl]
  rw [e1]
  have e2 : (A ++ C ++ (A ++ B ++ C ++ z).drop (A.length + C.length)).take (A.length + C.length) = A ++ C := List.take_left' (by rw [List.length_append])
  rw [e2]
  have e3 : (A ++ C ++ (A ++ B ++ C ++ z).drop (A.length + C.length)).drop (A.length + C.length + y.length) = z := by
    rw [← List.drop_drop, List.drop_left' (by rw [List.length_append]), List.drop_drop, show A.length + C.length + y.length = (A ++ B ++ C).length by simp only [List.length_append]; omega, List.drop_left' rfl]
  rw [e3, List.append_assoc]
theorem delI_cl (g : Pg P tab) {h : Heap} {b e ver : Nat} {l : List Int} {i : Nat} (hi : i < l.length) (hx : l.length ≤ 1000) (hb : b < h.next) (hg : h.get b = some (.cells (ic l) e ver)) {Q : AV → Heap → Prop}
    (q : ∀ h' ver', h'.next = h.next → (∀ c, c ≠ b → h'.get c = h.get c) → h'.get b = some (.cells (ic (l.eraseIdx i) ++ [AV.int .i64 0]) e ver') → Q (.sl b 0 (l.length - 1) l.length 1) h') : Cl P 61 [.sl b 0 l.length l.length 1, .int .i64 i, .int .i64 ((i + 1 : Nat) : Int)] h Q := by
  refine g.cl (vf := v61) rfl rfl ?_
  obtain ⟨n, hn⟩ : ∃ n, n = l.length := ⟨_, rfl⟩
  have s1 := slV3 (b := b) (off := 0) (len := l.length) (cap := l.length) (sz := 1) (k1 := .i64) (k2 := .i64) (k3 := .i64) (show i ≤ i + 1 by omega) (show i + 1 ≤ l.length by omega) (Nat.le_refl _)
  have s2 := slVhi (b := b) (off := 0) (len := l.length) (cap := l.length) (sz := 1) (k2 := .i64) (hi := i) (by omega)
  have s3 := slVlo (b := b) (off := 0) (len := l.length) (cap := l.length) (sz := 1) (k1 := .i64) (lo := i + 1) (by omega)
  have s4 := slV2 (b := b) (off := 0) (len := l.length - 1) (cap := l.length) (sz := 1) (k1 := .i64) (k2 := .i64) (lo := l.length - 1) (hi := l.length) (by omega) (by omega)
  have n1 : ¬ ((i : Int) = ((i + 1 : Nat) : Int)) := by omega
  obtain ⟨A, x, C, hl, hA⟩ : ∃ A x C, l = A ++ x :: C ∧ A.length = i := ⟨l.take i, l[i], l.drop (i + 1), by rw [List.getElem_cons_drop, List.take_append_drop], by rw [List.length_take]; omega⟩
  have er : l.eraseIdx i = A ++ C := by rw [hl, ← hA, List.eraseIdx_append_of_length_le (Nat.le_refl _)]; simp
  have eR : ic l = ic A ++ [AV.int .i64 x] ++ ic C ++ [] := by rw [hl]; simp
  have lA := ic_len A
  have lC := ic_len C
  have ll : l.length = A.length + C.length + 1 := by rw [hl]; simp; omega
  have oC := ic_one C
  rw [eR] at hg
  have hc : cellsOf h 1 (l.length - (i + 1)) (.sl b (i + 1) (l.length - (i + 1)) (l.length - (i + 1)) 1) = some (ic C) := by
    have h1 := cells_part (sz := 1) (lo := i + 1) (k := l.length - (i + 1)) (cap := l.length - (i + 1)) hg (by simp only [List.length_append, lA, lC, List.length_singleton, List.length_nil]; omega)
    simp only [Nat.mul_one] at h1
    rw [h1, List.append_nil, List.drop_left' (by rw [List.length_append, lA, List.length_singleton]; omega), List.take_of_length_le (by omega)]
  have hw : writeAt h b i (ic C) = some (h.put b (.cells ((ic A ++ [AV.int .i64 x] ++ ic C ++ []).take (ic A).length ++ ic C ++ (ic A ++ [AV.int .i64 x] ++ ic C ++ []).drop ((ic A).length + (ic C).length)) e (ver + 1))) := by
    rw [writeAt_go, hg, wrB_some, if_pos ⟨by simp only [List.length_append, lA, lC, List.length_singleton, List.length_nil]; omega, oC⟩, show i = (ic A).length by omega]
  have ha : appendV h 1 8 3 (.sl b 0 i l.length 1) (.sl b (i + 1) (l.length - (i + 1)) (l.length - (i + 1)) 1) = some (.sl b 0 (l.length - 1) l.length 1, h.put b (.cells ((ic A ++ [AV.int .i64 x] ++ ic C ++ []).take (ic A).length ++ ic C ++ (ic A ++ [AV.int .i64 x] ++ ic C ++ []).drop ((ic A).length + (ic C).length)) e (ver + 1))) := by
    have e1 : (ic C).length = l.length - (i + 1) := by omega
    have e2 : l.length - 1 ≤ l.length := by omega
    have e3 : i + (l.length - (i + 1)) = l.length - 1 := by omega
    simp only [appendV, lenV, hc, e1, oC, Nat.mul_one, and_self, if_true, Nat.beq_refl, cond_true, Nat.zero_add, hw, e3, e2]
  have hw2 : writeAt (h.put b (.cells ((ic A ++ [AV.int .i64 x] ++ ic C ++ []).take (ic A).length ++ ic C ++ (ic A ++ [AV.int .i64 x] ++ ic C ++ []).drop ((ic A).length + (ic C).length)) e (ver + 1))) b (l.length - 1) [AV.int .i64 0] = some ((h.put b (.cells ((ic A ++ [AV.int .i64 x] ++ ic C ++ []).take (ic A).length ++ ic C ++ (ic A ++ [AV.int .i64 x] ++ ic C ++ []).drop ((ic A).length + (ic C).length)) e (ver + 1))).put b (.cells (ic A ++ ic C ++ ([AV.int .i64 0] ++ [])) e (ver + 1 + 1))) := by
    rw [writeAt_go, Heap.get_put, if_pos rfl, wrB_some, if_pos ⟨by simp only [List.length_append, List.length_take, List.length_drop, lA, lC, List.length_singleton, List.length_nil]; omega, by rfl⟩, show l.length - 1 = (ic A).length + (ic C).length by omega, del_cells (A := ic A) (B := [AV.int .i64 x]) (C := ic C) (z := []) (y := [AV.int .i64 0]) rfl]
  have hcl : l.length - (l.length - 1) = 1 := by omega
  simp only [Nat.zero_add, Nat.mul_one] at s1 s2 s3 s4
  rw [hcl] at s4
  have hcs := clS_go (z := [AV.int .i64 0]) (b := b) (off := l.length - 1) (len := 1) (cap := l.length - (l.length - 1)) (sz := 1) (by decide) ((by rw [List.replicate_one, List.flatten_singleton]; exact hw2 : writeAt _ b (l.length - 1) (List.replicate 1 [AV.int .i64 0]).flatten = _))
  rw [hcl] at hcs
  simp only [v61, s1, s2, s3, s4, n1, ha, vop_clearS, hcs, RX, VOp.fresh, bxC, bsC, un, most, callsOf, seval, Int.reducePow, ↓reduceIte, Nat.reduceEqDiff, reduceCtorEq]
  refine q _ (ver + 1 + 1) rfl (fun c hc => by rw [Heap.get_put, if_neg hc, Heap.get_put, if_neg hc]) ?_
  rw [Heap.get_put, if_pos rfl, er]
  simp
end
end Go.Proofs.Ythmkenkjfmbkiaa.VM
namespace Go.Proofs.Ythmkenkjfmbkiaa.VM
attribute [local irreducible] Af Nx EvO Ev Un Gd Cd EvR EvQ EvC Nc Gc Lp EvM NxM AfM GdM EvMR EvMQ EvMD EvMC Nm Gm
def ins (l : List Int) (i : Nat) (x : Int) : List Int := l.take i ++ x :: l.drop i
theorem ins_len {l : List Int} {i : Nat} (h : i ≤ l.length) (x : Int) : (ins l i x).length = l.length + 1 := by
  simp [ins]; omega
theorem ins_ic {l : List Int} {i : Nat} {x : Int} : (ic l).take i ++ .int .i64 x :: (ic l).drop i = ic (ins l i x) := by
  simp [ins, ic]
/-- what a change makes, at the stretch i -/
def chgR (m : Mp) (k a t : Int) (i : Nat) : Mp :=
  if k = 0 then ⟨m.epoch + 1, ins m.starts (i + 1) a, ins m.owners (i + 1) (m.owners.getD i 0)⟩
  else if k = 1 then ⟨m.epoch + 1, m.starts, m.owners.set i t⟩
  else ⟨m.epoch + 1, m.starts.eraseIdx (i + 1), m.owners.eraseIdx (i + 1)⟩
/-- what slices.Insert does -/
def InsOk (P : Program) : Prop := ∀ {H : Heap} {b n cap i vb e e2 ver ver2 : Nat} {cs : List AV} {x : AV}, H.get b = some (.cells cs e ver) → cs.length = n → cs.all AV.one = true → x.one = true → i ≤ n → H.get vb = some (.cells [x] e2 ver2) → vb ≠ b → n < 1000000 →
  OK P 60 [.sl b 0 n cap 1, .int .i64 i, .sl vb 0 1 1 1] H (.sl H.next 0 (n + 1) (n + 1) 1) ((H.put b .dead).mk' H.next (.cells (cs.take i ++ x :: cs.drop i) 3 0))
/-- a row of one's own, there may be more behind -/
def WRow (h : Heap) (N : Nat) (l : List Int) (v : AV) (b : Nat) : Prop := ∃ cap e ver z, v = .sl b 0 l.length cap 1 ∧ N ≤ b ∧ b < h.next ∧ h.get b = some (.cells (ic l ++ z) e ver) ∧ AV.bares z = true
def tI (l : List Int) : AV := .rs (ic l) l.length
theorem tI_is {l : List Int} (h64 : ∀ x ∈ l, I64 x) (hl : l.length ≤ 1000000) : IsL 8 RInt (tI l) l := by
  refine isL_rs ?_ (by rw [reach_eq]; omega)
  clear hl
  induction l with
  | nil => exact .nil
  | cons x l ih => exact .cons (l := l) (c := [.int .i64 x]) ⟨rfl, h64 x (.head _)⟩ (ih fun y hy => h64 y (.tail _ hy))
section
variable {P : Program} {h h' : Heap} {N : Nat} {l : List Int} {v : AV} {b : Nat}
theorem ic_told (l : List Int) : AV.tolds (ic l) = true := by
  induction l with
  | nil => rfl
  | cons x l ih => simpa [ic, AV.tolds, AV.told] using ih
theorem WRow.frame (r : WRow h N l v b) (hn : h.next ≤ h'.next) (k : h'.get b = h.get b) : WRow h' N l v b := by
  obtain ⟨cap, e, ver, z, h1, h2, h3, h4, h5⟩ := r
  exact ⟨cap, e, ver, z, h1, h2, by omega, k.trans h4, h5⟩
theorem WRow.ext (r : WRow h N l v b) (x : Ext h h') : WRow h' N l v b := by
  obtain ⟨cap, e, ver, z, h1, h2, h3, h4, h5⟩ := r
  exact ⟨cap, e, ver, z, h1, h2, Nat.lt_of_lt_of_le h3 x.1, (x.2 _ h3).trans h4, h5⟩
theorem WRow.fz {r : Bool} (w : WRow h N l v b) (h0 : 0 < l.length) (hr : r = true) : Fz r h v (tI l) := by
  obtain ⟨cap, e, ver, z, rfl, h2, h3, h4, _⟩ := w
  refine .sl (cs := ic l) h0 h4 ?_ (by subst hr; exact Fzs.refl (ic_told l))
  rw [cut_eq, List.drop_zero, Nat.mul_one, List.take_left' (ic_len l), if_pos (ic_len l)]
theorem WRow.one (w : WRow h N l v b) : v.one = true := by obtain ⟨cap, e, ver, z, rfl, _⟩ := w; rfl
theorem WRow.cells (w : WRow h N l v b) : v.cells = some [v] := by obtain ⟨cap, e, ver, z, rfl, _⟩ := w; rfl
/-- what goes before -/
def ChP (nodes : Int) (m : Mp) (k a : Int) : Prop := mpOk nodes m ∧ 0 ≤ k ∧ k ≤ 2 ∧ 0 ≤ a ∧ a < 4294967296
abbrev z3 : List AV := [.int .i64 0, .nils, .nils]
def blkC (n : Nat) : VCode := blk n v32.body
theorem chg_a (g : Pg P tab) {m : Mp} {v u : AV} (hv : IsL 8 RInt v m.starts) (hu : IsL 8 RInt u m.owners) {nodes k a t : Int} {Q : AV → Heap → Prop} {B : VCode}
    (q7 : ∀ h' e, Ext h h' → ((¬ ChP nodes m k a ∧ e = 700) ∨ (ChP nodes m k a ∧ m.epoch = 65535 ∧ e = 701)) → Q (.tup [.agg z3, .int .i64 e]) h')
    (hK : ChP nodes m k a → m.epoch ≠ 65535 → ∀ s' h' i sv ov, IxAt m.starts a i → sg s' 1 = .int .i64 nodes → sg s' 3 = .ptr h.next 0 → sg s' 5 = .ptr (h.next + 1) 0 → sg s' 6 = .ptr (h.next + 2) 0 → sg s' 8 = .int .i64 i → (∃ d, sg s' 9 = .ptr d 0 ∧ h.next + 2 < d ∧ Has h' [(d, [.int .i64 (m.epoch + 1), sv, ov]), (h.next, [.int .i64 m.epoch, v, u]), (h.next + 1, [.int .i64 k, .int .i64 a, .int .i64 t]), (h.next + 2, z3)] ∧
      (∃ b b', WRow h' (h.next + 3) m.starts sv b ∧ WRow h' (h.next + 3) m.owners ov b' ∧ b ≠ b' ∧ b ≠ d ∧ b' ≠ d ∧ ∃ e ver e' ver', h'.get b = some (.cells (ic m.starts) e ver) ∧ h'.get b' = some (.cells (ic m.owners) e' ver') ∧ sv = .sl b 0 m.starts.length m.starts.length 1 ∧ ov = .sl b' 0 m.owners.length m.owners.length 1)) → Ext h h' → Ev P B s' h' (Un P [] (Fin v32.res Q))) :
    Ev P (.seq (blkC 0) (.seq (blkC 1) (.seq (blkC 2) (.seq (blkC 3) (.seq (blkC 4) B))))) (argsT [.agg [.int .i64 m.epoch, v, u], .int .i64 nodes, .agg [.int .i64 k, .int .i64 a, .int .i64 t]] 0 .e) h (Un P [] (Fin v32.res Q)) := by
  have ov := isL_one hv
  have ou := isL_one hu
  have ht : AV.tolds [.agg [.int .i64 m.epoch, v, u], .int .i64 nodes] = true := by simp [AV.tolds, AV.told, hv.told tInt, hu.told tInt]
  simp only [blkC, v32, blk, HN, RW, RX, VOp.fresh, bxC, bsC, un, most, callsOf, seval, Int.reducePow, ↓reduceIte, Nat.reduceEqDiff, reduceCtorEq]
  refine (mapMay_pu g hv hu).go ht ?_
  rintro x ⟨b, rfl, hb⟩
  have bad : ∀ H : Heap, Ext h H → ∀ c e ver, Ext h (H.put (h.next + 2) (.cells c e ver)) := fun H x c e ver => x.putn (by omega) _
  have x3 : Ext h (((h.mk' h.next (.cells [.int .i64 m.epoch, v, u] 24 0)).mk' (h.next + 1) (.cells [.int .i64 k, .int .i64 a, .int .i64 t] 26 0)).mk' (h.next + 2) (.cells z3 24 0)) := (((Ext.refl h).mkn (Nat.le_refl _) _).mkn (by omega) _).mkn (by omega) _
  by_cases pre : ChP nodes m k a
  · have hb1 : b = true := hb.2 pre.1
    subst hb1
    obtain ⟨p1, p2, p3, p4, p5⟩ := id pre
    have c1 : ¬ k < 0 := by omega
    have c2 : ¬ 2 < k := by omega
    have c3 : ¬ a < 0 := by omega
    have c4 : ¬ 4294967296 ≤ a := by omega
    by_cases he : m.epoch = 65535
    · simp only [c1, c2, c3, c4, he, HN, RW, RX, VOp.fresh, bxC, bsC, un, most, callsOf, seval, Int.reducePow, ↓reduceIte, Nat.reduceEqDiff, reduceCtorEq]
      exact q7 _ _ (bad _ (he ▸ x3) _ _ _) (.inr ⟨pre, he, rfl⟩)
    · simp only [c1, c2, c3, c4, he, HN, RW, RX, VOp.fresh, bxC, bsC, un, most, callsOf, seval, Int.reducePow, ↓reduceIte, Nat.reduceEqDiff, reduceCtorEq]
      have h0 : 0 < m.starts.length := p1.2.2.2.2.1
      have h1 : 0 < m.owners.length := by rw [p1.2.2.2.2.2.2.1]; exact h0
      have he2 := p1.2.2.2.1
      have he1 := p1.2.2.1
      have w1 : IntKind.i64.wrap (m.epoch + 1) = m.epoch + 1 := w64 (by omega) (by omega)
      obtain ⟨i, hi⟩ := ixAt_ex p1.rise h0 (d := a) (by have := p1.2.2.2.2.2.2.2.1; omega)
      have H3 : Has (((h.mk' h.next (.cells [.int .i64 m.epoch, v, u] 24 0)).mk' (h.next + 1) (.cells [.int .i64 k, .int .i64 a, .int .i64 t] 26 0)).mk' (h.next + 2) (.cells z3 24 0)) [(h.next + 2, z3), (h.next + 1, [.int .i64 k, .int .i64 a, .int .i64 t]), (h.next, [.int .i64 m.epoch, v, u])] :=
        ((Has.nil.mk (Nat.le_refl _)).mk (by rw [mk_next]; omega)).mk (by rw [mk_next, mk_next]; omega)
      have n3 : (((h.mk' h.next (.cells [.int .i64 m.epoch, v, u] 24 0)).mk' (h.next + 1) (.cells [.int .i64 k, .int .i64 a, .int .i64 t] 26 0)).mk' (h.next + 2) (.cells z3 24 0)).next = h.next + 3 := by rw [mk_next, mk_next, mk_next]; omega
      generalize ((h.mk' h.next (.cells [.int .i64 m.epoch, v, u] 24 0)).mk' (h.next + 1) (.cells [.int .i64 k, .int .i64 a, .int .i64 t] 26 0)).mk' (h.next + 2) (.cells z3 24 0) = h3 at *
      obtain ⟨e0, v0, g0⟩ := H3.get (b := h.next) (.tail _ (.tail _ (.head _)))
      refine (at_ok g hv p1.rise hi g0).cl ?_
      simp only [g0, RX, VOp.fresh, bxC, bsC, un, most, callsOf, seval, Int.reducePow, ↓reduceIte, Nat.reduceEqDiff, reduceCtorEq]
      refine mapCopy_cl g hv hu h0 h1 fun h4 sv ov om x4 => ?_
      obtain ⟨⟨b1, e1, r1, rfl, o1, o2, o3⟩, ⟨b2, e2, r2, rfl, s1, s2, s3⟩, hne⟩ := om
      have x4n := x4.1
      have H4 := H3.ext x4
      have n5 : ((h4.mk' h4.next (.cells z3 24 0)).put h4.next (.cells [.int .i64 m.epoch, .sl b1 0 m.starts.length m.starts.length 1, .sl b2 0 m.owners.length m.owners.length 1] 24 1)).next = h4.next + 1 := new_next
      have z0 : ¬ h.next = h4.next := by omega
      simp only [w1, RW, RX, VOp.fresh, bxC, bsC, un, most, callsOf, seval, Int.reducePow, ↓reduceIte, Nat.reduceEqDiff, reduceCtorEq]
      have ne12 : b1 ≠ b2 := fun e => hne (by simp [blkOf, e])
      have kk : ∀ c X Y, c < h4.next → (((h4.mk' h4.next (.cells z3 24 0)).put h4.next X).put h4.next Y).get c = h4.get c := fun c X Y hc => by rw [Heap.get_put, if_neg (by omega), Heap.get_put, if_neg (by omega), Heap.get_mk, if_neg (by omega)]
      have nn : ∀ X Y, (((h4.mk' h4.next (.cells z3 24 0)).put h4.next X).put h4.next Y).next = h4.next + 1 := fun X Y => by rw [put_next, new_next]
      have xh : Ext h h4 := x3.trans x4
      refine hK pre he _ _ i _ _ hi ?_ ?_ ?_ ?_ ?_ ⟨h4.next, ?_, by omega, ?_, b1, b2, ⟨_, e1, r1, [], rfl, by omega, by rw [nn]; omega, by rw [kk _ _ _ o2, o3, List.append_nil], rfl⟩, ⟨_, e2, r2, [], rfl, by omega, by rw [nn]; omega, by rw [kk _ _ _ s2, s3, List.append_nil], rfl⟩, ne12, by omega, by omega, e1, r1, e2, r2, by rw [kk _ _ _ o2, o3], by rw [kk _ _ _ s2, s3], rfl, rfl⟩ ⟨by rw [nn]; have := xh.1; omega, fun c hc => by rw [kk _ _ _ (by have := xh.1; omega)]; exact xh.2 c hc⟩
      · simp only [sg_set, Nat.reduceEqDiff, ↓reduceIte]
      · simp only [sg_set, Nat.reduceEqDiff, ↓reduceIte]
      · simp only [sg_set, Nat.reduceEqDiff, ↓reduceIte]
      · simp only [sg_set, Nat.reduceEqDiff, ↓reduceIte]
      · simp only [sg_set, Nat.reduceEqDiff, ↓reduceIte]
      · simp only [sg_set, Nat.reduceEqDiff, ↓reduceIte]
      · refine (H4.new.put ?_).sub ?_
        · intro p hp
          have := (H4 p hp).1
          omega
        · intro p hp
          simp only [List.mem_cons, List.not_mem_nil, or_false] at hp ⊢
          rcases hp with rfl | rfl | rfl | rfl <;> simp
  · have go : ∀ H : Heap, Ext h H → ∀ c e ver, Q (.tup [.agg z3, .int .i64 700]) (H.put (h.next + 2) (.cells c e ver)) := fun H x c e ver => q7 _ _ (bad H x c e ver) (.inl ⟨pre, rfl⟩)
    cases b with
    | false =>
      simp only [HN, RW, RX, VOp.fresh, bxC, bsC, un, most, callsOf, seval, Int.reducePow, ↓reduceIte, Nat.reduceEqDiff, reduceCtorEq]
      exact go _ x3 _ _ _
    | true =>
      have p1 := hb.1 rfl
      by_cases c1 : k < 0
      · simp only [c1, HN, RW, RX, VOp.fresh, bxC, bsC, un, most, callsOf, seval, Int.reducePow, ↓reduceIte, Nat.reduceEqDiff, reduceCtorEq]
        exact go _ x3 _ _ _
      by_cases c2 : 2 < k
      · simp only [c1, c2, HN, RW, RX, VOp.fresh, bxC, bsC, un, most, callsOf, seval, Int.reducePow, ↓reduceIte, Nat.reduceEqDiff, reduceCtorEq]
        exact go _ x3 _ _ _
      by_cases c3 : a < 0
      · simp only [c1, c2, c3, HN, RW, RX, VOp.fresh, bxC, bsC, un, most, callsOf, seval, Int.reducePow, ↓reduceIte, Nat.reduceEqDiff, reduceCtorEq]
        exact go _ x3 _ _ _
      by_cases c4 : 4294967296 ≤ a
      · simp only [c1, c2, c3, c4, HN, RW, RX, VOp.fresh, bxC, bsC, un, most, callsOf, seval, Int.reducePow, ↓reduceIte, Nat.reduceEqDiff, reduceCtorEq]
        exact go _ x3 _ _ _
      · exact absurd ⟨p1, by omega, by omega, by omega, by omega⟩ pre
end
end Go.Proofs.Ythmkenkjfmbkiaa.VM
namespace Go.Proofs.Ythmkenkjfmbkiaa.VM
attribute [local irreducible] Af Nx EvO Ev Un Gd Cd EvR EvQ EvC Nc Gc Lp EvM NxM AfM GdM EvMR EvMQ EvMD EvMC Nm Gm
/-- what stands while a map is changed: N: names from here on are one's own -/
structure CS (h : Heap) (N d : Nat) (m : Mp) (x : Mp) (v u : AV) (k a t : Int) : Prop where
  r : ∃ sv ov b b', Has h [(d, [.int .i64 x.epoch, sv, ov]), (N, [.int .i64 m.epoch, v, u]), (N + 1, [.int .i64 k, .int .i64 a, .int .i64 t]), (N + 2, z3)] ∧ WRow h (N + 3) x.starts sv b ∧ WRow h (N + 3) x.owners ov b' ∧ b ≠ b' ∧ b ≠ d ∧ b' ≠ d
  d : N + 2 < d
section
variable {P : Program} {h : Heap} {s : T AV} {N d i : Nat} {m : Mp} {v u sv ov : AV} {k a t nodes : Int} {kk : List Fr} {Q : Ex → T AV → Heap → Prop} {b b' e ver e' ver' : Nat}
theorem chg_give (g : Pg P tab) (t5 : sg s 5 = .ptr (N + 1) 0) (t8 : sg s 8 = .int .i64 i) (t9 : sg s 9 = .ptr d 0) (hd : N + 2 < d) (H : Has h [(d, [.int .i64 (m.epoch + 1), sv, ov]), (N, [.int .i64 m.epoch, v, u]), (N + 1, [.int .i64 1, .int .i64 a, .int .i64 t]), (N + 2, z3)])
    (ws : WRow h (N + 3) m.starts sv b) (wo : WRow h (N + 3) m.owners ov b') (hne : b ≠ b') (hbd : b ≠ d) (hbd' : b' ≠ d) (hg : h.get b' = some (.cells (ic m.owners) e' ver')) (hov : ov = .sl b' 0 m.owners.length m.owners.length 1) (hi : i < m.owners.length)
    (hK : ∀ s' h', (∀ j, j < 10 → sg s' j = sg s j) → CS h' N d m (chgR m 1 a t i) v u 1 a t → h.next ≤ h'.next → (∀ c, c < N → h'.get c = h.get c) → Un P kk Q .normal s' h') : Ev P (blkC 5) s h (Un P kk Q) := by
  obtain ⟨ed, vd, gd⟩ := H.get (b := d) (.head _)
  obtain ⟨ec, vc, gc⟩ := H.get (b := N + 1) (.tail _ (.tail _ (.head _)))
  have o1 := wo
  obtain ⟨cap, eo, vo, z, rfl, p2, p3, p4⟩ := o1
  cases hov
  have hia : ∀ (hh : Heap) (q : IntKind), iaV hh 1 none (.sl b' 0 m.owners.length m.owners.length 1) (.int q (i : Int)) = .val (.ptr b' i) hh := fun hh q => by
    have : 0 ≤ (i : Int) ∧ (i : Int) < (m.owners.length : Int) ∧ 1 = 1 := ⟨by omega, by omega, rfl⟩
    simp only [iaV, this, and_self, if_true, Int.toNat_natCast, Nat.zero_add, Nat.mul_one]
  have hw := wr_at hg (show i < (ic m.owners).length by rw [ic_len]; exact hi) (x := .int .i64 t) rfl
  simp only [blkC, v32, blk, t5, t8, t9, gd, gc, hia, hw, RX, VOp.fresh, bxC, bsC, un, most, callsOf, seval, Int.reducePow, ↓reduceIte, Nat.reduceEqDiff, reduceCtorEq]
  have hset : (ic m.owners).set i (.int .i64 t) = ic (m.owners.set i t) := by simp [ic]
  have kp : ∀ c, c ≠ b' → (h.put b' (.cells ((ic m.owners).set i (.int .i64 t)) e' (ver' + 1))).get c = h.get c := fun c hc => by rw [Heap.get_put, if_neg hc]
  refine hK _ _ (fun j hj => by simp only [sg_set]; repeat rw [if_neg (by omega)]) ⟨⟨sv, .sl b' 0 m.owners.length m.owners.length 1, b, b', ?_, ?_, ?_, hne, hbd, hbd'⟩, hd⟩ (by rw [put_next]; exact Nat.le_refl _) fun c hc => kp c (by omega)
  · exact fun p hp => ⟨by rw [put_next]; exact (H p hp).1, let ⟨e1, v1, g1⟩ := (H p hp).2; ⟨e1, v1, (kp _ (by
      simp only [List.mem_cons, List.not_mem_nil, or_false] at hp
      rcases hp with rfl | rfl | rfl | rfl <;> simp only <;> omega)).trans g1⟩⟩
  · exact ws.frame (by rw [put_next]; exact Nat.le_refl _) (kp b hne)
  · refine ⟨m.owners.length, e', ver' + 1, [], ?_, p2, by rw [put_next]; exact p3, ?_, rfl⟩
    · simp [chgR]
    · rw [Heap.get_put, if_pos rfl, List.append_nil, hset]; rfl
theorem chg_join (g : Pg P tab) (t3 : sg s 3 = .ptr N 0) (t5 : sg s 5 = .ptr (N + 1) 0) (t8 : sg s 8 = .int .i64 i) (t9 : sg s 9 = .ptr d 0) (hd : N + 2 < d) (H : Has h [(d, [.int .i64 (m.epoch + 1), sv, ov]), (N, [.int .i64 m.epoch, v, u]), (N + 1, [.int .i64 2, .int .i64 a, .int .i64 t]), (N + 2, z3)])
    (hv : IsL 8 RInt v m.starts) (hls : m.starts.length ≤ 32) (hlo : m.owners.length = m.starts.length)
    (ws : WRow h (N + 3) m.starts sv b) (wo : WRow h (N + 3) m.owners ov b') (hne : b ≠ b') (hbd : b ≠ d) (hbd' : b' ≠ d) (hgs : h.get b = some (.cells (ic m.starts) e ver)) (hgo : h.get b' = some (.cells (ic m.owners) e' ver')) (hsv : sv = .sl b 0 m.starts.length m.starts.length 1) (hov : ov = .sl b' 0 m.owners.length m.owners.length 1) (hi : i + 1 < m.starts.length)
    (hK : ∀ s' h', (∀ j, j < 10 → sg s' j = sg s j) → CS h' N d m (chgR m 2 a t i) v u 2 a t → h.next ≤ h'.next → (∀ c, c < N → h'.get c = h.get c) → Un P kk Q .normal s' h') : Ev P (blkC 5) s h (Un P kk Q) := by
  obtain ⟨ed, vd, gd⟩ := H.get (b := d) (.head _)
  obtain ⟨em, vm, gm⟩ := H.get (b := N) (.tail _ (.head _))
  obtain ⟨ec, vc, gc⟩ := H.get (b := N + 1) (.tail _ (.tail _ (.head _)))
  obtain ⟨cs, es, vs, zs, _, q2, q3, _⟩ := id ws
  obtain ⟨co, eo, vo, zo, _, p2, p3, _⟩ := id wo
  subst hsv hov
  have w1 : IntKind.i64.wrap ((i : Int) + 1) = ((i + 1 : Nat) : Int) := by rw [w64 (by omega) (by omega)]; push_cast; rfl
  have w2 : IntKind.i64.wrap ((i : Int) + 2) = ((i + 1 + 1 : Nat) : Int) := by rw [w64 (by omega) (by omega)]; push_cast; omega
  have c1 : ¬ ((i + 1 : Nat) : Int) = ((m.starts.length : Nat) : Int) := by omega
  simp only [blkC, v32, blk, t3, t5, t8, t9, gd, gc, gm, hv.len, w1, w2, c1, RX, VOp.fresh, bxC, bsC, un, most, callsOf, seval, Int.reducePow, ↓reduceIte, Nat.reduceEqDiff, reduceCtorEq]
  refine delI_cl g (i := i + 1) hi (by omega) q3 hgs fun h1 v1 n1 k1 g1 => ?_
  have gd1 := (k1 d (Ne.symm hbd)).trans gd
  have hgo1 := (k1 b' (Ne.symm hne)).trans hgo
  have gn1 := (k1 N (by omega)).trans gm
  have gc1 := (k1 (N + 1) (by omega)).trans gc
  have hdN : ¬ d = N := by omega
  have hdC : ¬ d = N + 1 := by omega
  simp only [t8, t9, gd1, hgo1, w1, w2, RW, RX, VOp.fresh, bxC, bsC, un, most, callsOf, seval, Int.reducePow, ↓reduceIte, Nat.reduceEqDiff, reduceCtorEq]
  have g2 : (h1.put d (.cells [.int .i64 (m.epoch + 1), .sl b 0 (m.starts.length - 1) m.starts.length 1, .sl b' 0 m.owners.length m.owners.length 1] ed (vd + 1))).get b' = some (.cells (ic m.owners) e' ver') := by rw [Heap.get_put, if_neg hbd']; exact hgo1
  refine delI_cl g (i := i + 1) (by omega) (by omega) (by rw [put_next, n1]; exact p3) g2 fun h2 v2 n2 k2 g22 => ?_
  have gd2 := (k2 d (Ne.symm hbd')).trans ((by rw [Heap.get_put, if_pos rfl]) : (h1.put d (.cells [.int .i64 (m.epoch + 1), .sl b 0 (m.starts.length - 1) m.starts.length 1, .sl b' 0 m.owners.length m.owners.length 1] ed (vd + 1))).get d = some (.cells [.int .i64 (m.epoch + 1), .sl b 0 (m.starts.length - 1) m.starts.length 1, .sl b' 0 m.owners.length m.owners.length 1] ed (vd + 1)))
  simp only [t9, gd2, RW, RX, VOp.fresh, bxC, bsC, un, most, callsOf, seval, Int.reducePow, ↓reduceIte, Nat.reduceEqDiff, reduceCtorEq]
  rw [put_next, n1] at n2
  have kp : ∀ c, c ≠ b → c ≠ b' → c ≠ d → ∀ X, (h2.put d X).get c = h.get c := fun c c1 c2 c3 X => by rw [Heap.get_put, if_neg c3, k2 c c2, Heap.get_put, if_neg c3, k1 c c1]
  have ls : (m.starts.eraseIdx (i + 1)).length = m.starts.length - 1 := List.length_eraseIdx_of_lt hi
  have lo : (m.owners.eraseIdx (i + 1)).length = m.owners.length - 1 := List.length_eraseIdx_of_lt (by omega)
  refine hK _ _ (fun j hj => by simp only [sg_set]; repeat rw [if_neg (by omega)]) ⟨⟨.sl b 0 (m.starts.length - 1) m.starts.length 1, .sl b' 0 (m.owners.length - 1) m.owners.length 1, b, b', ?_, ?_, ?_, hne, hbd, hbd'⟩, hd⟩ (by rw [put_next, n2]; exact Nat.le_refl _) fun c hc => kp c (by omega) (by omega) (by omega) _
  rotate_left
  · refine ⟨m.starts.length, e, v1, [.int .i64 0], ?_, q2, by rw [put_next, n2]; exact q3, ?_, rfl⟩
    rotate_left
    · rw [Heap.get_put, if_neg hbd, k2 b hne, Heap.get_put, if_neg hbd, g1]; rfl
    · rw [show chgR m 2 a t i = ⟨m.epoch + 1, m.starts.eraseIdx (i + 1), m.owners.eraseIdx (i + 1)⟩ from rfl, ls]
  · refine ⟨m.owners.length, e', v2, [.int .i64 0], ?_, p2, by rw [put_next, n2]; exact p3, ?_, rfl⟩
    rotate_left
    · rw [Heap.get_put, if_neg hbd', g22]; rfl
    · rw [show chgR m 2 a t i = ⟨m.epoch + 1, m.starts.eraseIdx (i + 1), m.owners.eraseIdx (i + 1)⟩ from rfl, lo]
  · intro p hp
    simp only [List.mem_cons, List.not_mem_nil, or_false] at hp
    rcases hp with rfl | rfl | rfl | rfl
    · exact ⟨by rw [put_next, n2]; exact H.lt (.head _), ed, vd + 1 + 1, by rw [Heap.get_put, if_pos rfl]; rfl⟩
    · exact ⟨by rw [put_next, n2]; exact H.lt (.tail _ (.head _)), _, _, (kp _ (by omega) (by omega) (by omega) _).trans gm⟩
    · exact ⟨by rw [put_next, n2]; exact H.lt (.tail _ (.tail _ (.head _))), _, _, (kp _ (by omega) (by omega) (by omega) _).trans gc⟩
    · obtain ⟨ez, vz, gz⟩ := H.get (b := N + 2) (.tail _ (.tail _ (.tail _ (.head _))))
      exact ⟨by rw [put_next, n2]; exact H.lt (.tail _ (.tail _ (.tail _ (.head _)))), _, _, (kp _ (by omega) (by omega) (by omega) _).trans gz⟩
theorem chg_split (g : Pg P tab) (hins : InsOk P) (t3 : sg s 3 = .ptr N 0) (t5 : sg s 5 = .ptr (N + 1) 0) (t8 : sg s 8 = .int .i64 i) (t9 : sg s 9 = .ptr d 0) (hd : N + 2 < d) (H : Has h [(d, [.int .i64 (m.epoch + 1), sv, ov]), (N, [.int .i64 m.epoch, v, u]), (N + 1, [.int .i64 0, .int .i64 a, .int .i64 t]), (N + 2, z3)])
    (hu : IsL 8 RInt u m.owners) (hls : m.starts.length ≤ 32) (hlo : m.owners.length = m.starts.length)
    (ws : WRow h (N + 3) m.starts sv b) (wo : WRow h (N + 3) m.owners ov b') (hne : b ≠ b') (hbd : b ≠ d) (hbd' : b' ≠ d) (hgs : h.get b = some (.cells (ic m.starts) e ver)) (hgo : h.get b' = some (.cells (ic m.owners) e' ver')) (hsv : sv = .sl b 0 m.starts.length m.starts.length 1) (hov : ov = .sl b' 0 m.owners.length m.owners.length 1) (hi : i < m.starts.length)
    (hK : ∀ s' h', (∀ j, j < 10 → sg s' j = sg s j) → CS h' N d m (chgR m 0 a t i) v u 0 a t → h.next ≤ h'.next → (∀ c, c < N → h'.get c = h.get c) → Un P kk Q .normal s' h') : Ev P (blkC 5) s h (Un P kk Q) := by
  obtain ⟨ed, vd, gd⟩ := H.get (b := d) (.head _)
  obtain ⟨em, vm, gm⟩ := H.get (b := N) (.tail _ (.head _))
  obtain ⟨ec, vc, gc⟩ := H.get (b := N + 1) (.tail _ (.tail _ (.head _)))
  obtain ⟨ez, vz, gz⟩ := H.get (b := N + 2) (.tail _ (.tail _ (.tail _ (.head _))))
  have ld := H.lt (b := d) (.head _)
  obtain ⟨cs, es, vs, zs, _, q2, q3, _⟩ := id ws
  obtain ⟨co, eo, vo, zo, _, p2, p3, _⟩ := id wo
  subst hsv hov
  have w1 : IntKind.i64.wrap ((i : Int) + 1) = ((i + 1 : Nat) : Int) := by rw [w64 (by omega) (by omega)]; push_cast; rfl
  -- the starts
  have x1 := Ext.mk (h := h) (.cells [.int .i64 a] 3 0)
  have n1 : (h.mk' h.next (.cells [.int .i64 a] 3 0)).next = h.next + 1 := by rw [mk_next]; omega
  have ok1 := hins (H := h.mk' h.next (.cells [.int .i64 a] 3 0)) (b := b) (n := m.starts.length) (cap := m.starts.length) (i := i + 1) (vb := h.next) ((x1.2 b q3).trans hgs) (ic_len _) (ic_one _) rfl (by omega) (by rw [Heap.get_mk, if_pos rfl]) (by omega) (by omega)
  rw [n1, ins_ic] at ok1
  have k2 : ∀ c, c < h.next → c ≠ b → (((h.mk' h.next (.cells [.int .i64 a] 3 0)).put b .dead).mk' (h.next + 1) (.cells (ic (ins m.starts (i + 1) a)) 3 0)).get c = h.get c := fun c hc hb => by rw [Heap.get_mk, if_neg (by omega), Heap.get_put, if_neg hb, Heap.get_mk, if_neg (by omega)]
  have g2 : (((h.mk' h.next (.cells [.int .i64 a] 3 0)).put b .dead).mk' (h.next + 1) (.cells (ic (ins m.starts (i + 1) a)) 3 0)).get (h.next + 1) = some (.cells (ic (ins m.starts (i + 1) a)) 3 0) := by rw [Heap.get_mk, if_pos rfl]
  have n2 : (((h.mk' h.next (.cells [.int .i64 a] 3 0)).put b .dead).mk' (h.next + 1) (.cells (ic (ins m.starts (i + 1) a)) 3 0)).next = h.next + 2 := by rw [mk_next, put_next, n1]; omega
  simp only [blkC, v32, blk, t3, t5, t8, t9, gd, gc, gm, w1, RX, VOp.fresh, bxC, bsC, un, most, callsOf, seval, Int.reducePow, ↓reduceIte, Nat.reduceEqDiff, reduceCtorEq]
  refine ok1.cl ?_
  generalize ((h.mk' h.next (.cells [.int .i64 a] 3 0)).put b .dead).mk' (h.next + 1) (.cells (ic (ins m.starts (i + 1) a)) 3 0) = h2 at *
  have gd2 := (k2 d ld (Ne.symm hbd)).trans gd
  simp only [t9, gd2, RW, RX, VOp.fresh, bxC, bsC, un, most, callsOf, seval, Int.reducePow, ↓reduceIte, Nat.reduceEqDiff, reduceCtorEq]
  -- the owners
  have k3 : ∀ c, c < h.next → c ≠ b → c ≠ d → (h2.put d (.cells [.int .i64 (m.epoch + 1), .sl (h.next + 1) 0 (m.starts.length + 1) (m.starts.length + 1) 1, .sl b' 0 m.owners.length m.owners.length 1] ed (vd + 1))).get c = h.get c := fun c hc hb hd => by rw [Heap.get_put, if_neg hd]; exact k2 c hc hb
  have g3 : (h2.put d (.cells [.int .i64 (m.epoch + 1), .sl (h.next + 1) 0 (m.starts.length + 1) (m.starts.length + 1) 1, .sl b' 0 m.owners.length m.owners.length 1] ed (vd + 1))).get (h.next + 1) = some (.cells (ic (ins m.starts (i + 1) a)) 3 0) := by rw [Heap.get_put, if_neg (by omega)]; exact g2
  have n3 : (h2.put d (.cells [.int .i64 (m.epoch + 1), .sl (h.next + 1) 0 (m.starts.length + 1) (m.starts.length + 1) 1, .sl b' 0 m.owners.length m.owners.length 1] ed (vd + 1))).next = h.next + 2 := by rw [put_next, n2]
  have gd3 : (h2.put d (.cells [.int .i64 (m.epoch + 1), .sl (h.next + 1) 0 (m.starts.length + 1) (m.starts.length + 1) 1, .sl b' 0 m.owners.length m.owners.length 1] ed (vd + 1))).get d = some (.cells [.int .i64 (m.epoch + 1), .sl (h.next + 1) 0 (m.starts.length + 1) (m.starts.length + 1) 1, .sl b' 0 m.owners.length m.owners.length 1] ed (vd + 1)) := by rw [Heap.get_put, if_pos rfl]
  generalize h2.put d (.cells [.int .i64 (m.epoch + 1), .sl (h.next + 1) 0 (m.starts.length + 1) (m.starts.length + 1) 1, .sl b' 0 m.owners.length m.owners.length 1] ed (vd + 1)) = h3 at *
  obtain ⟨r, ht, hia⟩ := getInt hu i (by omega)
  have x4 := Ext.mk (h := h3) (.cells [.int .i64 (m.owners.getD i 0)] 3 0)
  rw [n3] at x4
  have n4 : (h3.mk' (h.next + 2) (.cells [.int .i64 (m.owners.getD i 0)] 3 0)).next = h.next + 3 := by rw [mk_next, n3]; omega
  have ok2 := hins (H := h3.mk' (h.next + 2) (.cells [.int .i64 (m.owners.getD i 0)] 3 0)) (b := b') (n := m.owners.length) (cap := m.owners.length) (i := i + 1) (vb := h.next + 2) ((x4.2 b' (by omega)).trans ((k3 b' p3 (Ne.symm hne) hbd').trans hgo)) (ic_len _) (ic_one _) rfl (by omega) (by rw [Heap.get_mk, if_pos rfl]) (by omega) (by omega)
  rw [n4, ins_ic] at ok2
  have gm3 := (k3 N (by omega) (by omega) (by omega)).trans gm
  have hNd : ¬ d = h.next + 2 := by omega
  have hNd3 : ¬ d = h.next + 3 := by omega
  have gd4 := (x4.2 d (by omega)).trans gd3
  have gdb : ¬ d = b' := Ne.symm hbd'
  have gd5 : (((h3.mk' (h.next + 2) (.cells [.int .i64 (m.owners.getD i 0)] 3 0)).put b' .dead).mk' (h.next + 3) (.cells (ic (ins m.owners (i + 1) (m.owners.getD i 0))) 3 0)).get d = some (.cells [.int .i64 (m.epoch + 1), .sl (h.next + 1) 0 (m.starts.length + 1) (m.starts.length + 1) 1, .sl b' 0 m.owners.length m.owners.length 1] ed (vd + 1)) := by rw [Heap.get_mk, if_neg hNd3, Heap.get_put, if_neg gdb]; exact gd4
  have kf : ∀ c, c < h.next + 2 → c ≠ b' → (((h3.mk' (h.next + 2) (.cells [.int .i64 (m.owners.getD i 0)] 3 0)).put b' .dead).mk' (h.next + 3) (.cells (ic (ins m.owners (i + 1) (m.owners.getD i 0))) 3 0)).get c = h3.get c := fun c hc hb => by rw [Heap.get_mk, if_neg (by omega), Heap.get_put, if_neg hb, Heap.get_mk, if_neg (by omega)]
  have gf : (((h3.mk' (h.next + 2) (.cells [.int .i64 (m.owners.getD i 0)] 3 0)).put b' .dead).mk' (h.next + 3) (.cells (ic (ins m.owners (i + 1) (m.owners.getD i 0))) 3 0)).get (h.next + 3) = some (.cells (ic (ins m.owners (i + 1) (m.owners.getD i 0))) 3 0) := by rw [Heap.get_mk, if_pos rfl]
  have nf : (((h3.mk' (h.next + 2) (.cells [.int .i64 (m.owners.getD i 0)] 3 0)).put b' .dead).mk' (h.next + 3) (.cells (ic (ins m.owners (i + 1) (m.owners.getD i 0))) 3 0)).next = h.next + 4 := by rw [mk_next, put_next, n4]; omega
  generalize hF : ((h3.mk' (h.next + 2) (.cells [.int .i64 (m.owners.getD i 0)] 3 0)).put b' .dead).mk' (h.next + 3) (.cells (ic (ins m.owners (i + 1) (m.owners.getD i 0))) 3 0) = h5 at *
  refine EvD.lk (fun _ _ _ => (.sl (h.next + 3) 0 (m.owners.length + 1) (m.owners.length + 1) 1, h5)) ?_
  simp only [t3, t8, t9, gd3, gm3, n3, hia, w1, ok2, gd5, RW, RX, VOp.fresh, bxC, bsC, un, most, callsOf, seval, Int.reducePow, ↓reduceIte, Nat.reduceEqDiff, reduceCtorEq]
  refine ⟨⟨⟨?_, trivial⟩, trivial⟩, ?_⟩
  · show Lk _ _ _ _
    simp only [Lk, wanted, gd4, RX, VOp.fresh, bxC, bsC, un, most, callsOf, seval, Int.reducePow, ↓reduceIte, Nat.reduceEqDiff, reduceCtorEq]
  have x5 : ∀ c X e2 v2, c < h.next → c ≠ b → c ≠ b' → c ≠ d → (h5.put d (.cells X e2 v2)).get c = h.get c := fun c X e2 v2 hc hb hb' hd => by
    rw [Heap.get_put, if_neg hd, kf c (by omega) hb']; exact k3 c hc hb hd
  have y1 : ∀ X e2 v2, (h5.put d (.cells X e2 v2)).get (h.next + 1) = some (.cells (ic (ins m.starts (i + 1) a)) 3 0) := fun X e2 v2 => by
    rw [Heap.get_put, if_neg (by omega), kf _ (by omega) (by omega)]; exact g3
  have y2 : ∀ X e2 v2, (h5.put d (.cells X e2 v2)).get (h.next + 3) = some (.cells (ic (ins m.owners (i + 1) (m.owners.getD i 0))) 3 0) := fun X e2 v2 => by
    rw [Heap.get_put, if_neg (by omega)]; exact gf
  have li : (ins m.starts (i + 1) a).length = m.starts.length + 1 := ins_len (by omega) _
  have lo : (ins m.owners (i + 1) (m.owners.getD i 0)).length = m.owners.length + 1 := ins_len (by omega) _
  refine hK _ _ (fun j hj => by simp only [sg_set]; repeat rw [if_neg (by omega)]) ⟨⟨.sl (h.next + 1) 0 (m.starts.length + 1) (m.starts.length + 1) 1, .sl (h.next + 3) 0 (m.owners.length + 1) (m.owners.length + 1) 1, h.next + 1, h.next + 3, ?_, ?_, ?_, by omega, by omega, by omega⟩, hd⟩ (by rw [put_next, nf]; omega) fun c hc => x5 c _ _ _ (by omega) (by omega) (by omega) (by omega)
  · intro p hp
    simp only [List.mem_cons, List.not_mem_nil, or_false] at hp
    rcases hp with rfl | rfl | rfl | rfl
    · exact ⟨by rw [put_next, nf]; simp only; omega, _, _, by rw [Heap.get_put, if_pos rfl]; rfl⟩
    · exact ⟨by rw [put_next, nf]; simp only; omega, _, _, (x5 _ _ _ _ (by omega) (by omega) (by omega) (by omega)).trans gm⟩
    · exact ⟨by rw [put_next, nf]; simp only; omega, _, _, (x5 _ _ _ _ (by omega) (by omega) (by omega) (by omega)).trans gc⟩
    · exact ⟨by rw [put_next, nf]; simp only; omega, _, _, (x5 _ _ _ _ (by omega) (by omega) (by omega) (by omega)).trans gz⟩
  · refine ⟨m.starts.length + 1, _, _, [], ?_, by omega, by rw [put_next, nf]; omega, (y1 _ _ _).trans (by rw [List.append_nil]; rfl), rfl⟩
    show _ = AV.sl _ 0 (ins m.starts (i + 1) a).length _ _
    rw [li]
  · refine ⟨m.owners.length + 1, _, _, [], ?_, by omega, by rw [put_next, nf]; omega, (y2 _ _ _).trans (by rw [List.append_nil]; rfl), rfl⟩
    show _ = AV.sl _ 0 (ins m.owners (i + 1) (m.owners.getD i 0)).length _ _
    rw [lo]
end
end Go.Proofs.Ythmkenkjfmbkiaa.VM
namespace Go.Proofs.Ythmkenkjfmbkiaa.VM
attribute [local irreducible] Af Nx EvO Ev Un Gd Cd EvR EvQ EvC Nc Gc Lp EvM NxM AfM GdM EvMR EvMQ EvMD EvMC Nm Gm
/-- what the map is told as -/
def toldMp (x : Mp) : AV := .agg [.int .i64 x.epoch, tI x.starts, tI x.owners]
/-- when there is none -/
def ChErr (nodes : Int) (m : Mp) (k a t e : Int) : Prop := (¬ ChP nodes m k a ∧ e = 700) ∨ (ChP nodes m k a ∧ m.epoch = 65535 ∧ e = 701) ∨ (ChP nodes m k a ∧ m.epoch ≠ 65535 ∧ e = 700 ∧ ∃ i, IxAt m.starts a i ∧ ((k = 2 ∧ i + 1 = m.starts.length) ∨ ¬ mpOk nodes (chgR m k a t i)))
/-- when there is one -/
def ChYes (nodes : Int) (m : Mp) (k a t : Int) (i : Nat) : Prop := ChP nodes m k a ∧ m.epoch ≠ 65535 ∧ IxAt m.starts a i ∧ ¬ (k = 2 ∧ i + 1 = m.starts.length) ∧ mpOk nodes (chgR m k a t i)
theorem mem_ins {l : List Int} {i : Nat} {x y : Int} (h : y ∈ ins l i x) : y = x ∨ y ∈ l := by
  simp only [ins, List.mem_append, List.mem_cons] at h
  rcases h with h | h | h
  · exact .inr (List.mem_of_mem_take h)
  · exact .inl h
  · exact .inr (List.mem_of_mem_drop h)
theorem getD_mem {l : List Int} {i : Nat} (h : i < l.length) : l.getD i 0 ∈ l := by
  rw [List.getD_eq_getElem?_getD, List.getElem?_eq_getElem h]; exact List.getElem_mem h
theorem cat_i64 {l : List Int} {c : List AV} (h : Cat RInt l c) : ∀ x ∈ l, I64 x := by
  induction h with
  | nil => intro x hx; simp at hx
  | cons h t ih =>
    intro x hx
    rcases List.mem_cons.1 hx with rfl | hx
    · exact h.2
    · exact ih x hx
theorem isL_i64 {l : List Int} {w : AV} (hw : IsL 8 RInt w l) : ∀ x ∈ l, I64 x := by
  rcases hw.2 with ⟨_, rfl⟩ | ⟨c, _, hc⟩
  · intro x hx; simp at hx
  · exact cat_i64 hc
section
variable {P : Program} {h : Heap} {s : T AV} {N d i : Nat} {m x : Mp} {v u sv ov : AV} {k a t nodes : Int} {Q : AV → Heap → Prop}
theorem chg_c (g : Pg P tab) (t1 : sg s 1 = .int .i64 nodes) (t6 : sg s 6 = .ptr (N + 2) 0) (t9 : sg s 9 = .ptr d 0) (c : CS h N d m x v u k a t)
    (h64s : ∀ y ∈ x.starts, I64 y) (h64o : ∀ y ∈ x.owners, I64 y) (l0 : 0 < x.starts.length) (l1 : 0 < x.owners.length) (l2 : x.starts.length ≤ 1000000) (l3 : x.owners.length ≤ 1000000)
    (q7 : ¬ mpOk nodes x → ∀ h', (h.next ≤ h'.next ∧ ∀ c, c < N → h'.get c = h.get c) → Q (.tup [.agg z3, .int .i64 700]) h')
    (qY : mpOk nodes x → ∀ h' sv ov b b', WRow h' N x.starts sv b → WRow h' N x.owners ov b' → b ≠ b' → (h.next ≤ h'.next ∧ ∀ c, c < N → h'.get c = h.get c) → Q (.tup [.agg [.int .i64 x.epoch, sv, ov], .int .i64 0]) h') : Ev P (rst 6 v32.body) s h (Un P [] (Fin v32.res Q)) := by
  obtain ⟨⟨sv, ov, b, b', H, ws, wo, hne, hbd, hbd'⟩, hd⟩ := c
  obtain ⟨ed, vd, gd⟩ := H.get (b := d) (.head _)
  obtain ⟨ez, vz, gz⟩ := H.get (b := N + 2) (.tail _ (.tail _ (.tail _ (.head _))))
  have lz := H.lt (b := N + 2) (.tail _ (.tail _ (.tail _ (.head _))))
  have os := ws.one
  have oo := wo.one
  have cs := ws.cells
  have co := wo.cells
  obtain ⟨cp, es, vs, zs, e1, q2, q3, _⟩ := id ws
  obtain ⟨cp', eo, vo, zo, e2, p2, p3, _⟩ := id wo
  have ha : Fzs true h [.agg [.int .i64 x.epoch, sv, ov], .int .i64 nodes] [toldMp x, .int .i64 nodes] :=
    .cons (.agg (.cons (.int _ _) (.cons (ws.fz l0 rfl) (.cons (wo.fz l1 rfl) .nil)))) (.cons (.int _ _) .nil)
  have hp := mapMay_pu g (nodes := nodes) (tI_is h64s l2) (tI_is h64o l3)
  have kp : ∀ (w : List AV) (e v c : Nat), c ≠ N + 2 → (h.put (N + 2) (.cells w e v)).get c = h.get c := fun w e v c hc => by rw [Heap.get_put, if_neg hc]
  simp only [v32, rst, t1, t9, gd, RW, RX, VOp.fresh, bxC, bsC, un, most, callsOf, seval, Int.reducePow, ↓reduceIte, Nat.reduceEqDiff, reduceCtorEq]
  refine hp.cl ha fun y => ?_
  rintro ⟨bb, rfl, hb⟩
  cases bb with
  | false =>
    simp only [t6, gz, RW, RX, VOp.fresh, bxC, bsC, un, most, callsOf, seval, Int.reducePow, ↓reduceIte, Nat.reduceEqDiff, reduceCtorEq]
    exact q7 (fun ok => by simpa using hb.2 ok) _ ⟨by rw [put_next]; exact Nat.le_refl _, fun c hc => kp _ _ _ _ (by omega)⟩
  | true =>
    simp only [t6, t9, gd, gz, os, oo, cs, co, RW, RX, VOp.fresh, bxC, bsC, un, most, callsOf, seval, Int.reducePow, ↓reduceIte, Nat.reduceEqDiff, reduceCtorEq]
    have f : ∀ {l v b} (w : List AV) (e ver : Nat), b ≠ N + 2 → WRow h (N + 3) l v b → WRow (h.put (N + 2) (.cells w e ver)) N l v b := fun w e ver hb wr => by
      obtain ⟨cap, e1, ver1, z, h1, h2, h3, h4⟩ := wr.frame (h' := h.put (N + 2) (.cells w e ver)) (by rw [put_next]; exact Nat.le_refl _) (kp _ _ _ _ hb)
      exact ⟨cap, e1, ver1, z, h1, by omega, h3, h4⟩
    refine qY (hb.1 rfl) _ sv ov b b' (f _ _ _ (by omega) ws) (f _ _ _ (by omega) wo) hne ⟨by rw [put_next]; exact Nat.le_refl _, fun c hc => kp _ _ _ _ (by omega)⟩
end
end Go.Proofs.Ythmkenkjfmbkiaa.VM
namespace Go.Proofs.Ythmkenkjfmbkiaa.VM
attribute [local irreducible] Af Nx EvO Ev Un Gd Cd EvR EvQ EvC Nc Gc Lp EvM NxM AfM GdM EvMR EvMQ EvMD EvMC Nm Gm
section
variable {P : Program} {h : Heap} {m : Mp} {v u : AV} {k a t nodes : Int}
theorem chgR_ok (hv : IsL 8 RInt v m.starts) (hu : IsL 8 RInt u m.owners) {i : Nat} (hk : 0 ≤ k ∧ k ≤ 2) (ha : I64 a) (ht : I64 t) (hi : IxAt m.starts a i) (hls : m.starts.length ≤ 32) (hlo : m.owners.length = m.starts.length) (hn : ¬ (k = 2 ∧ i + 1 = m.starts.length)) :
    (∀ y ∈ (chgR m k a t i).starts, I64 y) ∧ (∀ y ∈ (chgR m k a t i).owners, I64 y) ∧ 0 < (chgR m k a t i).starts.length ∧ 0 < (chgR m k a t i).owners.length ∧ (chgR m k a t i).starts.length ≤ 1000000 ∧ (chgR m k a t i).owners.length ≤ 1000000 := by
  have v64 := isL_i64 hv
  have u64 := isL_i64 hu
  have hi1 := hi.1
  unfold chgR
  split
  · have li : (ins m.starts (i + 1) a).length = m.starts.length + 1 := ins_len (by omega) _
    have lo : (ins m.owners (i + 1) (m.owners.getD i 0)).length = m.owners.length + 1 := ins_len (by omega) _
    refine ⟨fun y hy => (mem_ins hy).elim (fun e => e ▸ ha) (v64 y), fun y hy => (mem_ins hy).elim (fun e => e ▸ u64 _ (getD_mem (by omega))) (u64 y), ?_, ?_, ?_, ?_⟩ <;> simp only [li, lo] <;> omega
  · split
    · refine ⟨v64, fun y hy => (List.mem_or_eq_of_mem_set hy).elim (u64 y) (fun e => e ▸ ht), ?_, ?_, ?_, ?_⟩ <;> simp only [List.length_set] <;> omega
    · have li : (m.starts.eraseIdx (i + 1)).length = m.starts.length - 1 := List.length_eraseIdx_of_lt (by omega)
      have lo : (m.owners.eraseIdx (i + 1)).length = m.owners.length - 1 := List.length_eraseIdx_of_lt (by omega)
      refine ⟨fun y hy => v64 y (List.mem_of_mem_eraseIdx hy), fun y hy => u64 y (List.mem_of_mem_eraseIdx hy), ?_, ?_, ?_, ?_⟩ <;> simp only [li, lo] <;> omega
theorem change_cl (g : Pg P tab) (hins : InsOk P) (hv : IsL 8 RInt v m.starts) (hu : IsL 8 RInt u m.owners) (ha : I64 a) (ht : I64 t) {Q : AV → Heap → Prop}
    (q7 : ∀ h' e, Ext h h' → ChErr nodes m k a t e → Q (.tup [.agg z3, .int .i64 e]) h')
    (qY : ∀ h' i sv ov b b', ChYes nodes m k a t i → WRow h' h.next (chgR m k a t i).starts sv b → WRow h' h.next (chgR m k a t i).owners ov b' → b ≠ b' → Ext h h' → Q (.tup [.agg [.int .i64 (chgR m k a t i).epoch, sv, ov], .int .i64 0]) h') :
    Cl P 32 [.agg [.int .i64 m.epoch, v, u], .int .i64 nodes, .agg [.int .i64 k, .int .i64 a, .int .i64 t]] h Q := by
  refine g.cl (vf := v32) rfl rfl ?_
  have e0 : v32.body = .seq (blkC 0) (.seq (blkC 1) (.seq (blkC 2) (.seq (blkC 3) (.seq (blkC 4) (.seq (blkC 5) (rst 6 v32.body)))))) := rfl
  rw [e0]
  refine chg_a g hv hu (fun h' e x c => q7 h' e x (c.elim .inl fun c => .inr (.inl c))) ?_
  rintro pre he s2 h2 i sv ov hi t1 t3 t5 t6 t8 ⟨d, t9, hd, H, b, b', ws, wo, hne, hbd, hbd', e1, w1, e2, w2, g1, g2, rfl, rfl⟩ x2
  have x2n := x2.1
  obtain ⟨⟨p1, p2, p3, p4, p5, p6, p7, p8, p9⟩, k0, k2, a0, a1⟩ := id pre
  have hi1 := hi.1
  -- what is left
  have rest : ¬ (k = 2 ∧ i + 1 = m.starts.length) → ∀ s' h', (∀ j, j < 10 → sg s' j = sg s2 j) → CS h' h.next d m (chgR m k a t i) v u k a t → h2.next ≤ h'.next → (∀ c, c < h.next → h'.get c = h2.get c) → Ev P (rst 6 v32.body) s' h' (Un P [] (Fin v32.res Q)) := fun hn s' h' ks c3 n3 k3 => by
    obtain ⟨r1, r2, r3, r4, r5, r6⟩ := chgR_ok hv hu ⟨k0, k2⟩ ha ht hi p6 p7 hn
    refine chg_c g ((ks 1 (by omega)).trans t1) ((ks 6 (by omega)).trans t6) ((ks 9 (by omega)).trans t9) c3 r1 r2 r3 r4 r5 r6 (fun no h4 x4 => ?_) fun ok h4 sv ov b b' ws wo hne x4 => ?_
    · exact q7 h4 700 ⟨Nat.le_trans (Nat.le_trans x2n n3) x4.1, fun c hc => (x4.2 c hc).trans ((k3 c hc).trans (x2.2 c hc))⟩ (.inr (.inr ⟨pre, he, rfl, i, hi, .inr no⟩))
    · exact qY h4 i sv ov b b' ⟨pre, he, hi, hn, ok⟩ ws wo hne ⟨Nat.le_trans (Nat.le_trans x2n n3) x4.1, fun c hc => (x4.2 c hc).trans ((k3 c hc).trans (x2.2 c hc))⟩
  by_cases c0 : k = 0
  · subst c0
    rw [ev_seq]
    refine chg_split g hins t3 t5 t8 t9 hd H hu p6 p7 ws wo hne hbd hbd' g1 g2 rfl rfl hi1 fun s' h' ks c3 n3 k3 => ?_
    rw [un_seq]; exact rest (by simp) s' h' ks c3 n3 k3
  by_cases c1 : k = 1
  · subst c1
    rw [ev_seq]
    refine chg_give g t5 t8 t9 hd H ws wo hne hbd hbd' g2 rfl (by omega) fun s' h' ks c3 n3 k3 => ?_
    rw [un_seq]; exact rest (by simp) s' h' ks c3 n3 k3
  obtain rfl : k = 2 := by omega
  by_cases hl : i + 1 = m.starts.length
  · obtain ⟨ec, vc, gc⟩ := H.get (b := h.next + 1) (.tail _ (.tail _ (.head _)))
    obtain ⟨em, vm, gm⟩ := H.get (b := h.next) (.tail _ (.head _))
    obtain ⟨ez, vz, gz⟩ := H.get (b := h.next + 2) (.tail _ (.tail _ (.tail _ (.head _))))
    have w1 : IntKind.i64.wrap ((i : Int) + 1) = ((m.starts.length : Nat) : Int) := by rw [w64 (by omega) (by omega)]; omega
    simp only [blkC, v32, blk, t3, t5, t6, t8, t9, gc, gm, gz, hv.len, w1, RW, RX, VOp.fresh, bxC, bsC, un, most, callsOf, seval, Int.reducePow, ↓reduceIte, Nat.reduceEqDiff, reduceCtorEq]
    exact q7 _ 700 ⟨by rw [put_next]; exact x2n, fun c hc => by rw [Heap.get_put, if_neg (by omega)]; exact x2.2 c hc⟩ (.inr (.inr ⟨pre, he, rfl, i, hi, .inl ⟨rfl, hl⟩⟩))
  · rw [ev_seq]
    refine chg_join g t3 t5 t8 t9 hd H hv p6 p7 ws wo hne hbd hbd' g1 g2 rfl rfl (by omega) fun s' h' ks c3 n3 k3 => ?_
    rw [un_seq]; exact rest (by simp; exact hl) s' h' ks c3 n3 k3
end
end Go.Proofs.Ythmkenkjfmbkiaa.VM
namespace Go.Proofs.Ythmkenkjfmbkiaa.VM
attribute [local irreducible] Af Nx EvO Ev Un Gd Cd EvR EvQ EvC Nc Gc Lp EvM NxM AfM GdM EvMR EvMQ EvMD EvMC Nm Gm
/-- slices.Insert, told -/
def insX : Told := fun f args h => bif Nat.beq f 60 then
    match args with
    | [.sl b 0 n cap 1, .int .i64 (.ofNat i), .sl vb 0 1 1 1] => match h.get b, h.get vb with
      | some (.cells cs _ _), some (.cells [x] _ _) => bif Nat.beq cs.length n && cs.all AV.one && x.one && Nat.ble i n && !(Nat.beq vb b) && Nat.ble n 999999 then
          some (.sl h.next 0 (n + 1) (n + 1) 1, (h.put b .dead).mk' h.next (.cells (cs.take i ++ x :: cs.drop i) 3 0)) else none
      | _, _ => none
    | _ => none
  else none
theorem insX_ok {P : Program} (hins : InsOk P) : CallOk P insX := by
  intro f args h v h' e
  unfold insX at e
  rw [T.beq_dec] at e
  by_cases hf : f = 60
  · rw [decide_eq_true hf, cond_true] at e
    subst hf
    split at e
    · split at e
      · rename_i b n cap i vb _ _ cs e1 w1 x e2 w2 g1 g2
        cases hc : (Nat.beq cs.length n && cs.all AV.one && x.one && Nat.ble i n && !(Nat.beq vb b) && Nat.ble n 999999) with
        | false => rw [hc, cond_false] at e; cases e
        | true =>
          rw [hc, cond_true] at e
          cases e
          simp only [Bool.and_eq_true, Bool.not_eq_true', Nat.beq_eq, Nat.ble_eq] at hc
          obtain ⟨⟨⟨⟨⟨a1, a2⟩, a3⟩, a4⟩, a5⟩, a6⟩ := hc
          exact hins g1 a1 a2 a3 a4 g2 (fun e => by rw [e, Nat.beq_refl] at a5; cases a5) (by omega)
      · cases e
    · cases e
  · rw [decide_eq_false hf, cond_false] at e; cases e
section
variable {P : Program} {F : Nat → Option VFun}
theorem Pg.runX (g : Pg P F) {X : Told} (hX : CallOk P X) {n f : Nat} {args : List AV} {w : AV} (hv : (vcall F X n f args ⟨0, .e⟩).bind (fun r => fz false r.2 40 r.1) = some w) : Pu P f args (fun v => v = w) := by
  obtain ⟨⟨v, h'⟩, e1, e2⟩ := Option.bind_eq_some_iff.1 hv
  exact ⟨_, _, h', (vm_ok (drawn_ok g.hm) g.tb hX n).2.2 f args _ _ _ e1, fz_ok _ _ _ e2, rfl⟩
end
end Go.Proofs.Ythmkenkjfmbkiaa.VM
namespace Go.Proofs.Ythmkenkjfmbkiaa.VM
attribute [local irreducible] Af Nx EvO Ev Un Gd Cd EvR EvQ EvC Nc Gc Lp EvM NxM AfM GdM EvMR EvMQ EvMD EvMC Nm Gm
section
variable {P : Program}
theorem mpOk.eight {nodes : Int} {m : Mp} (h : mpOk nodes m) : mpOk 8 m := by
  obtain ⟨p1, p2, p3, p4, p5, p6, p7, p8, p9⟩ := h
  exact ⟨by omega, by omega, p3, p4, p5, p6, p7, p8, fun i hi => let ⟨a, b, c, d⟩ := p9 i hi; ⟨a, b, c, by omega⟩⟩
end
end Go.Proofs.Ythmkenkjfmbkiaa.VM
namespace Go.Proofs.Ythmkenkjfmbkiaa.VM
attribute [local irreducible] Af Nx EvO Ev Un Gd Cd EvR EvQ EvC Nc Gc Lp EvM NxM AfM GdM EvMR EvMQ EvMD EvMC Nm Gm
/-- a struct handed over -/
theorem open_agg {w : World} {v : Value} {avs : List AV} (h : VRs none0 w avs v.cells.toList) (hl : avs.length ≠ 1) : VR none0 w (.agg avs) v := by
  cases v with
  | agg cs => exact .agg h
  | _ => exact absurd h.length hl
theorem wMap {c : List AV} (h : Ws [.int .i64, .sl 8 [.int .i64], .sl 8 [.int .i64]] c) : ∃ (m : Mp) (v u : AV), c = [.int .i64 m.epoch, v, u] ∧ IsL 8 RInt v m.starts ∧ IsL 8 RInt u m.owners ∧ I64 m.epoch := by
  cases h with | cons h1 t => cases t with | cons h2 t => cases t with | cons h3 t =>
    cases t; cases h1 with | int _ n1 w1 =>
      obtain ⟨l7, e7⟩ := h2.isL wInt
      obtain ⟨l8, e8⟩ := h3.isL wInt
      exact ⟨⟨n1, l7, l8⟩, _, _, rfl, e7, e8, i64_wf w1⟩
end Go.Proofs.Ythmkenkjfmbkiaa.VM
namespace Go.Proofs.Ythmkenkjfmbkiaa.VM
attribute [local irreducible] Af Nx EvO Ev Un Gd Cd EvR EvQ EvC Nc Gc Lp EvM NxM AfM GdM EvMR EvMQ EvMD EvMC Nm Gm
theorem mpOk.i64 {m : Mp} (ok : mpOk 8 m) : (∀ y ∈ m.starts, I64 y) ∧ (∀ y ∈ m.owners, I64 y) := by
  have rise := ok.rise
  obtain ⟨p1, p2, p3, p4, p5, p6, p7, p8, p9⟩ := ok
  have gi : ∀ {l : List Int} {y : Int}, y ∈ l → ∃ i, i < l.length ∧ l.getD i 0 = y := fun {l y} hy => by
    obtain ⟨i, hi, e⟩ := List.getElem_of_mem hy
    exact ⟨i, hi, by rw [List.getD_eq_getElem?_getD, List.getElem?_eq_getElem hi]; exact e⟩
  constructor
  · intro y hy
    obtain ⟨i, hi, rfl⟩ := gi hy
    have h1 := (p9 i hi).1
    have h2 : 0 ≤ m.starts.getD i 0 := by
      rcases Nat.eq_zero_or_pos i with h | h
      · rw [h, p8]; exact Int.le_refl _
      · have := rise.lt h hi
        rw [p8] at this; omega
    exact ⟨by omega, by omega⟩
  · intro y hy
    obtain ⟨i, hi, rfl⟩ := gi hy
    have h1 := (p9 i (by omega)).2.2
    exact ⟨by omega, by omega⟩
end Go.Proofs.Ythmkenkjfmbkiaa.VM
namespace Go.Proofs.Ythmkenkjfmbkiaa.VM
attribute [local irreducible] Af Nx EvO Ev Un Gd Cd EvR EvQ EvC Nc Gc Lp EvM NxM AfM GdM EvMR EvMQ EvMD EvMC Nm Gm
section
variable {P : Program}
theorem clonePts_cl (g : Pg P tab) {r : List Pt} {w : AV} (hw : IsL 16 RPt w r) {h : Heap} {Q : AV → Heap → Prop}
    (q : ∀ v t h', Lv h' (h.next ≤ ·) v t → IsL 16 RPt t r → v.cells = some [v] → v.one = true → Ext h h' → Q v h') : Cl P 72 [w] h Q := by
  refine g.cl (vf := v72) rfl rfl ?_
  have hx := hw
  obtain ⟨hb, ⟨rfl, hl⟩ | ⟨c, rfl, hc⟩⟩ := hw
  · have e : eqv .sl .nils .nils = some true := rfl
    simp only [v72, HE, e, RX, VOp.fresh, bxC, bsC, un, most, callsOf, seval, Int.reducePow, ↓reduceIte, Nat.reduceEqDiff, reduceCtorEq]
    exact q .nils .nils _ .nils ⟨hb, .inl ⟨rfl, hl⟩⟩ rfl rfl (Ext.refl h)
  · have e : eqv .sl (.rs c r.length) .nils = some false := rfl
    have x1 := Ext.mk (h := h) (.cells [] 61 0)
    have n1 : (h.mk' h.next (.cells [] 61 0)).next = h.next + 1 := by rw [mk_next]; omega
    obtain ⟨v, h', t, a1, a2, a3, a4, a5, a6, a7⟩ := app_copy (bytes := 16) plainPt hx (h := h.mk' h.next (.cells [] 61 0)) (b := h.next) (by rw [Heap.get_mk, if_pos rfl]) 61
    rw [n1] at a2 a3 a4
    simp only [v72, HE, e, a1, RX, VOp.fresh, bxC, bsC, un, most, callsOf, seval, Int.reducePow, ↓reduceIte, Nat.reduceEqDiff, reduceCtorEq]
    exact q v t h' (a4.weak fun c hc _ => by omega) a5 a6 a7 ⟨by omega, fun b hb => (a3 b (by omega) (by omega)).trans (x1.2 b hb)⟩
theorem fcopy_loop (g : Pg P tab) {rs : List (List Pt)} {w : AV} (hw : IsL 24 RRing w rs) {R : Nat} (n : Nat) :
    ∀ (i : Nat) (A U : List AV) (s : T AV) (h : Heap) (k : List Fr) (Q : Ex → T AV → Heap → Prop), i + n = rs.length → R < h.next → (∃ e ver, h.get R = some (.cells (A ++ List.replicate n .nils) e ver)) → A.length = i → A.all AV.one = true → Lvs h (R < ·) A U → Cat RRing (rs.take i) U →
    sg s 3 = .sl R 0 rs.length rs.length 1 → sg s 11 = w → sg s 12 = .int .i64 rs.length → sg s 13 = .int .i64 i →
    (∀ s' h' A' U', (∃ e ver, h'.get R = some (.cells A' e ver)) → A'.length = rs.length → A'.all AV.one = true → Lvs h' (R < ·) A' U' → Cat RRing rs U' → (∀ b, b < h.next → b ≠ R → h'.get b = h.get b) → h.next ≤ h'.next → (∀ j, j < 4 → sg s' j = sg s j) → Un P k Q (.exit 0) s' h') → Lp P b46_0 s h (Un P k Q) := by
  have hbd := hw.bound (by decide)
  induction n with
  | zero =>
    intro i A U s h k Q hi hR ⟨e, ver, hg⟩ hA ho lv hc t3 t11 t12 t13 hQ
    refine g.lpe b46_0.eq_1 ?_
    have c1 : ¬ ((i : Int) < (rs.length : Int)) := by omega
    simp only [t3, t11, t12, t13, c1, RX, VOp.fresh, bxC, bsC, un, most, callsOf, seval, Int.reducePow, ↓reduceIte, Nat.reduceEqDiff, reduceCtorEq]
    have hi' : i = rs.length := by omega
    subst hi'
    rw [List.take_length] at hc
    rw [List.replicate_zero, List.append_nil] at hg
    exact hQ _ _ A U ⟨e, ver, hg⟩ hA ho lv hc (fun _ _ _ => rfl) (Nat.le_refl _) fun j hj => by simp only [sg_set]; repeat rw [if_neg (by omega)]
  | succ n ih =>
    intro i A U s h k Q hi hR ⟨e, ver, hg⟩ hA ho lv hc t3 t11 t12 t13 hQ
    refine g.lpe b46_0.eq_1 ?_
    have c1 : ((i : Int) < (rs.length : Int)) := by omega
    have w1 : IntKind.i64.wrap ((i : Int) + 1) = ((i + 1 : Nat) : Int) := by rw [w64 (by omega) (by omega)]; push_cast; rfl
    obtain ⟨ci, rr, ⟨va, rfl, hr⟩, hat⟩ := hw.at (fun a c ⟨v, e, _⟩ => by rw [e]; rfl) i (by omega)
    simp only [t3, t11, t12, t13, c1, hat, RX, VOp.fresh, bxC, bsC, un, most, callsOf, seval, Int.reducePow, ↓reduceIte, Nat.reduceEqDiff, reduceCtorEq]
    refine clonePts_cl g hr fun v t h1 lv1 is1 cl1 on1 x1 => ?_
    have hg1 := (x1.2 R hR).trans hg
    have hia : ∀ (hh : Heap) (q : IntKind), iaV hh 1 none (.sl R 0 rs.length rs.length 1) (.int q (i : Int)) = .val (.ptr R i) hh := fun hh q => by
      have : 0 ≤ (i : Int) ∧ (i : Int) < (rs.length : Int) ∧ 1 = 1 := ⟨by omega, by omega, rfl⟩
      simp only [iaV, this, and_self, if_true, Int.toNat_natCast, Nat.zero_add, Nat.mul_one]
    have hwr := wr_at hg1 (show i < (A ++ List.replicate (n + 1) AV.nils).length by rw [List.length_append, hA, List.length_replicate]; omega) on1
    have hset : (A ++ List.replicate (n + 1) AV.nils).set i v = (A ++ [v]) ++ List.replicate n AV.nils := by
      rw [List.set_append, if_neg (by omega), hA, Nat.sub_self, List.replicate_succ, List.set_cons_zero, List.append_assoc]; rfl
    rw [hset] at hwr
    have kp : ∀ c, c ≠ R → (h1.put R (.cells ((A ++ [v]) ++ List.replicate n AV.nils) e (ver + 1))).get c = h1.get c := fun c hc => by rw [Heap.get_put, if_neg hc]
    simp only [t3, t11, t12, t13, hia, hwr, cl1, w1, RW, RX, VOp.fresh, bxC, bsC, un, most, callsOf, seval, Int.reducePow, ↓reduceIte, Nat.reduceEqDiff, reduceCtorEq]
    refine ih (i + 1) (A ++ [v]) (U ++ [t]) _ _ k Q (by omega) (by rw [put_next]; exact Nat.lt_of_lt_of_le hR x1.1) ⟨e, ver + 1, by rw [Heap.get_put, if_pos rfl]⟩ (by rw [List.length_append, hA]; rfl) (by rw [List.all_append, ho]; simp [on1]) ?_ (hc.take (by omega) ⟨t, rfl, is1⟩) ?_ ?_ ?_ ?_ fun s' h' A' U' q1 q2 q3 q4 q5 q6 q7 q8 => ?_
    · have l1 : Lvs h1 (R < ·) (A ++ [v]) (U ++ [t]) := (lv.frame x1.1 fun b _ hb => x1.2 b hb).app (.cons (lv1.weak fun b hb _ => by omega) .nil)
      exact l1.frame (by rw [put_next]; exact Nat.le_refl _) fun b hb _ => kp b (by omega)
    · simp only [t3, sg_set, Nat.reduceEqDiff, ↓reduceIte]
    · simp only [t11, sg_set, Nat.reduceEqDiff, ↓reduceIte]
    · simp only [t12, sg_set, Nat.reduceEqDiff, ↓reduceIte]
    · simp only [sg_set, Nat.reduceEqDiff, ↓reduceIte]
    · refine hQ s' h' A' U' q1 q2 q3 q4 q5 (fun b hb hne => ?_) (by rw [put_next] at q7; exact Nat.le_trans x1.1 q7) fun j hj => ?_
      · rw [q6 b (by rw [put_next]; exact Nat.lt_of_lt_of_le hb x1.1) hne, kp b hne]; exact x1.2 b hb
      · rw [q8 j hj]; simp only [sg_set]; repeat rw [if_neg (by omega)]
theorem fcopy_cl (g : Pg P tab) {f : Feat} {c : List AV} (hf : RFeat f c) {h : Heap} {Q : AV → Heap → Prop}
    (q : ∀ c' t h', Lvs h' (h.next ≤ ·) c' t → RFeat f t → c'.length = 3 → c'.all AV.one = true → Ext h h' → Q (.agg c') h') : Cl P 46 [.agg c] h Q := by
  obtain ⟨w, rfl, h1, h2, hw⟩ := hf
  refine g.cl (vf := v46) rfl rfl ?_
  have hbd := hw.bound (by decide)
  have mS : ∀ (H : Heap) (nm : Nat), mkS H nm [.nils] 62 24 (.int .i64 (f.rings.length : Int)) (.int .i64 (f.rings.length : Int)) = .val (.sl nm 0 f.rings.length f.rings.length 1) (H.mk' nm (.cells (List.replicate f.rings.length .nils) 62 0)) := fun H nm => by
    have := hw.1
    rw [reach_eq] at this
    rw [mkS_ok (by omega) (by rw [Int.toNat_natCast]; omega) (by rw [Int.toNat_natCast]; omega), Int.toNat_natCast]
    have : (List.replicate f.rings.length [AV.nils]).flatten = List.replicate f.rings.length AV.nils := by simp
    rw [this]; rfl
  have ow := isL_one hw
  simp only [v46, HN, hw.len, mS, RW, RX, VOp.fresh, bxC, bsC, un, most, callsOf, seval, Int.reducePow, ↓reduceIte, Nat.reduceEqDiff, reduceCtorEq]
  have g0 : ∀ (X : Blk), (((h.mk' h.next (.cells [.int .i64 f.id, .int .i64 f.shape, w] 50 0)).mk' (h.next + 1) (.cells [.int .i64 0, .int .i64 0, .nils] 50 0)).mk' (h.next + 2) X).get h.next = some (.cells [.int .i64 f.id, .int .i64 f.shape, w] 50 0) := fun X => by
    rw [Heap.get_mk, if_neg (by omega), Heap.get_mk, if_neg (by omega), Heap.get_mk, if_pos rfl]
  have g1 : ∀ (X : Blk), (((h.mk' h.next (.cells [.int .i64 f.id, .int .i64 f.shape, w] 50 0)).mk' (h.next + 1) (.cells [.int .i64 0, .int .i64 0, .nils] 50 0)).mk' (h.next + 2) X).get (h.next + 1) = some (.cells [.int .i64 0, .int .i64 0, .nils] 50 0) := fun X => by
    rw [Heap.get_mk, if_neg (by omega), Heap.get_mk, if_pos rfl]
  have g2 : ∀ (X : Blk), (((h.mk' h.next (.cells [.int .i64 f.id, .int .i64 f.shape, w] 50 0)).mk' (h.next + 1) (.cells [.int .i64 0, .int .i64 0, .nils] 50 0)).mk' (h.next + 2) X).get (h.next + 2) = some X := fun X => by
    rw [Heap.get_mk, if_pos rfl]
  have n0 : ∀ (X : Blk), (((h.mk' h.next (.cells [.int .i64 f.id, .int .i64 f.shape, w] 50 0)).mk' (h.next + 1) (.cells [.int .i64 0, .int .i64 0, .nils] 50 0)).mk' (h.next + 2) X).next = h.next + 3 := fun X => by rw [mk_next, mk_next, mk_next]; omega
  have x0 : ∀ (X : Blk), Ext h (((h.mk' h.next (.cells [.int .i64 f.id, .int .i64 f.shape, w] 50 0)).mk' (h.next + 1) (.cells [.int .i64 0, .int .i64 0, .nils] 50 0)).mk' (h.next + 2) X) := fun X => ((Ext.refl h).mkn (Nat.le_refl _) _ |>.mkn (by omega) _).mkn (by omega) _
  have g0' := g0 (.cells (List.replicate f.rings.length .nils) 62 0)
  have g1' := g1 (.cells (List.replicate f.rings.length .nils) 62 0)
  have g2' := g2 (.cells (List.replicate f.rings.length .nils) 62 0)
  have n0' := n0 (.cells (List.replicate f.rings.length .nils) 62 0)
  have x0' := x0 (.cells (List.replicate f.rings.length .nils) 62 0)
  generalize ((h.mk' h.next (.cells [.int .i64 f.id, .int .i64 f.shape, w] 50 0)).mk' (h.next + 1) (.cells [.int .i64 0, .int .i64 0, .nils] 50 0)).mk' (h.next + 2) (.cells (List.replicate f.rings.length .nils) 62 0) = H at *
  clear g0 g1 g2 n0 x0
  refine fcopy_loop g hw (R := h.next + 2) f.rings.length 0 [] [] _ H _ _ (by omega) (by omega) ⟨62, 0, g2'⟩ rfl rfl .nil .nil ?_ ?_ ?_ ?_ fun s' h' A U ⟨e, ver, hA⟩ hl ho lv hc kp hn ks => ?_
  · simp only [sg_set, Nat.reduceEqDiff, ↓reduceIte]
  · simp only [sg_set, Nat.reduceEqDiff, ↓reduceIte]
  · simp only [sg_set, Nat.reduceEqDiff, ↓reduceIte]
  · simp only [sg_set, Nat.reduceEqDiff, ↓reduceIte]
    rfl
  have t1 : sg s' 1 = .ptr h.next 0 := (ks 1 (by decide)).trans (by simp only [sg_set, Nat.reduceEqDiff, ↓reduceIte])
  have t2 : sg s' 2 = .ptr (h.next + 1) 0 := (ks 2 (by decide)).trans (by simp only [sg_set, Nat.reduceEqDiff, ↓reduceIte])
  have t3 : sg s' 3 = .sl (h.next + 2) 0 f.rings.length f.rings.length 1 := (ks 3 (by decide)).trans (by simp only [sg_set, Nat.reduceEqDiff, ↓reduceIte])
  have gb := (kp h.next (by omega) (by omega)).trans g0'
  have gc := (kp (h.next + 1) (by omega) (by omega)).trans g1'
  simp only [t1, t2, t3, gb, gc, HN, RW, RX, VOp.fresh, bxC, bsC, un, most, callsOf, seval, Int.reducePow, ↓reduceIte, Nat.reduceEqDiff, reduceCtorEq]
  obtain ⟨tv, lr, ir⟩ : ∃ tv, Lv h' (h.next + 2 ≤ ·) (.sl (h.next + 2) 0 f.rings.length f.rings.length 1) tv ∧ IsL 24 RRing tv f.rings := by
    by_cases z : f.rings.length = 0
    · have z' : f.rings = [] := List.eq_nil_of_length_eq_zero z
      rw [z]
      exact ⟨.rs [] 0, ⟨[], .sl0, rfl, Own.nil, fun b hb => by simp at hb⟩, hw.1, .inr ⟨[], by rw [z], by rw [z']; exact .nil⟩⟩
    · refine ⟨.rs U f.rings.length, ?_, hw.1, .inr ⟨U, rfl, hc⟩⟩
      have := LR.lv (h := h') (B := (h.next + 2 ≤ ·)) (v := .sl (h.next + 2) 0 f.rings.length f.rings.length 1) (sz := 1) (t := U) (n := f.rings.length) ⟨A, .inr ⟨_, e, ver, rfl, by omega, by omega, by rw [hl, Nat.mul_one], hA⟩, lv.weak fun b hb _ => ⟨by omega, by simp [blkOf]; omega⟩, fun b hb => by simp [blkOf] at hb; omega⟩
      rwa [cRow_s _ (by omega)] at this
  refine q [.int .i64 f.id, .int .i64 f.shape, .sl (h.next + 2) 0 f.rings.length f.rings.length 1] [.int .i64 f.id, .int .i64 f.shape, tv] _ (((Lvs.cons .int (.cons .int (.cons lr .nil))).put (by omega) _ |>.put (by omega) _).weak fun c hc _ => by omega) ⟨tv, rfl, h1, h2, ir⟩ rfl rfl ⟨by simp only [put_next]; omega, fun b hb => ?_⟩
  rw [Heap.get_put, if_neg (by omega), Heap.get_put, if_neg (by omega), kp b (by omega) (by omega)]
  exact x0'.2 b hb
end
end Go.Proofs.Ythmkenkjfmbkiaa.VM
namespace Go.Proofs.Ythmkenkjfmbkiaa.VM
attribute [local irreducible] Af Nx EvO Ev Un Gd Cd EvR EvQ EvC Nc Gc Lp EvM NxM AfM GdM EvMR EvMQ EvMD EvMC Nm Gm
theorem ic_bare : ∀ l : List Int, AV.bares (ic l) = true
  | [] => rfl
  | _ :: l => by
    show (AV.bare _ && AV.bares (ic l)) = true
    rw [ic_bare l]; rfl
theorem WRow.lv {h : Heap} {N b : Nat} {l : List Int} {v : AV} (w : WRow h N l v b) (h0 : 0 < l.length) : Lv h (· = b) v (tI l) := by
  obtain ⟨cap, e, ver, z, rfl, h2, h3, h4, h5⟩ := w
  refine ⟨[b], (Fd.sl (cs := ic l) (cs' := ic l) (D := []) h0 h3 h4 ?_ (Fds.tolds (ic_told l))).cast rfl, rfl, ?_, fun c hc => by simpa using hc⟩
  · rw [cut_eq, List.drop_zero, Nat.mul_one, List.take_left' (ic_len l), if_pos (ic_len l)]
  · intro c hc
    obtain rfl : c = b := by simpa using hc
    exact ⟨_, e, ver, h4, by rw [bares_app, ic_bare, h5]; rfl⟩
/-- what is put for a feature -/
def putF (f : Feat) : Op := ⟨0, f, 0, ⟨0, [], []⟩⟩
def mapO (M : Mp) : Op := ⟨2, ⟨0, 0, []⟩, 0, M⟩
def rsO (M : Mp) (fs : List Feat) : List Op := mapO M :: fs.map putF
def RPut (f : Feat) (c : List AV) : Prop := ∃ v, c = [.int .i64 0, .int .i64 f.id, .int .i64 f.shape, v, .int .i64 0, .int .i64 0, .nils, .nils] ∧ I64 f.id ∧ I64 f.shape ∧ IsL 24 RRing v f.rings
theorem RPut.op {f : Feat} {c : List AV} (h : RPut f c) : ROp (putF f) c := by
  obtain ⟨v, rfl, h1, h2, h3⟩ := h
  exact ⟨v, .nils, .nils, rfl, ⟨by show -9223372036854775808 ≤ (0 : Int); omega, by show (0 : Int) ≤ 9223372036854775807; omega⟩, h1, h2, h3, ⟨by show -9223372036854775808 ≤ (0 : Int); omega, by show (0 : Int) ≤ 9223372036854775807; omega⟩, ⟨by show -9223372036854775808 ≤ (0 : Int); omega, by show (0 : Int) ≤ 9223372036854775807; omega⟩, isL_nil 8 RInt, isL_nil 8 RInt⟩
theorem i64_0 : I64 0 := ⟨by omega, by omega⟩
theorem Cat.put {fs : List Feat} {tc : List AV} (h : Cat RPut fs tc) : Cat ROp (fs.map putF) tc := by
  induction h with
  | nil => exact .nil
  | cons h t ih => exact .cons h.op ih
section
variable {P : Program}
theorem rops_loop (g : Pg P tab) {fs : List Feat} {w : AV} (hw : IsL 40 RFeat w fs) (hsm : fs.length ≤ 31) {N0 : Nat} {T0 : List AV} (n : Nat) :
    ∀ (i : Nat) (tc : List AV) (s : T AV) (h : Heap) (k : List Fr) (Q : Ex → T AV → Heap → Prop), i + n = fs.length → N0 ≤ h.next → LR h (N0 ≤ ·) (sg s 12) 8 (T0 ++ tc) (i + 1) → Cat RPut (fs.take i) tc →
    sg s 32 = w → sg s 33 = .int .i64 fs.length → sg s 34 = .int .i64 i →
    (∀ s' h' tc', LR h' (N0 ≤ ·) (sg s' 12) 8 (T0 ++ tc') (fs.length + 1) → Cat RPut fs tc' → (∀ b, b < N0 → h'.get b = h.get b) → N0 ≤ h'.next → (∀ j, j < 10 → sg s' j = sg s j) → Un P k Q (.exit 0) s' h') → Lp P b14_0 s h (Un P k Q) := by
  induction n with
  | zero =>
    intro i tc s h k Q hi hh r hc t32 t33 t34 hQ
    refine g.lpe b14_0.eq_1 ?_
    have c1 : ¬ ((i : Int) < (fs.length : Int)) := by omega
    simp only [t32, t33, t34, c1, RX, VOp.fresh, bxC, bsC, un, most, callsOf, seval, Int.reducePow, ↓reduceIte, Nat.reduceEqDiff, reduceCtorEq]
    have hi' : i = fs.length := by omega
    subst hi'
    rw [List.take_length] at hc
    refine hQ _ _ _ ?_ hc (fun _ _ => rfl) hh fun j hj => by simp only [sg_set]; repeat rw [if_neg (by omega)]
    simp only [sg_set, Nat.reduceEqDiff, ↓reduceIte]
    exact r
  | succ n ih =>
    intro i tc s h k Q hi hh r hc t32 t33 t34 hQ
    refine g.lpe b14_0.eq_1 ?_
    have c1 : ((i : Int) < (fs.length : Int)) := by omega
    have w1 : IntKind.i64.wrap ((i : Int) + 1) = ((i + 1 : Nat) : Int) := by rw [w64 (by omega) (by omega)]; push_cast; rfl
    have hm : (i + 1 + 1) * 112 ≤ most2 := by unfold most2; omega
    obtain ⟨ci, rr, ⟨va, rfl, i1, i2, i3⟩, hat⟩ := hw.at zFeat i (by omega)
    have ova := isL_one i3
    simp only [t32, t33, t34, c1, hat, ova, HN, RW, RX, VOp.fresh, bxC, bsC, un, most, callsOf, seval, Int.reducePow, ↓reduceIte, Nat.reduceEqDiff, reduceCtorEq]
    refine fcopy_cl g (f := fs[i]) ⟨va, rfl, i1, i2, i3⟩ fun c1' t1 h1 lv1 is1 ln1 on1 e1 => ?_
    obtain ⟨x1, x2, x3, rfl⟩ := len3 ln1
    have on1' := on1
    simp only [List.all_cons, List.all_nil, Bool.and_true, Bool.and_eq_true] at on1'
    obtain ⟨o1, o2, o3⟩ := on1'
    have ne1 := e1.1
    simp only [put_next, mk_next] at ne1
    have xh : Ext h h1 := (((Ext.refl h).mkn (Nat.le_refl _) _).putn (Nat.le_refl _) _).trans e1
    have em := Ext.mk (h := h1) (.cells [.int .i64 0, x1, x2, x3, .int .i64 0, .int .i64 0, .nils, .nils] 52 0)
    have nb : (h1.mk' h1.next (.cells [.int .i64 0, x1, x2, x3, .int .i64 0, .int .i64 0, .nils, .nils] 52 0)).next = h1.next + 1 := by rw [mk_next]; omega
    have hlt := r.lt
    have r2 : LR h1 (N0 ≤ ·) (sg s 12) 8 (T0 ++ tc) (i + 1) := r.frame xh.1 fun b _ hb => xh.2 b hb
    have a0 : Lvs h1 (fun b => N0 ≤ b ∧ b ∉ blkOf (sg s 12)) [.int .i64 0, x1, x2, x3, .int .i64 0, .int .i64 0, .nils, .nils] ([.int .i64 0] ++ t1 ++ [.int .i64 0, .int .i64 0, .nils, .nils]) :=
      (Lvs.cons (l := []) .int .nil).app (lv1.weak fun b hb _ => ⟨by simp only [put_next, mk_next] at hb; omega, fun hc => by have := hlt b hc; simp only [put_next, mk_next] at hb; omega⟩) |>.app (.cons .int (.cons .int (.cons .nils (.cons .nils .nil))))
    have on8 : [AV.int .i64 0, x1, x2, x3, .int .i64 0, .int .i64 0, .nils, .nils].all AV.one = true := by simp only [List.all_cons, List.all_nil, one_int, o1, o2, o3, Bool.and_true, Bool.and_self]; rfl
    obtain ⟨H3, p3, r3, n3, k3⟩ := (r2.frame em.1 fun b _ hb => em.2 b hb).push (nb := h1.next) (eb := 52) (vb := 0) (c := [.int .i64 0, x1, x2, x3, .int .i64 0, .int .i64 0, .nils, .nils]) (by rw [Heap.get_mk, if_pos rfl]) rfl on8 (a0.frame em.1 fun b _ hb => em.2 b hb) (by rw [nb]; omega) (bytes := 112) hm 52
    rw [nb] at p3 r3 n3 k3
    have hv := r2.inB
    have kk3 : ∀ b, b < N0 → H3.get b = h.get b := fun b hb => (k3 b (fun hc => by have := hv b hc; omega) (by omega)).trans ((em.2 b (by omega)).trans (xh.2 b (by omega)))
    simp only [t32, t33, t34, o1, o2, o3, p3, w1, HN, RW, RX, VOp.fresh, bxC, bsC, un, most, callsOf, seval, Int.reducePow, ↓reduceIte, Nat.reduceEqDiff, reduceCtorEq]
    obtain ⟨tv, rfl, j1, j2, j3⟩ := is1
    refine ih (i + 1) (tc ++ [.int .i64 0, .int .i64 (fs[i]).id, .int .i64 (fs[i]).shape, tv, .int .i64 0, .int .i64 0, .nils, .nils]) _ H3 k Q (by omega) (by omega) ?_ (hc.take (by omega) ⟨tv, rfl, j1, j2, j3⟩) ?_ ?_ ?_ ?_
    · simp only [sg_set, Nat.reduceEqDiff, ↓reduceIte]
      rw [← List.append_assoc]
      exact r3
    · simp only [t32, sg_set, Nat.reduceEqDiff, ↓reduceIte]
    · simp only [t33, sg_set, Nat.reduceEqDiff, ↓reduceIte]
    · simp only [sg_set, Nat.reduceEqDiff, ↓reduceIte]
    · intro s' h' tc' q1 q2 q3 q4 q5
      exact hQ s' h' tc' q1 q2 (fun b hb => (q3 b hb).trans (kk3 b hb)) q4 fun j hj => by rw [q5 j hj]; simp only [sg_set]; repeat rw [if_neg (by omega)]
theorem IxErr {nodes k a t e : Int} {m : Mp} (c : ChErr nodes m k a t e) : e ≠ 0 ∧ ∀ i, ¬ ChYes nodes m k a t i := by
  rcases c with ⟨no, rfl⟩ | ⟨_, he, rfl⟩ | ⟨_, _, rfl, i, hi, no⟩
  · exact ⟨by omega, fun i y => no y.1⟩
  · exact ⟨by omega, fun i y => y.2.1 he⟩
  · refine ⟨by omega, fun j y => ?_⟩
    obtain rfl := y.2.2.1.uniq y.1.1.rise hi
    rcases no with no | no
    · exact y.2.2.2.1 no
    · exact no y.2.2.2.2
/-- when the shard is parted -/
def RsYes (nodes : Int) (m : Mp) (k a t : Int) (fs : List Feat) (i : Nat) : Prop := ChYes nodes m k a t i ∧ fs.length ≤ 31 ∧ opsOk nodes (rsO (chgR m k a t i) fs)
theorem rops_cl (g : Pg P tab) (hins : InsOk P) {m : Mp} {v u w : AV} {fs : List Feat} (hv : IsL 8 RInt v m.starts) (hu : IsL 8 RInt u m.owners) (hw : IsL 40 RFeat w fs) {nodes k a t : Int} (ha : I64 a) (ht : I64 t) {h : Heap} {Q : AV → Heap → Prop}
    (qN : ∀ h', Ext h h' → (∀ i, ¬ RsYes nodes m k a t fs i) → Q (.tup [.nils, .int .i64 2200]) h')
    (qY : ∀ h' i x tc, RsYes nodes m k a t fs i → LR h' (h.next ≤ ·) x 8 ([.int .i64 2, .int .i64 0, .int .i64 0, .nils, .int .i64 0, .int .i64 (chgR m k a t i).epoch, tI (chgR m k a t i).starts, tI (chgR m k a t i).owners] ++ tc) (fs.length + 1) → Cat RPut fs tc → Ext h h' → Q (.tup [x, .int .i64 0]) h') :
    Cl P 14 [.agg [.int .i64 m.epoch, v, u], .int .i64 nodes, .agg [.int .i64 k, .int .i64 a, .int .i64 t], w] h Q := by
  refine g.cl (vf := v14) rfl rfl ?_
  simp only [v14, HN, RW, RX, VOp.fresh, bxC, bsC, un, most, callsOf, seval, Int.reducePow, ↓reduceIte, Nat.reduceEqDiff, reduceCtorEq]
  have x0 : Ext h ((h.mk' h.next (.cells [.int .i64 m.epoch, v, u] 24 0)).mk' (h.next + 1) (.cells [.int .i64 k, .int .i64 a, .int .i64 t] 26 0)) := ((Ext.refl h).mkn (Nat.le_refl _) _).mkn (by omega) _
  have n0 : ((h.mk' h.next (.cells [.int .i64 m.epoch, v, u] 24 0)).mk' (h.next + 1) (.cells [.int .i64 k, .int .i64 a, .int .i64 t] 26 0)).next = h.next + 2 := by rw [mk_next, mk_next]; omega
  refine change_cl g hins hv hu ha ht ?_ ?_
  · intro h' e x c
    have x1 := x0.trans x
    obtain ⟨he, hno⟩ := IxErr c
    simp only [he, HN, RW, RX, VOp.fresh, bxC, bsC, un, most, callsOf, seval, Int.reducePow, ↓reduceIte, Nat.reduceEqDiff, reduceCtorEq]
    exact qN _ (((x0.trans x).mkn x1.1 _).putn x1.1 _) fun i y => hno i y.1
  · intro h' i sv ov b b' c ws wo hne x
    have x1 := x0.trans x
    have nx : h.next + 2 ≤ h'.next := by have := x.1; rw [n0] at this; exact this
    by_cases hl : 32 ≤ fs.length
    · have hl' : (32 : Int) ≤ (fs.length : Int) := by omega
      simp only [hw.len, hl', ws.one, wo.one, HN, RW, RX, VOp.fresh, bxC, bsC, un, most, callsOf, seval, Int.reducePow, ↓reduceIte, Nat.reduceEqDiff, reduceCtorEq]
      exact qN _ ((x1.mkn x1.1 _).putn x1.1 _) fun i y => by have := y.2.1; omega
    have hl' : ¬ (32 : Int) ≤ (fs.length : Int) := by omega
    obtain ⟨⟨⟨p1, p2, p3, p4, p5, p6, p7, p8, p9⟩, k0, k2, a0, a1⟩, he, hi, hn, ok⟩ := id c
    obtain ⟨r1, r2, r3, r4, r5, r6⟩ := chgR_ok hv hu ⟨k0, k2⟩ ha ht hi p6 p7 hn
    obtain ⟨z1, z2, z3', z4⟩ := id ok
    generalize hM : chgR m k a t i = M at *
    have os := ws.one
    have oo := wo.one
    rw [n0] at ws wo
    have bb : h.next + 2 ≤ b ∧ b < h'.next := by obtain ⟨_, _, _, _, _, q1, q2, _⟩ := id ws; exact ⟨q1, q2⟩
    have bb' : h.next + 2 ≤ b' ∧ b' < h'.next := by obtain ⟨_, _, _, _, _, q1, q2, _⟩ := id wo; exact ⟨q1, q2⟩
    simp only [hw.len, hl', os, oo, HN, RW, RX, VOp.fresh, bxC, bsC, un, most, callsOf, seval, Int.reducePow, ↓reduceIte, Nat.reduceEqDiff, reduceCtorEq]
    have xH : Ext h (((h'.mk' h'.next (.cells [.int .i64 0, .nils, .nils] 24 0)).put h'.next (.cells [.int .i64 M.epoch, sv, ov] 24 1)).mk' (h'.next + 1) (.cells [.int .i64 2, .int .i64 0, .int .i64 0, .nils, .int .i64 0, .int .i64 M.epoch, sv, ov] 52 0)) := ((x1.mkn x1.1 _).putn x1.1 _).mkn (by omega) _
    have kH : ∀ c, c < h'.next → (((h'.mk' h'.next (.cells [.int .i64 0, .nils, .nils] 24 0)).put h'.next (.cells [.int .i64 M.epoch, sv, ov] 24 1)).mk' (h'.next + 1) (.cells [.int .i64 2, .int .i64 0, .int .i64 0, .nils, .int .i64 0, .int .i64 M.epoch, sv, ov] 52 0)).get c = h'.get c := fun c hc => by rw [Heap.get_mk, if_neg (by omega), Heap.get_put, if_neg (by omega), Heap.get_mk, if_neg (by omega)]
    have gH : (((h'.mk' h'.next (.cells [.int .i64 0, .nils, .nils] 24 0)).put h'.next (.cells [.int .i64 M.epoch, sv, ov] 24 1)).mk' (h'.next + 1) (.cells [.int .i64 2, .int .i64 0, .int .i64 0, .nils, .int .i64 0, .int .i64 M.epoch, sv, ov] 52 0)).get (h'.next + 1) = some (.cells [.int .i64 2, .int .i64 0, .int .i64 0, .nils, .int .i64 0, .int .i64 M.epoch, sv, ov] 52 0) := by rw [Heap.get_mk, if_pos rfl]
    have nH : (((h'.mk' h'.next (.cells [.int .i64 0, .nils, .nils] 24 0)).put h'.next (.cells [.int .i64 M.epoch, sv, ov] 24 1)).mk' (h'.next + 1) (.cells [.int .i64 2, .int .i64 0, .int .i64 0, .nils, .int .i64 0, .int .i64 M.epoch, sv, ov] 52 0)).next = h'.next + 2 := by rw [mk_next, put_next, mk_next]; omega
    generalize ((h'.mk' h'.next (.cells [.int .i64 0, .nils, .nils] 24 0)).put h'.next (.cells [.int .i64 M.epoch, sv, ov] 24 1)).mk' (h'.next + 1) (.cells [.int .i64 2, .int .i64 0, .int .i64 0, .nils, .int .i64 0, .int .i64 M.epoch, sv, ov] 52 0) = H at *
    have lrow : LR H (h.next ≤ ·) (.sl (h'.next + 1) 0 1 1 8) 8 ([.int .i64 2, .int .i64 0, .int .i64 0, .nils, .int .i64 0, .int .i64 M.epoch, tI M.starts, tI M.owners] ++ []) (0 + 1) := by
      refine ⟨[.int .i64 2, .int .i64 0, .int .i64 0, .nils, .int .i64 0, .int .i64 M.epoch, sv, ov], .inr ⟨_, 52, 0, rfl, by omega, by omega, rfl, gH⟩, ?_, fun c hc => by simp [blkOf] at hc; omega⟩
      have l1 := ((ws.lv r3).frame (h' := H) (by omega) fun c hc hl => kH c hl).weak (B' := fun c => h.next ≤ c ∧ c ∉ blkOf (.sl (h'.next + 1) 0 1 1 8)) fun c hc _ => ⟨by omega, by simp [blkOf]; omega⟩
      have l2 := ((wo.lv r4).frame (h' := H) (by omega) fun c hc hl => kH c hl).weak (B' := fun c => h.next ≤ c ∧ c ∉ blkOf (.sl (h'.next + 1) 0 1 1 8)) fun c hc _ => ⟨by omega, by simp [blkOf]; omega⟩
      exact .cons .int (.cons .int (.cons .int (.cons .nils (.cons .int (.cons .int (.cons l1 (.cons l2 .nil)))))))
    refine rops_loop g hw (by omega) (N0 := h.next) (T0 := [.int .i64 2, .int .i64 0, .int .i64 0, .nils, .int .i64 0, .int .i64 M.epoch, tI M.starts, tI M.owners]) fs.length 0 [] _ H _ _ (by omega) (by omega) ?_ .nil ?_ ?_ ?_ fun s' h2 tc r hc hk hn2 ks => ?_
    · simp only [sg_set, Nat.reduceEqDiff, ↓reduceIte]
      exact lrow
    · simp only [sg_set, Nat.reduceEqDiff, ↓reduceIte]
    · simp only [sg_set, Nat.reduceEqDiff, ↓reduceIte]
    · simp only [sg_set, Nat.reduceEqDiff, ↓reduceIte]
      rfl
    have t1 : sg s' 1 = .int .i64 nodes := (ks 1 (by decide)).trans (by simp only [sg_set, Nat.reduceEqDiff, ↓reduceIte])
    have cop := Cat.put hc
    have isl : IsL 112 ROp (cRow ([.int .i64 2, .int .i64 0, .int .i64 0, .nils, .int .i64 0, .int .i64 M.epoch, tI M.starts, tI M.owners] ++ tc) (fs.length + 1)) (rsO M fs) := by
      have hl2 : (rsO M fs).length = fs.length + 1 := by simp [rsO]
      rw [← hl2]
      refine row_isL (by rw [hl2, reach_eq]; omega) (.cons (a := mapO M) ⟨.nils, tI M.starts, tI M.owners, rfl, ?_, ?_, ?_, isL_nil 24 RRing, ?_, (show I64 M.epoch from ⟨by omega, by omega⟩), tI_is r1 r5, tI_is r2 r6⟩ cop)
      · exact (show I64 2 from ⟨by omega, by omega⟩)
      all_goals exact i64_0
    have e2 : Ext h h2 := ⟨hn2, fun c hc => (hk c hc).trans (xH.2 c hc)⟩
    simp only [t1, RX, VOp.fresh, bxC, bsC, un, most, callsOf, seval, Int.reducePow, ↓reduceIte, Nat.reduceEqDiff, reduceCtorEq]
    refine (opsMay_pu g isl).cl (.cons r.lv.fz (.cons (.int _ _) .nil)) ?_
    rintro _ ⟨bb2, rfl, hb⟩
    cases bb2 with
    | false =>
      simp only [RX, VOp.fresh, bxC, bsC, un, most, callsOf, seval, Int.reducePow, ↓reduceIte, Nat.reduceEqDiff, reduceCtorEq]
      refine qN h2 e2 fun j y => ?_
      obtain rfl := y.1.2.2.1.uniq y.1.1.1.rise hi
      rw [RsYes, hM] at y
      simpa using hb.2 y.2.2
    | true =>
      simp only [RX, VOp.fresh, bxC, bsC, un, most, callsOf, seval, Int.reducePow, ↓reduceIte, Nat.reduceEqDiff, reduceCtorEq]
      exact qY h2 i _ tc ⟨by rw [← hM] at ok; exact ⟨⟨⟨p1, p2, p3, p4, p5, p6, p7, p8, p9⟩, k0, k2, a0, a1⟩, he, hi, hn, ok⟩, by omega, by rw [hM]; exact hb.1 rfl⟩ (by rw [hM]; exact r) hc e2
end
end Go.Proofs.Ythmkenkjfmbkiaa.VM
namespace Go.Proofs.Ythmkenkjfmbkiaa.VM
attribute [local irreducible] Af Nx EvO Ev Un Gd Cd EvR EvQ EvC Nc Gc Lp EvM NxM AfM GdM EvMR EvMQ EvMD EvMC Nm Gm
section
variable {h : Heap} {B : Nat → Prop}
theorem Lvs.uncons {cs k : List AV} {y : AV} (l : Lvs h B cs (y :: k)) : ∃ x c', cs = x :: c' ∧ Lv h B x y ∧ Lvs h B c' k := by
  obtain ⟨D, f, hb, own, i⟩ := l
  match f with
  | .cons (x := x) (l := c') f1 t =>
    simp only [AV.bares, Bool.and_eq_true] at hb
    exact ⟨x, c', rfl, ⟨_, f1, hb.1, fun b hb => own b (List.mem_append_left _ hb), fun b hb => i b (List.mem_append_left _ hb)⟩, ⟨_, t, hb.2, fun b hb => own b (List.mem_append_right _ hb), fun b hb => i b (List.mem_append_right _ hb)⟩⟩
theorem Lvs.drop {k : List AV} : ∀ (n : Nat) {cs : List AV}, Lvs h B cs k → Lvs h B (cs.drop n) (k.drop n) := by
  intro n
  induction n generalizing k with
  | zero => intro cs l; exact l
  | succ n ih =>
    intro cs l
    cases k with
    | nil =>
      obtain ⟨D, f, _⟩ := l
      cases f
      exact .nil
    | cons y k =>
      obtain ⟨x, c', rfl, lx, lt⟩ := l.uncons
      exact ih lt
theorem part3 {cs r : List AV} {m : Nat} {a b c : AV} (e : cs.drop m = a :: b :: c :: r) : part true cs m 3 = some (.agg [a, b, c]) := by
  simp [part, cut, e]
end
end Go.Proofs.Ythmkenkjfmbkiaa.VM
namespace Go.Proofs.Ythmkenkjfmbkiaa.VM
attribute [local irreducible] Af Nx EvO Ev Un Gd Cd EvR EvQ EvC Nc Gc Lp EvM NxM AfM GdM EvMR EvMQ EvMD EvMC Nm Gm
section
variable {P : Program}
theorem awake22_pu (g : Pg P tab) (hins : InsOk P) : Pu P 21 [] (fun v => v = .bool true) := g.runX (insX_ok hins) (n := 400) (by kernel_rfl)
end
end Go.Proofs.Ythmkenkjfmbkiaa.VM
namespace Go.Proofs.Ythmkenkjfmbkiaa.VM
attribute [local irreducible] Af Nx EvO Ev Un Gd Cd EvR EvQ EvC Nc Gc Lp EvM NxM AfM GdM EvMR EvMQ EvMD EvMC Nm Gm
theorem ChYes.eight {nodes k a t : Int} {m : Mp} {i : Nat} (c : ChYes nodes m k a t i) : ChYes 8 m k a t i := ⟨⟨c.1.1.eight, c.1.2⟩, c.2.1, c.2.2.1, c.2.2.2.1, c.2.2.2.2.eight⟩
theorem wFeatsL {c : List AV} (h : Ws [.sl 40 shFeat] c) : ∃ w l, c = [w] ∧ IsL 40 RFeat w l := by
  cases h with | cons h1 t =>
    cases t
    obtain ⟨l, hl⟩ := h1.isL wFeat
    exact ⟨_, l, rfl, hl⟩
end Go.Proofs.Ythmkenkjfmbkiaa.VM
namespace Go.Proofs.Ythmkenkjfmbkiaa.VM
attribute [local irreducible] Af Nx EvO Ev Un Gd Cd EvR EvQ EvC Nc Gc Lp EvM NxM AfM GdM EvMR EvMQ EvMD EvMC Nm Gm
section
variable {P : Program}
theorem rat_loop (g : Pg P tab) {m : Mp} {v u : AV} (hv : IsL 8 RInt v m.starts) (hr : Rise m.starts) (hlen : m.starts.length ≤ 32) {A : Int} {j : Nat} (hj : IxAt m.starts A j) {h : Heap} {b e ver : Nat} (hg : h.get b = some (.cells [.int .i64 m.epoch, v, u] e ver)) (r : Nat) : ∀ (n : Nat) (s : T AV) (k : List Fr) (Q : Ex → T AV → Heap → Prop), n + r = j → sg s 1 = .int .i64 A → sg s 2 = .ptr b 0 → sg s 5 = .int .i64 n →
    (∀ s', sg s' 5 = .int .i64 j → Un P k Q (.exit 0) s' h) → Lp P b56_0 s h (Un P k Q) := by
  have hj1 := hj.1
  induction r with
  | zero =>
    intro n s k Q hn t1 t2 t5 hK
    obtain rfl : n = j := by omega
    refine g.lpe b56_0.eq_1 ?_
    have w1 : IntKind.i64.wrap ((n : Int) + 1) = ((n + 1 : Nat) : Int) := by rw [w64 (by omega) (by omega)]; push_cast; rfl
    by_cases hl : n + 1 < m.starts.length
    · have c1 : ((n + 1 : Nat) : Int) < (m.starts.length : Int) := by omega
      obtain ⟨r1, _, g1⟩ := getInt hv (n + 1) hl
      have c2 : ¬ m.starts.getD (n + 1) 0 ≤ A := by have := hj.2.2 hl; omega
      simp only [t1, t2, t5, hg, hv.len, w1, c1, c2, g1, RX, VOp.fresh, bxC, bsC, un, most, callsOf, seval, Int.reducePow, ↓reduceIte, Nat.reduceEqDiff, reduceCtorEq]
      refine hK _ ?_
      simp only [t5, sg_set, Nat.reduceEqDiff, ↓reduceIte]
    · have c1 : ¬ ((n + 1 : Nat) : Int) < (m.starts.length : Int) := by omega
      simp only [t1, t2, t5, hg, hv.len, w1, c1, RX, VOp.fresh, bxC, bsC, un, most, callsOf, seval, Int.reducePow, ↓reduceIte, Nat.reduceEqDiff, reduceCtorEq]
      refine hK _ ?_
      simp only [t5, sg_set, Nat.reduceEqDiff, ↓reduceIte]
  | succ r ih =>
    intro n s k Q hn t1 t2 t5 hK
    refine g.lpe b56_0.eq_1 ?_
    have w1 : IntKind.i64.wrap ((n : Int) + 1) = ((n + 1 : Nat) : Int) := by rw [w64 (by omega) (by omega)]; push_cast; rfl
    have c1 : ((n + 1 : Nat) : Int) < (m.starts.length : Int) := by omega
    obtain ⟨r1, _, g1⟩ := getInt hv (n + 1) (by omega)
    have c2 : m.starts.getD (n + 1) 0 ≤ A := by
      rcases Nat.lt_or_ge (n + 1) j with e | e
      · have := hr.lt e hj1; have := hj.2.1; omega
      · rw [show n + 1 = j by omega]; exact hj.2.1
    simp only [t1, t2, t5, hg, hv.len, w1, c1, c2, g1, RX, VOp.fresh, bxC, bsC, un, most, callsOf, seval, Int.reducePow, ↓reduceIte, Nat.reduceEqDiff, reduceCtorEq]
    refine ih (n + 1) _ k Q (by omega) ?_ ?_ ?_ hK
    · simp only [t1, sg_set, Nat.reduceEqDiff, ↓reduceIte]
    · simp only [t2, sg_set, Nat.reduceEqDiff, ↓reduceIte]
    · simp only [sg_set, Nat.reduceEqDiff, ↓reduceIte]
theorem rat_pu (g : Pg P tab) {m : Mp} {v u : AV} (hv : IsL 8 RInt v m.starts) (hr : Rise m.starts) (hlen : m.starts.length ≤ 32) {A : Int} {j : Nat} (hj : IxAt m.starts A j) : Pu P 56 [.agg [.int .i64 m.epoch, v, u], .int .i64 A] (fun x => x = .int .i64 j) := by
  refine g.pu (vf := v56) rfl rfl ?_
  simp only [v56, RX, VOp.fresh, bxC, bsC, un, most, callsOf, seval, Int.reducePow, ↓reduceIte, Nat.reduceEqDiff, reduceCtorEq]
  refine rat_loop g hv hr hlen hj (b := 0) (e := 24) (ver := 0) (by rw [Heap.get_mk, if_pos rfl]) j 0 _ _ _ (by omega) ?_ ?_ ?_ fun s' t5 => ?_
  · simp only [sg_set, Nat.reduceEqDiff, ↓reduceIte]
  · simp only [sg_set, Nat.reduceEqDiff, ↓reduceIte]
  · simp only [sg_set, Nat.reduceEqDiff, ↓reduceIte]
    rfl
  · simp only [t5, RX, VOp.fresh, bxC, bsC, un, most, callsOf, seval, Int.reducePow, ↓reduceIte, Nat.reduceEqDiff, reduceCtorEq]
end
end Go.Proofs.Ythmkenkjfmbkiaa.VM
namespace Go.Proofs.Ythmkenkjfmbkiaa.VM
/-- stretches of the curve: from, to -/
abbrev Rgs := List (Int × Int)
def rHas (l : Rgs) (d : Int) : Prop := ∃ r ∈ l, r.1 ≤ d ∧ d < r.2
def Sep : Int → Rgs → Prop
  | _, [] => True
  | lo, r :: t => lo < r.1 ∧ r.1 < r.2 ∧ r.2 ≤ 4294967296 ∧ Sep r.2 t
theorem rHas_nil {d : Int} : ¬ rHas [] d := fun ⟨_, h, _⟩ => by simp at h
theorem rHas_cons {r : Int × Int} {t : Rgs} {d : Int} : rHas (r :: t) d ↔ (r.1 ≤ d ∧ d < r.2) ∨ rHas t d := by simp [rHas]
theorem rHas_app {x y : Rgs} {d : Int} : rHas (x ++ y) d ↔ rHas x d ∨ rHas y d := by
  simp only [rHas, List.mem_append]
  exact ⟨fun ⟨r, h, k⟩ => h.elim (fun h => .inl ⟨r, h, k⟩) fun h => .inr ⟨r, h, k⟩, fun h => h.elim (fun ⟨r, h, k⟩ => ⟨r, .inl h, k⟩) fun ⟨r, h, k⟩ => ⟨r, .inr h, k⟩⟩
theorem Sep.weak {t : Rgs} {a b : Int} (h : Sep a t) (c : b ≤ a) : Sep b t := by
  cases t with
  | nil => trivial
  | cons r t => exact ⟨by have := h.1; omega, h.2⟩
theorem Sep.gt : ∀ {t : Rgs} {a : Int}, Sep a t → ∀ r ∈ t, a < r.1 ∧ r.1 < r.2 ∧ r.2 ≤ 4294967296
  | [], _, _, _, hr => by simp at hr
  | q :: t, a, h, r, hr => by
    rcases List.mem_cons.1 hr with rfl | hr
    · exact ⟨h.1, h.2.1, h.2.2.1⟩
    · have := h.2.2.2.gt r hr
      have := h.1; have := h.2.1
      exact ⟨by omega, by omega, by omega⟩
theorem Sep.has {t : Rgs} {a d : Int} (h : Sep a t) (k : rHas t d) : a < d ∧ d < 4294967296 := by
  obtain ⟨r, hr, h1, h2⟩ := k
  have := h.gt r hr
  omega
theorem Sep.uniq : ∀ {x y : Rgs} {a : Int}, Sep a x → Sep a y → (∀ d, rHas x d ↔ rHas y d) → x = y
  | [], [], _, _, _, _ => rfl
  | [], r :: t, a, _, h2, e => absurd ((e r.1).2 (rHas_cons.2 (.inl ⟨Int.le_refl _, h2.2.1⟩))) rHas_nil
  | r :: t, [], a, h1, _, e => absurd ((e r.1).1 (rHas_cons.2 (.inl ⟨Int.le_refl _, h1.2.1⟩))) rHas_nil
  | r :: t, q :: u, a, h1, h2, e => by
    have k1 : r.1 = q.1 := by
      have a1 := (e r.1).1 (rHas_cons.2 (.inl ⟨Int.le_refl _, h1.2.1⟩))
      have a2 := (e q.1).2 (rHas_cons.2 (.inl ⟨Int.le_refl _, h2.2.1⟩))
      have b1 : q.1 ≤ r.1 := by
        rcases rHas_cons.1 a1 with c | c
        · exact c.1
        · have := h2.2.2.2.has c; have := h2.2.1; omega
      have b2 : r.1 ≤ q.1 := by
        rcases rHas_cons.1 a2 with c | c
        · exact c.1
        · have := h1.2.2.2.has c; have := h1.2.1; omega
      omega
    have k2 : r.2 = q.2 := by
      rcases Int.lt_trichotomy r.2 q.2 with c | c | c
      · have a1 := (e r.2).2 (rHas_cons.2 (.inl ⟨by have := h1.2.1; omega, c⟩))
        rcases rHas_cons.1 a1 with d | d
        · omega
        · have := h1.2.2.2.has d; omega
      · exact c
      · have a1 := (e q.2).1 (rHas_cons.2 (.inl ⟨by have := h2.2.1; omega, c⟩))
        rcases rHas_cons.1 a1 with d | d
        · omega
        · have := h2.2.2.2.has d; omega
    have k3 : r = q := Prod.ext k1 k2
    subst k3
    refine congrArg (r :: ·) (Sep.uniq h1.2.2.2 h2.2.2.2 fun d => ?_)
    have h3 := e d
    rw [rHas_cons, rHas_cons] at h3
    constructor
    · intro k
      rcases h3.1 (.inr k) with c | c
      · have := h1.2.2.2.has k; omega
      · exact c
    · intro k
      rcases h3.2 (.inr k) with c | c
      · have := h2.2.2.2.has k; omega
      · exact c
/-- one more, onto the last one if there is no gap -/
def addR : Rgs → Int × Int → Rgs
  | [], r => [r]
  | [q], r => if q.2 = r.1 then [(q.1, r.2)] else [q, r]
  | q :: q' :: t, r => q :: addR (q' :: t) r
theorem addR_cons {q : Int × Int} {t : Rgs} {r : Int × Int} (h : t ≠ []) : addR (q :: t) r = q :: addR t r := by
  cases t with
  | nil => exact absurd rfl h
  | cons q' t => rfl
theorem addR_snoc {l : Rgs} {q r : Int × Int} : addR (l ++ [q]) r = if q.2 = r.1 then l ++ [(q.1, r.2)] else l ++ [q] ++ [r] := by
  induction l with
  | nil => rfl
  | cons x l ih =>
    rw [List.cons_append, addR_cons (by simp), ih]
    by_cases e : q.2 = r.1
    · rw [if_pos e, if_pos e]; rfl
    · rw [if_neg e, if_neg e]; rfl
/-- what was gathered, up to a place -/
def Upto (l : Rgs) (a : Int) (S : Int → Prop) : Prop := Sep (-1) l ∧ (∀ r ∈ l, r.2 ≤ a) ∧ ∀ d, rHas l d ↔ 0 ≤ d ∧ d < a ∧ S d
theorem Upto.nil {S : Int → Prop} : Upto [] 0 S := ⟨trivial, fun r h => by simp at h, fun d => ⟨fun h => absurd h rHas_nil, fun h => by omega⟩⟩
theorem Sep.app : ∀ {x y : Rgs} {a b : Int}, Sep a x → (∀ r ∈ x, r.2 ≤ b) → a ≤ b → (x = [] → Sep a y) → Sep b y → Sep a (x ++ y)
  | [], _, _, _, _, _, _, h, _ => h rfl
  | [r], y, a, b, h1, h2, h3, _, h4 => ⟨h1.1, h1.2.1, h1.2.2.1, h4.weak (h2 r (.head _))⟩
  | r :: r' :: x, y, a, b, h1, h2, h3, _, h4 => ⟨h1.1, h1.2.1, h1.2.2.1, Sep.app (x := r' :: x) h1.2.2.2 (fun q hq => h2 q (.tail _ hq)) (h2 r (.head _)) (fun e => by cases e) h4⟩
theorem Upto.skip {l : Rgs} {a b : Int} {S : Int → Prop} (u : Upto l a S) (h : a ≤ b) (k : ∀ d, a ≤ d → d < b → ¬ S d) : Upto l b S := by
  obtain ⟨u1, u2, u3⟩ := u
  refine ⟨u1, fun r hr => by have := u2 r hr; omega, fun d => ?_⟩
  rw [u3]
  constructor
  · rintro ⟨h1, h2, h3⟩; exact ⟨h1, by omega, h3⟩
  · rintro ⟨h1, h2, h3⟩
    refine ⟨h1, ?_, h3⟩
    rcases Int.lt_or_le d a with c | c
    · exact c
    · exact absurd h3 (k d c h2)
theorem snoc_cases (l : Rgs) : l = [] ∨ ∃ m q, l = m ++ [q] := by
  rcases List.eq_nil_or_concat l with h | ⟨m, q, h⟩
  · exact .inl h
  · exact .inr ⟨m, q, by rw [h]; simp⟩
theorem Sep.snoc_inv : ∀ {m : Rgs} {q : Int × Int} {a : Int}, Sep a (m ++ [q]) → Sep a m ∧ a < q.1 ∧ q.1 < q.2 ∧ q.2 ≤ 4294967296 ∧ ∀ r ∈ m, r.2 < q.1
  | [], q, a, h => ⟨trivial, h.1, h.2.1, h.2.2.1, fun r hr => by simp at hr⟩
  | p :: m, q, a, h => by
    obtain ⟨h1, h2, h3, h4⟩ := h
    obtain ⟨k1, k2, k3, k4, k5⟩ := h4.snoc_inv
    refine ⟨⟨h1, h2, h3, k1⟩, by omega, k3, k4, fun r hr => ?_⟩
    rcases List.mem_cons.1 hr with rfl | hr
    · exact k2
    · exact k5 r hr
theorem Sep.snoc : ∀ {m : Rgs} {q : Int × Int} {a : Int}, Sep a m → a < q.1 → q.1 < q.2 → q.2 ≤ 4294967296 → (∀ r ∈ m, r.2 < q.1) → Sep a (m ++ [q])
  | [], q, a, _, h1, h2, h3, _ => ⟨h1, h2, h3, trivial⟩
  | p :: m, q, a, h, h1, h2, h3, h4 => ⟨h.1, h.2.1, h.2.2.1, h.2.2.2.snoc (h4 p (.head _)) h2 h3 fun r hr => h4 r (.tail _ hr)⟩
theorem Upto.add {l : Rgs} {a b : Int} {S : Int → Prop} (u : Upto l a S) (h0 : 0 ≤ a) (h : a < b) (hb : b ≤ 4294967296) (k : ∀ d, a ≤ d → d < b → S d) : Upto (addR l (a, b)) b S := by
  obtain ⟨u1, u2, u3⟩ := u
  have key : ∀ d, (rHas l d ∨ a ≤ d ∧ d < b) ↔ 0 ≤ d ∧ d < b ∧ S d := by
    intro d
    rw [u3]
    constructor
    · rintro (⟨h1, h2, h3⟩ | ⟨h1, h2⟩)
      · exact ⟨h1, by omega, h3⟩
      · exact ⟨by omega, h2, k d h1 h2⟩
    · rintro ⟨h1, h2, h3⟩
      rcases Int.lt_or_le d a with c | c
      · exact .inl ⟨h1, c, h3⟩
      · exact .inr ⟨c, h2⟩
  rcases snoc_cases l with rfl | ⟨m, q, rfl⟩
  · refine ⟨⟨by show -1 < a; omega, h, hb, trivial⟩, fun r hr => by simp [addR] at hr; subst hr; exact Int.le_refl _, fun d => ?_⟩
    rw [← key]
    simp [addR, rHas]
  · obtain ⟨s1, s2, s3, s4, s5⟩ := u1.snoc_inv
    have hq := u2 q (by simp)
    rw [addR_snoc]
    by_cases e : q.2 = a
    · rw [if_pos e]
      refine ⟨s1.snoc s2 (by show q.1 < b; omega) hb s5, fun r hr => ?_, fun d => ?_⟩
      · rcases List.mem_append.1 hr with hr | hr
        · have := u2 r (List.mem_append_left _ hr); omega
        · simp at hr; subst hr; exact Int.le_refl _
      · rw [← key, rHas_app, rHas_app, rHas_cons, rHas_cons]
        have n0 : ¬ rHas [] d := rHas_nil
        simp only [n0, or_false]
        constructor
        · rintro (c | ⟨c1, c2⟩)
          · exact .inl (.inl c)
          · have c1 : q.1 ≤ d := c1
            have c2 : d < b := c2
            rcases Int.lt_or_le d a with f | f
            · exact .inl (.inr ⟨c1, by omega⟩)
            · exact .inr ⟨f, c2⟩
        · rintro ((c | ⟨c1, c2⟩) | ⟨c1, c2⟩)
          · exact .inl c
          · exact .inr ⟨c1, by show d < b; omega⟩
          · exact .inr ⟨by show q.1 ≤ d; omega, c2⟩
    · rw [if_neg e]
      refine ⟨u1.snoc (by show -1 < a; omega) h hb fun r hr => ?_, fun r hr => ?_, fun d => ?_⟩
      · rcases List.mem_append.1 hr with hr | hr
        · have := s5 r hr; show r.2 < a; omega
        · simp at hr; subst hr; show r.2 < a; omega
      · rcases List.mem_append.1 hr with hr | hr
        · have := u2 r hr; omega
        · simp at hr; subst hr; exact Int.le_refl _
      · rw [← key, rHas_app, rHas_cons]
        have n0 : ¬ rHas [] d := rHas_nil
        simp only [n0, or_false]
end Go.Proofs.Ythmkenkjfmbkiaa.VM
namespace Go.Proofs.Ythmkenkjfmbkiaa.VM
attribute [local irreducible] Af Nx EvO Ev Un Gd Cd EvR EvQ EvC Nc Gc Lp EvM NxM AfM GdM EvMR EvMQ EvMD EvMC Nm Gm
def RRg (r : Int × Int) (c : List AV) : Prop := c = [.int .i64 r.1, .int .i64 r.2] ∧ I64 r.1 ∧ I64 r.2
theorem zRg (a : Int × Int) (c : List AV) (h : RRg a c) : c.length = 2 := by rw [h.1]; rfl
theorem tRg (a : Int × Int) (c : List AV) (h : RRg a c) : AV.tolds c = true := by rw [h.1]; rfl
theorem atRg {v : AV} {l : Rgs} (h : IsL 16 RRg v l) (i : Nat) (hi : i < l.length) : ∃ r, AV.tolds r = true ∧ ∀ (hh : Heap) (kk : IntKind), iaV hh 2 none v (.int kk (i : Int)) = .val (.rp (.int .i64 (l.getD i (0, 0)).1 :: .int .i64 (l.getD i (0, 0)).2 :: r)) hh := by
  obtain ⟨ci, r, ⟨e, _⟩, ht, hia⟩ := h.get zRg tRg i hi
  have : l.getD i (0, 0) = l[i] := by simp [List.getD_eq_getElem?_getD, List.getElem?_eq_getElem hi]
  refine ⟨r, ?_, fun hh kk => ?_⟩
  · rw [e] at ht; exact ht
  · rw [hia, e, this]; rfl
def rcell (r : Int × Int) : List AV := [.int .i64 r.1, .int .i64 r.2]
def rcells (l : Rgs) : List AV := (l.map rcell).flatten
def tRgs (l : Rgs) : AV := cRow (rcells l) l.length
def rgs64 (l : Rgs) : Prop := ∀ r ∈ l, I64 r.1 ∧ I64 r.2
theorem rcells_len (l : Rgs) : (rcells l).length = l.length * 2 := by
  induction l with
  | nil => rfl
  | cons r l ih => rw [rcells, List.map_cons, List.flatten_cons, List.length_append]; rw [rcells] at ih; rw [ih]; simp [rcell]; omega
theorem rcells_snoc (l : Rgs) (r : Int × Int) : rcells (l ++ [r]) = rcells l ++ rcell r := by simp [rcells]
theorem rcells_cat : ∀ {l : Rgs}, rgs64 l → Cat RRg l (rcells l)
  | [], _ => .nil
  | r :: l, h => .cons (c := rcell r) ⟨rfl, h r (.head _)⟩ (rcells_cat fun q hq => h q (.tail _ hq))
theorem tRgs_is {l : Rgs} (h : rgs64 l) (hb : l.length * 16 ≤ reachBytes) : IsL 16 RRg (tRgs l) l := by
  unfold tRgs
  by_cases e : l.length = 0
  · rw [e, cRow_z, List.eq_nil_of_length_eq_zero e]; exact isL_nil _ _
  · rw [cRow_s _ (by omega)]; exact isL_rs (rcells_cat h) hb
theorem Sep.len : ∀ {l : Rgs} {a : Int}, Sep a l → a ≤ 4294967296 → a + 2 * l.length ≤ 4294967296
  | [], a, _, h => by simpa using h
  | r :: l, a, h, _ => by
    have h1 := h.1; have h2 := h.2.1; have h3 := h.2.2.1
    have := h.2.2.2.len h3
    simp only [List.length_cons]
    omega
theorem Sep.i64 {l : Rgs} (h : Sep (-1) l) : rgs64 l := fun r hr => by
  have := h.gt r hr
  exact ⟨⟨by omega, by omega⟩, ⟨by omega, by omega⟩⟩
theorem Sep.is {l : Rgs} (h : Sep (-1) l) : IsL 16 RRg (tRgs l) l := tRgs_is h.i64 (by have := h.len (by omega); have e : reachBytes = 140737488351232 := rfl; rw [e]; omega)
def sepB : Int → Rgs → Bool
  | _, [] => true
  | lo, r :: t => decide (lo < r.1) && decide (r.1 < r.2) && decide (r.2 ≤ 4294967296) && sepB r.2 t
theorem sepB_iff : ∀ {l : Rgs} {a : Int}, sepB a l = true ↔ Sep a l
  | [], _ => ⟨fun _ => trivial, fun _ => rfl⟩
  | r :: t, a => by
    rw [sepB, Sep, Bool.and_eq_true, Bool.and_eq_true, Bool.and_eq_true, sepB_iff, decide_eq_true_eq, decide_eq_true_eq, decide_eq_true_eq]
    exact ⟨fun ⟨⟨⟨a, b⟩, c⟩, d⟩ => ⟨a, b, c, d⟩, fun ⟨a, b, c, d⟩ => ⟨⟨⟨a, b⟩, c⟩, d⟩⟩
theorem drop_getD {l : Rgs} {i : Nat} (hi : i < l.length) : l.drop i = l.getD i (0, 0) :: l.drop (i + 1) := by
  rw [show l.getD i (0, 0) = l[i] by simp [List.getD_eq_getElem?_getD, List.getElem?_eq_getElem hi]]
  exact List.drop_eq_getElem_cons hi
end Go.Proofs.Ythmkenkjfmbkiaa.VM
namespace Go.Proofs.Ythmkenkjfmbkiaa.VM
attribute [local irreducible] Af Nx EvO Ev Un Gd Cd EvR EvQ EvC Nc Gc Lp EvM NxM AfM GdM EvMR EvMQ EvMD EvMC Nm Gm
section
variable {P : Program}
theorem dmay_loop (g : Pg P tab) {l : Rgs} {w : AV} (hw : IsL 16 RRg w l) (n : Nat) : ∀ (i : Nat) (lo : Int) (s : T AV) (h : Heap) (k : List Fr) (Q : Ex → T AV → Heap → Prop), i + n = l.length → -1 ≤ lo → (i = 0 → lo = -1) → (∀ j, i = j + 1 → lo = (l.getD j (0, 0)).2) → sg s 0 = w → sg s 3 = .int .i64 i →
    (sepB lo (l.drop i) = true → ∀ s' h', Un P k Q (.exit 0) s' h') → (sepB lo (l.drop i) = false → ∀ s' h', sg s' 2 = .bool false → Un P k Q .ret s' h') → Lp P b66_0 s h (Un P k Q) := by
  have hbd := hw.bound (by decide)
  have hl := hw.len
  induction n with
  | zero =>
    intro i lo s h k Q hn hlo h0 hj t0 t3 qY qN
    refine g.lpe b66_0.eq_1 ?_
    obtain rfl : i = l.length := by omega
    have c1 : ¬ (l.length : Int) < (l.length : Int) := by omega
    simp only [t0, t3, hl, c1, RX, VOp.fresh, bxC, bsC, un, most, callsOf, seval, Int.reducePow, ↓reduceIte, Nat.reduceEqDiff, reduceCtorEq]
    exact qY (by rw [List.drop_length]; rfl) _ _
  | succ n ih =>
    intro i lo s h k Q hn hlo h0 hj t0 t3 qY qN
    refine g.lpe b66_0.eq_1 ?_
    have c1 : (i : Int) < (l.length : Int) := by omega
    have w1 : IntKind.i64.wrap ((i : Int) + 1) = ((i + 1 : Nat) : Int) := by rw [w64 (by omega) (by omega)]; push_cast; rfl
    obtain ⟨r, ht, hia⟩ := atRg hw i (by omega)
    rw [drop_getD (by omega), sepB] at qY qN
    generalize ex : (l.getD i (0, 0)).1 = x at *
    generalize ey : (l.getD i (0, 0)).2 = y at *
    have no : (¬ (lo < x ∧ x < y ∧ y ≤ 4294967296)) → ∀ s' h', sg s' 2 = .bool false → Un P k Q .ret s' h' := fun c => qN (by
      rw [Bool.eq_false_iff]; intro e; simp only [Bool.and_eq_true, decide_eq_true_eq] at e; exact c ⟨e.1.1.1, e.1.1.2, e.1.2⟩)
    by_cases a1 : x < 0
    · simp only [t0, t3, hl, c1, hia, a1, RW, RX, VOp.fresh, bxC, bsC, un, most, callsOf, seval, Int.reducePow, ↓reduceIte, Nat.reduceEqDiff, reduceCtorEq]
      exact no (fun c => by omega) _ _ (by simp only [sg_set, Nat.reduceEqDiff, ↓reduceIte])
    by_cases a2 : y ≤ x
    · simp only [t0, t3, hl, c1, hia, a1, a2, RW, RX, VOp.fresh, bxC, bsC, un, most, callsOf, seval, Int.reducePow, ↓reduceIte, Nat.reduceEqDiff, reduceCtorEq]
      exact no (fun c => by omega) _ _ (by simp only [sg_set, Nat.reduceEqDiff, ↓reduceIte])
    by_cases a3 : 4294967296 < y
    · simp only [t0, t3, hl, c1, hia, a1, a2, a3, RW, RX, VOp.fresh, bxC, bsC, un, most, callsOf, seval, Int.reducePow, ↓reduceIte, Nat.reduceEqDiff, reduceCtorEq]
      exact no (fun c => by omega) _ _ (by simp only [sg_set, Nat.reduceEqDiff, ↓reduceIte])
    by_cases i0 : i = 0
    · have c2 : ¬ (0 : Int) < (i : Int) := by omega
      have e0 := h0 i0
      simp only [t0, t3, hl, c1, c2, hia, a1, a2, a3, w1, RW, RX, VOp.fresh, bxC, bsC, un, most, callsOf, seval, Int.reducePow, ↓reduceIte, Nat.reduceEqDiff, reduceCtorEq]
      refine ih (i + 1) y _ _ k Q (by omega) (by omega) (fun e => by omega) (fun j e => by obtain rfl : j = i := (by omega); exact ey.symm) ?_ ?_ (fun e => qY ?_) (fun e => qN ?_)
      · simp only [t0, sg_set, Nat.reduceEqDiff, ↓reduceIte]
      · simp only [sg_set, Nat.reduceEqDiff, ↓reduceIte]
      · rw [e]; simp; omega
      · rw [e]; simp
    · have c2 : (0 : Int) < (i : Int) := by omega
      have ej := hj (i - 1) (by omega)
      have w2 : IntKind.i64.wrap ((i : Int) - 1) = ((i - 1 : Nat) : Int) := by rw [w64 (by omega) (by omega)]; omega
      obtain ⟨r2, ht2, hia2⟩ := atRg hw (i - 1) (by omega)
      rw [← ej] at hia2
      by_cases a4 : x ≤ lo
      · simp only [t0, t3, hl, c1, c2, hia, hia2, a1, a2, a3, a4, w2, RW, RX, VOp.fresh, bxC, bsC, un, most, callsOf, seval, Int.reducePow, ↓reduceIte, Nat.reduceEqDiff, reduceCtorEq]
        exact no (fun c => by omega) _ _ (by simp only [sg_set, Nat.reduceEqDiff, ↓reduceIte])
      · simp only [t0, t3, hl, c1, c2, hia, hia2, a1, a2, a3, a4, w1, w2, RW, RX, VOp.fresh, bxC, bsC, un, most, callsOf, seval, Int.reducePow, ↓reduceIte, Nat.reduceEqDiff, reduceCtorEq]
        refine ih (i + 1) y _ _ k Q (by omega) (by omega) (fun e => by omega) (fun j e => by obtain rfl : j = i := (by omega); exact ey.symm) ?_ ?_ (fun e => qY ?_) (fun e => qN ?_)
        · simp only [t0, sg_set, Nat.reduceEqDiff, ↓reduceIte]
        · simp only [sg_set, Nat.reduceEqDiff, ↓reduceIte]
        · rw [e]; simp; omega
        · rw [e]; simp
theorem dmay_pu (g : Pg P tab) {l : Rgs} {w : AV} (hw : IsL 16 RRg w l) : Pu P 66 [w] (fun v => v = .bool (sepB (-1) l)) := by
  refine g.pu (vf := v66) rfl rfl ?_
  simp only [v66, RX, VOp.fresh, bxC, bsC, un, most, callsOf, seval, Int.reducePow, ↓reduceIte, Nat.reduceEqDiff, reduceCtorEq]
  refine dmay_loop g hw l.length 0 (-1) _ _ _ _ (by omega) (by omega) (fun _ => rfl) (fun j e => by omega) ?_ ?_ (fun e s' h' => ?_) (fun e s' h' t2 => ?_)
  · simp only [sg_set, Nat.reduceEqDiff, ↓reduceIte]
  · simp only [sg_set, Nat.reduceEqDiff, ↓reduceIte]
    rfl
  · rw [List.drop_zero] at e
    simp only [e, RX, VOp.fresh, bxC, bsC, un, most, callsOf, seval, Int.reducePow, ↓reduceIte, Nat.reduceEqDiff, reduceCtorEq]
  · rw [List.drop_zero] at e
    simp only [e, t2, RX, VOp.fresh, bxC, bsC, un, most, callsOf, seval, Int.reducePow, ↓reduceIte, Nat.reduceEqDiff, reduceCtorEq]
end
end Go.Proofs.Ythmkenkjfmbkiaa.VM
namespace Go.Proofs.Ythmkenkjfmbkiaa.VM
attribute [local irreducible] Af Nx EvO Ev Un Gd Cd EvR EvQ EvC Nc Gc Lp EvM NxM AfM GdM EvMR EvMQ EvMD EvMC Nm Gm
theorem rcells_set (m : Rgs) (q : Int × Int) (b : Int) : (rcells (m ++ [q])).set (m.length * 2 + 1) (.int .i64 b) = rcells (m ++ [(q.1, b)]) := by
  rw [rcells_snoc, rcells_snoc, List.set_append, if_neg (by rw [rcells_len]; omega), rcells_len]
  rw [show m.length * 2 + 1 - m.length * 2 = 1 by omega]
  rfl
end Go.Proofs.Ythmkenkjfmbkiaa.VM
namespace Go.Proofs.Ythmkenkjfmbkiaa.Hil
def dig (rx ry : Nat) : Nat := if ry = 1 then (if rx = 1 then 2 else 1) else (if rx = 1 then 3 else 0)
def hcell : Nat → Nat → Nat → Nat
  | 0, _, _ => 0
  | n + 1, x, y => 4 ^ n * dig (x / 2 ^ n % 2) (y / 2 ^ n % 2) +
      (if y / 2 ^ n % 2 = 1 then hcell n (x % 2 ^ n) (y % 2 ^ n)
       else if x / 2 ^ n % 2 = 1 then hcell n (2 ^ n - 1 - y % 2 ^ n) (2 ^ n - 1 - x % 2 ^ n)
       else hcell n (y % 2 ^ n) (x % 2 ^ n))
def trn (s : Nat) (g : Nat) (p : Nat × Nat) : Nat × Nat :=
  if g = 0 then (p.2, p.1) else if g = 1 then (p.1, p.2 + s) else if g = 2 then (p.1 + s, p.2 + s) else (s - 1 - p.2 + s, s - 1 - p.1)
def hdec : Nat → Nat → Nat × Nat
  | 0, _ => (0, 0)
  | n + 1, d => trn (2 ^ n) (d / 4 ^ n % 4) (hdec n d)
theorem hcell_succ (n x y : Nat) : hcell (n + 1) x y = 4 ^ n * dig (x / 2 ^ n % 2) (y / 2 ^ n % 2) +
      (if y / 2 ^ n % 2 = 1 then hcell n (x % 2 ^ n) (y % 2 ^ n)
       else if x / 2 ^ n % 2 = 1 then hcell n (2 ^ n - 1 - y % 2 ^ n) (2 ^ n - 1 - x % 2 ^ n)
       else hcell n (y % 2 ^ n) (x % 2 ^ n)) := rfl
theorem two_pos (n : Nat) : 0 < 2 ^ n := Nat.two_pow_pos n
theorem four_pos (n : Nat) : 0 < 4 ^ n := Nat.pow_pos (by decide)
theorem dig_lt (a b : Nat) : dig a b < 4 := by unfold dig; split <;> split <;> omega
theorem hcell_lt : ∀ n x y, hcell n x y < 4 ^ n
  | 0, _, _ => by simp [hcell]
  | n + 1, x, y => by
    unfold hcell
    have hd := dig_lt (x / 2 ^ n % 2) (y / 2 ^ n % 2)
    have h1 := hcell_lt n (x % 2 ^ n) (y % 2 ^ n)
    have h2 := hcell_lt n (2 ^ n - 1 - y % 2 ^ n) (2 ^ n - 1 - x % 2 ^ n)
    have h3 := hcell_lt n (y % 2 ^ n) (x % 2 ^ n)
    have : 4 ^ n * dig (x / 2 ^ n % 2) (y / 2 ^ n % 2) ≤ 4 ^ n * 3 := Nat.mul_le_mul_left _ (by omega)
    rw [Nat.pow_succ]
    split
    · omega
    · split <;> omega
theorem hdec_add : ∀ n a b, hdec n (4 ^ n * a + b) = hdec n b
  | 0, _, _ => rfl
  | n + 1, a, b => by
    have e : 4 ^ (n + 1) * a + b = 4 ^ n * (4 * a) + b := by rw [Nat.pow_succ, Nat.mul_assoc]
    rw [hdec, hdec, e, hdec_add n (4 * a) b, Nat.mul_add_div (four_pos n)]
    congr 1; omega
theorem div_mod_of {s x b : Nat} (h : x < s) : (x + b * s) / s = b ∧ (x + b * s) % s = x := by
  have hs : 0 < s := by omega
  rw [Nat.add_mul_div_right _ _ hs, Nat.add_mul_mod_self_right, Nat.div_eq_of_lt h, Nat.mod_eq_of_lt h]; simp
theorem cell_trn {n g x y : Nat} (hx : x < 2 ^ n) (hy : y < 2 ^ n) (hg : g < 4) : hcell (n + 1) (trn (2 ^ n) g (x, y)).1 (trn (2 ^ n) g (x, y)).2 = 4 ^ n * g + hcell n x y := by
  have a0 := div_mod_of (b := 0) hx
  have b0 := div_mod_of (b := 0) hy
  have a1 := div_mod_of (b := 1) hx
  have b1 := div_mod_of (b := 1) hy
  have c0 := div_mod_of (s := 2 ^ n) (x := 2 ^ n - 1 - x) (b := 0) (by omega)
  have c1 := div_mod_of (s := 2 ^ n) (x := 2 ^ n - 1 - y) (b := 1) (by omega)
  simp only [Nat.zero_mul, Nat.add_zero, Nat.one_mul] at a0 b0 a1 b1 c0 c1
  have g4 : g = 0 ∨ g = 1 ∨ g = 2 ∨ g = 3 := by omega
  have e1 : 2 ^ n - 1 - (2 ^ n - 1 - x) = x := by omega
  have e2 : 2 ^ n - 1 - (2 ^ n - 1 - y) = y := by omega
  rcases g4 with rfl | rfl | rfl | rfl
  · simp [trn, hcell, a0, b0, dig]
  · simp [trn, hcell, a0, b1, dig]
  · simp [trn, hcell, a1, b1, dig]
  · simp [trn, hcell, c0, c1, dig, e1, e2]
/-- which quarter, and the place in it -/
theorem dec_cell : ∀ n x y, x < 2 ^ n → y < 2 ^ n → hdec n (hcell n x y) = (x, y)
  | 0, x, y, hx, hy => by simp at hx hy; subst hx hy; rfl
  | n + 1, x, y, hx, hy => by
    have key : ∃ g u v, g < 4 ∧ u < 2 ^ n ∧ v < 2 ^ n ∧ (x, y) = trn (2 ^ n) g (u, v) := by
      rw [Nat.pow_succ] at hx hy
      by_cases h1 : x < 2 ^ n <;> by_cases h2 : y < 2 ^ n
      · exact ⟨0, y, x, by omega, h2, h1, by simp [trn]⟩
      · exact ⟨1, x, y - 2 ^ n, by omega, h1, by omega, by simp [trn]; omega⟩
      · exact ⟨3, 2 ^ n - 1 - y, 2 ^ n - 1 - (x - 2 ^ n), by omega, by omega, by omega, by simp [trn]; omega⟩
      · exact ⟨2, x - 2 ^ n, y - 2 ^ n, by omega, by omega, by omega, by simp [trn]; omega⟩
    obtain ⟨g, u, v, hg, hu, hv, e⟩ := key
    have e1 : x = (trn (2 ^ n) g (u, v)).1 := by rw [← e]
    have e2 : y = (trn (2 ^ n) g (u, v)).2 := by rw [← e]
    have hc := cell_trn hu hv hg
    rw [← e1, ← e2] at hc
    have hl := hcell_lt n u v
    rw [hc, hdec, hdec_add, dec_cell n u v hu hv, Nat.mul_add_div (four_pos n), Nat.div_eq_of_lt hl]
    rw [e]; congr 1; omega
theorem cell_inj {n x y u v : Nat} (hx : x < 2 ^ n) (hy : y < 2 ^ n) (hu : u < 2 ^ n) (hv : v < 2 ^ n) (h : hcell n x y = hcell n u v) : x = u ∧ y = v := by
  have a := dec_cell n x y hx hy
  rw [h, dec_cell n u v hu hv] at a
  exact ⟨(congrArg Prod.fst a).symm, (congrArg Prod.snd a).symm⟩
end Go.Proofs.Ythmkenkjfmbkiaa.Hil
namespace Go.Proofs.Ythmkenkjfmbkiaa.VM
open Go.Proofs.Ythmkenkjfmbkiaa.Hil
section
variable {P : Program}
theorem xor_dig : ∀ rx ry : Nat, rx < 2 → ry < 2 → bitsOf .xor .i64 (3 * (rx : Int)) (ry : Int) = (dig rx ry : Int) := by
  intro rx ry h1 h2
  have r : ry = 0 ∨ ry = 1 := by omega
  have q : rx = 0 ∨ rx = 1 := by omega
  rcases r with rfl | rfl <;> rcases q with rfl | rfl <;> decide +kernel
theorem dcell_loop (g : Pg P tab) (n : Nat) : ∀ (X Y : Nat) (D : Int) (s : T AV) (h : Heap) (k : List Fr) (Q : Ex → T AV → Heap → Prop), n ≤ 16 → X < 2 ^ n → Y < 2 ^ n → 0 ≤ D → D + (4 ^ n : Nat) ≤ 4294967296 →
    sg s 0 = .int .i64 X → sg s 1 = .int .i64 Y → sg s 8 = .int .i64 D → sg s 9 = .int .i64 ((2 ^ n / 2 : Nat) : Int) → (∀ s', sg s' 8 = .int .i64 (D + (hcell n X Y : Int)) → Un P k Q (.exit 0) s' h) → Lp P b81_0 s h (Un P k Q) := by
  induction n with
  | zero =>
    intro X Y D s h k Q _ _ _ _ _ h0 h1 h8 h9 hK
    refine g.lpe b81_0.eq_1 ?_
    have c : ¬ (0 : Int) < ((2 ^ 0 / 2 : Nat) : Int) := by decide
    simp only [h0, h1, h8, h9, c, RX, VOp.fresh, bxC, bsC, un, most, callsOf, seval, Int.reducePow, ↓reduceIte, Nat.reduceEqDiff, reduceCtorEq]
    refine hK _ ?_
    simp only [sg_set, seval, h8, hcell]
    simp
  | succ n ih =>
    intro X Y D s h k Q hn hX hY hD hD1 h0 h1 h8 h9 hK
    have h2 := two_pos n
    have hp : 2 ^ n ≤ 2 ^ 15 := Nat.pow_le_pow_right (by decide) (by omega)
    have hp4 : 4 ^ n ≤ 4 ^ 15 := Nat.pow_le_pow_right (by decide) (by omega)
    rw [Nat.pow_succ] at hX hY hD1
    refine g.lpe b81_0.eq_1 ?_
    have e9 : (2 ^ (n + 1) / 2 : Nat) = 2 ^ n := by rw [Nat.pow_succ]; omega
    rw [e9] at h9
    have c0 : (0 : Int) < ((2 ^ n : Nat) : Int) := by omega
    have c00 := fun a : Int => bin_quo (k := .i64) (a := a) (b := ((2 ^ n : Nat) : Int)) (by omega)
    have c02 := fun a : Int => bin_quo (k := .i64) (a := a) (b := 2) (by decide)
    have d1 : (X : Int).tdiv ((2 ^ n : Nat) : Int) = ((X / 2 ^ n : Nat) : Int) := by rw [Int.tdiv_eq_ediv_of_nonneg (by omega)]; push_cast; rfl
    have d2 : (Y : Int).tdiv ((2 ^ n : Nat) : Int) = ((Y / 2 ^ n : Nat) : Int) := by rw [Int.tdiv_eq_ediv_of_nonneg (by omega)]; push_cast; rfl
    have wd1 : IntKind.i64.wrap ((X / 2 ^ n : Nat) : Int) = ((X / 2 ^ n : Nat) : Int) := by have := Nat.div_le_self X (2 ^ n); generalize X / 2 ^ n = z at *; exact w64 (by omega) (by omega)
    have wd2 : IntKind.i64.wrap ((Y / 2 ^ n : Nat) : Int) = ((Y / 2 ^ n : Nat) : Int) := by have := Nat.div_le_self Y (2 ^ n); generalize Y / 2 ^ n = z at *; exact w64 (by omega) (by omega)
    have d3 : IntKind.i64.wrap (((2 ^ n : Nat) : Int).tdiv 2) = ((2 ^ n / 2 : Nat) : Int) := by
      rw [Int.tdiv_eq_ediv_of_nonneg (by omega)]
      generalize 2 ^ n = m at *
      rw [w64 (by omega) (by omega)]; omega
    have a1 : bitsOf .and .i64 (X : Int) (((2 ^ n : Nat) : Int) - 1) = ((X % 2 ^ n : Nat) : Int) := and_low (by omega) (by omega)
    have a2 : bitsOf .and .i64 (Y : Int) (((2 ^ n : Nat) : Int) - 1) = ((Y % 2 ^ n : Nat) : Int) := and_low (by omega) (by omega)
    have a3 : bitsOf .and .i64 ((X / 2 ^ n : Nat) : Int) 1 = ((X / 2 ^ n % 2 : Nat) : Int) := and_one (Nat.lt_of_le_of_lt (Nat.div_le_self _ _) (by omega))
    have a4 : bitsOf .and .i64 ((Y / 2 ^ n : Nat) : Int) 1 = ((Y / 2 ^ n % 2 : Nat) : Int) := and_one (Nat.lt_of_le_of_lt (Nat.div_le_self _ _) (by omega))
    have x1 := xor_dig (X / 2 ^ n % 2) (Y / 2 ^ n % 2) (Nat.mod_lt _ (by decide)) (Nat.mod_lt _ (by decide))
    have hd := dig_lt (X / 2 ^ n % 2) (Y / 2 ^ n % 2)
    have q1 : (((2 ^ n : Nat) : Int) * ((2 ^ n : Nat) : Int)) = ((4 ^ n : Nat) : Int) := by
      rw [← Int.natCast_mul, ← Nat.mul_pow]
    have q2 : ((4 ^ n : Nat) : Int) * (dig (X / 2 ^ n % 2) (Y / 2 ^ n % 2) : Int) = ((4 ^ n * dig (X / 2 ^ n % 2) (Y / 2 ^ n % 2) : Nat) : Int) := by push_cast; rfl
    have q3 : 4 ^ n * dig (X / 2 ^ n % 2) (Y / 2 ^ n % 2) ≤ 4 ^ n * 3 := Nat.mul_le_mul_left _ (by omega)
    have w1 : IntKind.i64.wrap (3 * ((X / 2 ^ n % 2 : Nat) : Int)) = 3 * ((X / 2 ^ n % 2 : Nat) : Int) := w64 (by omega) (by omega)
    have w2 : IntKind.i64.wrap (((2 ^ n : Nat) : Int) - 1) = ((2 ^ n : Nat) : Int) - 1 := by
      generalize 2 ^ n = m at *
      exact w64 (by omega) (by omega)
    have w3 : IntKind.i64.wrap ((4 ^ n : Nat) : Int) = ((4 ^ n : Nat) : Int) := by
      generalize 4 ^ n = m at *
      exact w64 (by omega) (by omega)
    have w4 : IntKind.i64.wrap ((4 ^ n * dig (X / 2 ^ n % 2) (Y / 2 ^ n % 2) : Nat) : Int) = ((4 ^ n * dig (X / 2 ^ n % 2) (Y / 2 ^ n % 2) : Nat) : Int) := by
      generalize 4 ^ n * dig (X / 2 ^ n % 2) (Y / 2 ^ n % 2) = m at *
      exact w64 (by omega) (by omega)
    have w5 : IntKind.i64.wrap (D + ((4 ^ n * dig (X / 2 ^ n % 2) (Y / 2 ^ n % 2) : Nat) : Int)) = D + ((4 ^ n * dig (X / 2 ^ n % 2) (Y / 2 ^ n % 2) : Nat) : Int) := by
      generalize 4 ^ n * dig (X / 2 ^ n % 2) (Y / 2 ^ n % 2) = m at *
      exact w64 (by omega) (by omega)
    have l1 := Nat.mod_lt X h2
    have l2 := Nat.mod_lt Y h2
    have w6 : IntKind.i64.wrap (((2 ^ n : Nat) : Int) - 1 - ((X % 2 ^ n : Nat) : Int)) = ((2 ^ n - 1 - X % 2 ^ n : Nat) : Int) := by
      generalize X % 2 ^ n = z at *
      generalize 2 ^ n = m at *
      rw [w64 (by omega) (by omega)]; omega
    have w7 : IntKind.i64.wrap (((2 ^ n : Nat) : Int) - 1 - ((Y % 2 ^ n : Nat) : Int)) = ((2 ^ n - 1 - Y % 2 ^ n : Nat) : Int) := by
      generalize Y % 2 ^ n = z at *
      generalize 2 ^ n = m at *
      rw [w64 (by omega) (by omega)]; omega
    have k1 : Y / 2 ^ n % 2 < 2 := Nat.mod_lt _ (by decide)
    have k2 : X / 2 ^ n % 2 < 2 := Nat.mod_lt _ (by decide)
    have hs := hcell_succ n X Y
    have next : ∀ (u1 u2 : Nat) (s' : T AV), u1 < 2 ^ n → u2 < 2 ^ n → hcell (n + 1) X Y = 4 ^ n * dig (X / 2 ^ n % 2) (Y / 2 ^ n % 2) + hcell n u1 u2 → sg s' 0 = .int .i64 u1 → sg s' 1 = .int .i64 u2 → sg s' 8 = .int .i64 (D + ((4 ^ n * dig (X / 2 ^ n % 2) (Y / 2 ^ n % 2) : Nat) : Int)) → sg s' 9 = .int .i64 ((2 ^ n / 2 : Nat) : Int) → Lp P b81_0 s' h (Un P k Q) := fun u1 u2 s' b1 b2 e t0 t1 t8 t9 =>
      ih u1 u2 _ s' h k Q (by omega) b1 b2 (by omega) (by omega) t0 t1 t8 t9 fun s'' hs'' => hK s'' (by rw [hs'', e]; push_cast; rw [Int.add_assoc])
    by_cases e1 : Y / 2 ^ n % 2 = 0
    · have e1' : ((Y / 2 ^ n % 2 : Nat) : Int) = 0 := by omega
      by_cases e2 : X / 2 ^ n % 2 = 1
      · have e2' : ((X / 2 ^ n % 2 : Nat) : Int) = 1 := by omega
        rw [if_neg (by omega), if_pos e2] at hs
        simp only [h0, h1, h8, h9, c0, c00, c02, d1, d2, wd1, wd2, d3, a1, a2, a3, a4, x1, q1, q2, w1, w2, w3, w4, w5, w6, w7, eq_true e1', eq_true e2', RX, VOp.fresh, bxC, bsC, un, most, callsOf, seval, Int.reducePow, ↓reduceIte, Nat.reduceEqDiff, reduceCtorEq]
        refine next _ _ _ ?_ ?_ hs ?_ ?_ ?_ ?_
        · omega
        · omega
        · simp only [sg_set, Nat.reduceEqDiff, ↓reduceIte]
        · simp only [sg_set, Nat.reduceEqDiff, ↓reduceIte]
        · simp only [sg_set, Nat.reduceEqDiff, ↓reduceIte]
        · simp only [sg_set, Nat.reduceEqDiff, ↓reduceIte]
      · have e2' : ¬ ((X / 2 ^ n % 2 : Nat) : Int) = 1 := by omega
        rw [if_neg (by omega), if_neg e2] at hs
        simp only [h0, h1, h8, h9, c0, c00, c02, d1, d2, wd1, wd2, d3, a1, a2, a3, a4, x1, q1, q2, w1, w2, w3, w4, w5, w6, w7, eq_true e1', e2', RX, VOp.fresh, bxC, bsC, un, most, callsOf, seval, Int.reducePow, ↓reduceIte, Nat.reduceEqDiff, reduceCtorEq]
        refine next _ _ _ ?_ ?_ hs ?_ ?_ ?_ ?_
        · exact l2
        · exact l1
        · simp only [sg_set, Nat.reduceEqDiff, ↓reduceIte]
        · simp only [sg_set, Nat.reduceEqDiff, ↓reduceIte]
        · simp only [sg_set, Nat.reduceEqDiff, ↓reduceIte]
        · simp only [sg_set, Nat.reduceEqDiff, ↓reduceIte]
    · have e1' : ¬ ((Y / 2 ^ n % 2 : Nat) : Int) = 0 := by omega
      rw [if_pos (by omega)] at hs
      simp only [h0, h1, h8, h9, c0, c00, c02, d1, d2, wd1, wd2, d3, a1, a2, a3, a4, x1, q1, q2, w1, w2, w3, w4, w5, w6, w7, e1', RX, VOp.fresh, bxC, bsC, un, most, callsOf, seval, Int.reducePow, ↓reduceIte, Nat.reduceEqDiff, reduceCtorEq]
      refine next _ _ _ ?_ ?_ hs ?_ ?_ ?_ ?_
      · exact l1
      · exact l2
      · simp only [sg_set, Nat.reduceEqDiff, ↓reduceIte]
      · simp only [sg_set, Nat.reduceEqDiff, ↓reduceIte]
      · simp only [sg_set, Nat.reduceEqDiff, ↓reduceIte]
      · simp only [sg_set, Nat.reduceEqDiff, ↓reduceIte]
theorem dcell_pu (g : Pg P tab) {n X Y : Nat} (h1 : 1 ≤ n) (hn : n ≤ 16) (hX : X < 2 ^ n) (hY : Y < 2 ^ n) : Pu P 81 [.int .i64 X, .int .i64 Y, .int .i64 n] (fun v => v = .tup [.int .i64 (hcell n X Y : Int), .int .i64 0]) := by
  refine g.pu (vf := v81) rfl rfl ?_
  have hp : 2 ^ n ≤ 2 ^ 16 := Nat.pow_le_pow_right (by decide) (by omega)
  have hp4 : 4 ^ n ≤ 4 ^ 16 := Nat.pow_le_pow_right (by decide) (by omega)
  have s3 : IntKind.i64.wrap (1 * 2 ^ min n 64) = ((2 ^ n : Nat) : Int) := shl_nat (by omega)
  have s4 : IntKind.i64.wrap (1 * 2 ^ min (n - 1) 64) = ((2 ^ n / 2 : Nat) : Int) := by
    rw [shl_nat (by omega)]
    obtain ⟨m, rfl⟩ : ∃ m, n = m + 1 := ⟨n - 1, by omega⟩
    rw [Nat.pow_succ, Nat.add_sub_cancel, Nat.mul_div_cancel _ (by decide)]
  have c1 : ¬ ((n : Int) < 1) := by omega
  have c2 : ¬ (16 < (n : Int)) := by omega
  have c3 : ¬ ((X : Int) < 0) := by omega
  have c4 : ¬ ((Y : Int) < 0) := by omega
  have c5 : ¬ (((2 ^ n : Nat) : Int) ≤ (X : Int)) := by omega
  have c6 : ¬ (((2 ^ n : Nat) : Int) ≤ (Y : Int)) := by omega
  have c0 : (0 : Int) ≤ ((n - 1 : Nat) : Int) := by omega
  have c01 : (0 : Int) ≤ (n : Int) := by omega
  have w1 : IntKind.i64.wrap ((n : Int) - 1) = ((n - 1 : Nat) : Int) := by rw [w64 (by omega) (by omega)]; omega
  simp only [v81, c0, c01, w1, s3, s4, c1, c2, c3, c4, c5, c6, RX, VOp.fresh, bxC, bsC, un, most, callsOf, seval, Int.reducePow, ↓reduceIte, Nat.reduceEqDiff, reduceCtorEq]
  refine dcell_loop g n X Y 0 _ _ _ _ hn hX hY (by omega) (by omega) ?_ ?_ ?_ ?_ ?_
  · simp only [sg_set, Nat.reduceEqDiff, ↓reduceIte]
  · simp only [sg_set, Nat.reduceEqDiff, ↓reduceIte]
  · simp only [sg_set, Nat.reduceEqDiff, ↓reduceIte]
  · simp only [sg_set, Nat.reduceEqDiff, ↓reduceIte]
  · intro s' hs'
    simp only [hs', RX, VOp.fresh, bxC, bsC, un, most, callsOf, seval, Int.reducePow, ↓reduceIte, Nat.reduceEqDiff, reduceCtorEq]
    simp
end
end Go.Proofs.Ythmkenkjfmbkiaa.VM
