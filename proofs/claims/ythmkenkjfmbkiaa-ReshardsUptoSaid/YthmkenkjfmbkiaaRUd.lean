/- Part of a proof: what stands for the program, and its walk. No condition. -/
import Derived.Below
import Derived.ChangeArms
import Derived.ChangeMaps5
import Derived.Laws.Cells
import Derived.Laws.IdiomCopy
import Derived.MapKept
import Derived.OrdersIn
import Derived.RangeFuncLeaves
import Derived.RangeFuncRecord
import Derived.Shelf.Spec.SlicesInsertGrow
import Derived.SizedLaws
import Derived.WalkKit
import Derived.WalkLawsBesides
import GoSem.Claim
import Derived.Test.YthmkenkjfmbkiaaRUc
set_option linter.unusedSimpArgs false
set_option linter.unusedVariables false
set_option linter.defProp false
set_option maxHeartbeats 1000000
set_option linter.unusedSimpArgs false
set_option linter.unusedVariables false
set_option linter.defProp false
set_option maxHeartbeats 1000000
namespace Go.Proofs.Ythmkenkjfmbkiaa.VM
attribute [local irreducible] Af Nx EvO Ev Un Gd Cd EvR EvQ EvC Nc Gc Lp EvM NxM AfM GdM EvMR EvMQ EvMD EvMC Nm Gm
section
variable {P : Program}
def coordOk (x : Int) : Prop := 0 ≤ x ∧ x ≤ 4294967295
instance (x : Int) : Decidable (coordOk x) := by unfold coordOk; infer_instance
def ptOk (p : Pt) : Prop := coordOk p.x ∧ coordOk p.y
instance (p : Pt) : Decidable (ptOk p) := by unfold ptOk; infer_instance
theorem coord_pu (g : Pg P tab) (a : Int) : Pu P 119 [.int .i64 a] (fun v => v = .bool (decide (coordOk a))) := by
  refine g.pu (vf := v119) rfl rfl ?_
  simp +contextual (maxSteps := 2000000) (disch := omega) only [v119, coordOk, RX, VOp.fresh, bxC, bsC, un, most, callsOf, seval, Int.reducePow, ↓reduceIte, Nat.reduceEqDiff, reduceCtorEq]
theorem pointMay_pu (g : Pg P tab) (p : Pt) : Pu P 114 [.agg [.int .i64 p.x, .int .i64 p.y]] (fun v => v = .bool (decide (ptOk p))) := by
  refine g.pu (vf := v114) rfl rfl ?_
  simp +contextual (maxSteps := 2000000) (disch := omega) only [v114, RX, VOp.fresh, bxC, bsC, un, most, callsOf, seval, Int.reducePow, ↓reduceIte, Nat.reduceEqDiff, reduceCtorEq]
  refine (coord_pu g _).go rfl ?_
  rintro v rfl
  simp +contextual (maxSteps := 2000000) (disch := omega) only [RX, VOp.fresh, bxC, bsC, un, most, callsOf, seval, Int.reducePow, ↓reduceIte, Nat.reduceEqDiff, reduceCtorEq]
  refine ⟨fun h1 => ?_, fun h1 => ?_⟩
  · refine (coord_pu g _).go rfl ?_
    rintro v rfl
    simp +contextual (maxSteps := 2000000) (disch := omega) only [h1, ptOk, RX, VOp.fresh, bxC, bsC, un, most, callsOf, seval, Int.reducePow, ↓reduceIte, Nat.reduceEqDiff, reduceCtorEq]
  · simp +contextual (maxSteps := 2000000) (disch := omega) only [h1, ptOk, RX, VOp.fresh, bxC, bsC, un, most, callsOf, seval, Int.reducePow, ↓reduceIte, Nat.reduceEqDiff, reduceCtorEq]
def mpZero (m : Mp) : Prop := m.epoch = 0 ∧ m.starts = [] ∧ m.owners = []
theorem len0 {α : Type} {l : List α} : ((l.length : Int) = 0) = (l = []) := by
  rw [eq_iff_iff]; cases l <;> simp <;> omega
theorem noMap_pu (g : Pg P tab) {m : Mp} {v u : AV} (hv : IsL 8 RInt v m.starts) (hu : IsL 8 RInt u m.owners) (r : List AV) : Pu P 96 [.rp (.int .i64 m.epoch :: v :: u :: r)] (IsB (mpZero m)) := by
  refine g.pu (vf := v96) rfl rfl ?_
  simp +contextual (maxSteps := 2000000) (disch := omega) only [v96, hv.len, hu.len, mpZero, len0, RX, VOp.fresh, bxC, bsC, un, most, callsOf, seval, Int.reducePow, ↓reduceIte, Nat.reduceEqDiff, reduceCtorEq]
def ftZero (f : Feat) : Prop := f.id = 0 ∧ f.shape = 0 ∧ f.rings = []
theorem noFeature_pu (g : Pg P tab) {f : Feat} {v : AV} (hv : IsL 24 RRing v f.rings) (r : List AV) : Pu P 97 [.rp (.int .i64 f.id :: .int .i64 f.shape :: v :: r)] (IsB (ftZero f)) := by
  refine g.pu (vf := v97) rfl rfl ?_
  simp +contextual (maxSteps := 2000000) (disch := omega) only [v97, hv.len, ftZero, len0, RX, VOp.fresh, bxC, bsC, un, most, callsOf, seval, Int.reducePow, ↓reduceIte, Nat.reduceEqDiff, reduceCtorEq]
def mpAt (nodes : Int) (m : Mp) (i : Nat) : Prop := m.starts.getD i 0 < 4294967296 ∧ (i = 0 ∨ m.starts.getD (i - 1) 0 < m.starts.getD i 0) ∧ 0 ≤ m.owners.getD i 0 ∧ m.owners.getD i 0 < nodes
def mpOk (nodes : Int) (m : Mp) : Prop := 1 ≤ nodes ∧ nodes ≤ 8 ∧ 1 ≤ m.epoch ∧ m.epoch ≤ 65535 ∧ 1 ≤ m.starts.length ∧ m.starts.length ≤ 32 ∧ m.owners.length = m.starts.length ∧ m.starts.getD 0 0 = 0 ∧ ∀ i, i < m.starts.length → mpAt nodes m i
theorem getInt {v : AV} {l : List Int} (h : IsL 8 RInt v l) (i : Nat) (hi : i < l.length) : ∃ r, AV.tolds r = true ∧ ∀ (hh : Heap) (kk : IntKind), iaV hh 1 none v (.int kk (i : Int)) = .val (.rp (.int .i64 (l.getD i 0) :: r)) hh := by
  obtain ⟨ci, r, ⟨e, _⟩, ht, hia⟩ := h.get zInt tInt i hi
  have : l.getD i 0 = l[i] := by simp [List.getD_eq_getElem?_getD, List.getElem?_eq_getElem hi]
  refine ⟨r, ?_, fun hh kk => ?_⟩
  · rw [e] at ht; exact ht
  · rw [hia, e, this]; rfl
theorem mapMay_loop (g : Pg P tab) {nodes : Int} {m : Mp} {v u : AV} (hv : IsL 8 RInt v m.starts) (hu : IsL 8 RInt u m.owners) (hl : m.owners.length = m.starts.length) (hh : Heap) {e : TypeId} {ver : Nat} (hg : hh.get 0 = some (.cells [.int .i64 m.epoch, v, u] e ver)) (n : Nat) :
    ∀ (i : Nat) (s : T AV) (k : List Fr) (Q : Ex → T AV → Heap → Prop), i + n = m.starts.length → sg s 1 = .int .i64 nodes → sg s 2 = .ptr 0 0 → sg s 52 = v → sg s 53 = .int .i64 m.starts.length → sg s 54 = .int .i64 i →
      ((∀ j, i ≤ j → j < m.starts.length → mpAt nodes m j) → ∀ s', Un P k Q (.exit 0) s' hh) → ((¬ ∀ j, i ≤ j → j < m.starts.length → mpAt nodes m j) → ∀ s', sg s' 4 = .bool false → Un P k Q .ret s' hh) → Lp P b35_0 s hh (Un P k Q) := by
  have hb := hv.bound (by decide)
  induction n with
  | zero =>
    intro i s k Q hi h1 h2 h52 h53 h54 hK hR
    refine g.lpe b35_0.eq_1 ?_
    have c1 : ¬ ((i : Int) < (m.starts.length : Int)) := by omega
    simp only [h54, h53, c1, RX, VOp.fresh, bxC, bsC, un, most, callsOf, seval, Int.reducePow, ↓reduceIte, Nat.reduceEqDiff, reduceCtorEq]
    exact hK (fun j h1 h2 => by omega) _
  | succ n ih =>
    intro i s k Q hi h1 h2 h52 h53 h54 hK hR
    refine g.lpe b35_0.eq_1 ?_
    have c1 : (i : Int) < (m.starts.length : Int) := by omega
    obtain ⟨r1, _, g1⟩ := getInt hv i (by omega)
    obtain ⟨r2, _, g2⟩ := getInt hu i (by omega)
    have w1 : IntKind.i64.wrap ((i : Int) + 1) = ((i + 1 : Nat) : Int) := by rw [w64 (by omega) (by omega)]; push_cast; rfl
    have next : mpAt nodes m i → ∀ s' : T AV, sg s' 1 = .int .i64 nodes → sg s' 2 = .ptr 0 0 → sg s' 52 = v → sg s' 53 = .int .i64 m.starts.length → sg s' 54 = .int .i64 ((i + 1 : Nat) : Int) → Lp P b35_0 s' hh (Un P k Q) := by
      intro hok s' a1 a2 a3 a4 a5
      refine ih (i + 1) s' k Q (by omega) a1 a2 a3 a4 a5 (fun hall => hK fun j h1 h2 => ?_) (fun hn => hR fun hall => hn fun j h1 h2 => hall j (by omega) h2)
      rcases Nat.lt_or_ge i j with h | h
      · exact hall j h h2
      · have : j = i := by omega
        subst this; exact hok
    have stop : ¬ mpAt nodes m i → ∀ s' : T AV, sg s' 4 = .bool false → Un P k Q .ret s' hh := fun hn => hR fun hall => hn (hall i (Nat.le_refl _) (by omega))
    by_cases hi0 : i = 0
    · have c2 : ¬ ((0 : Int) < (i : Int)) := by omega
      simp +contextual (maxSteps := 2000000) only [h1, h2, h52, h53, h54, c1, g1, g2, hg, w1, c2, RX, VOp.fresh, bxC, bsC, un, most, callsOf, seval, Int.reducePow, ↓reduceIte, Nat.reduceEqDiff, reduceCtorEq]
      repeat' (first | apply And.intro | intro _)
      all_goals first
        | (refine next ⟨by omega, by omega, by omega, by omega⟩ _ ?_ ?_ ?_ ?_ ?_ <;> simp only [h1, h2, h52, h53, sg_set, Nat.reduceEqDiff, ↓reduceIte]; done)
        | (refine stop (fun hok => ?_) _ (by simp only [sg_set, Nat.reduceEqDiff, ↓reduceIte]); obtain ⟨a1, a2, a3, a4⟩ := hok; omega)
    · have c2 : (0 : Int) < (i : Int) := by omega
      obtain ⟨r3, _, g3⟩ := getInt hv (i - 1) (by omega)
      have w2 : IntKind.i64.wrap ((i : Int) - 1) = ((i - 1 : Nat) : Int) := by rw [w64 (by omega) (by omega)]; omega
      simp +contextual (maxSteps := 2000000) only [h1, h2, h52, h53, h54, c1, g1, g2, g3, hg, w1, w2, c2, RX, VOp.fresh, bxC, bsC, un, most, callsOf, seval, Int.reducePow, ↓reduceIte, Nat.reduceEqDiff, reduceCtorEq]
      repeat' (first | apply And.intro | intro _)
      all_goals first
        | (refine next ⟨by omega, by omega, by omega, by omega⟩ _ ?_ ?_ ?_ ?_ ?_ <;> simp only [h1, h2, h52, h53, sg_set, Nat.reduceEqDiff, ↓reduceIte]; done)
        | (refine stop (fun hok => ?_) _ (by simp only [sg_set, Nat.reduceEqDiff, ↓reduceIte]); obtain ⟨a1, a2, a3, a4⟩ := hok; omega)
theorem mapMay_pu (g : Pg P tab) {nodes : Int} {m : Mp} {v u : AV} (hv : IsL 8 RInt v m.starts) (hu : IsL 8 RInt u m.owners) : Pu P 35 [.agg [.int .i64 m.epoch, v, u], .int .i64 nodes] (IsB (mpOk nodes m)) := by
  refine g.pu (vf := v35) rfl rfl ?_
  have hb := hv.bound (by decide)
  by_cases h0 : 0 < m.starts.length
  · obtain ⟨r1, _, g1⟩ := getInt hv 0 h0
    simp only [Int.natCast_zero, Int.ofNat_zero, Int.ofNat_eq_natCast] at g1
    simp +contextual (maxSteps := 2000000) only [v35, hv.len, hu.len, g1, RX, VOp.fresh, bxC, bsC, un, most, callsOf, seval, Int.reducePow, ↓reduceIte, Nat.reduceEqDiff, reduceCtorEq]
    repeat' (first | apply And.intro | intro _)
    all_goals first
      | (rename_i hok; unfold mpOk at hok; omega)
      | skip
    refine mapMay_loop (nodes := nodes) g hv hu (by omega) _ (e := 24) (ver := 0) ?_ m.starts.length 0 _ _ _ (by omega) ?_ ?_ ?_ ?_ ?_ ?_ ?_
    · rw [Heap.get_mk, if_pos rfl]
    · simp only [sg_set, Nat.reduceEqDiff, ↓reduceIte]
    · simp only [sg_set, Nat.reduceEqDiff, ↓reduceIte]
    · simp only [sg_set, Nat.reduceEqDiff, ↓reduceIte]
    · simp only [sg_set, Nat.reduceEqDiff, ↓reduceIte]
    · simp only [sg_set, Nat.reduceEqDiff, ↓reduceIte]
      rfl
    · intro hall s'
      simp +contextual (maxSteps := 2000000) only [RX, VOp.fresh, bxC, bsC, un, most, callsOf, seval, Int.reducePow, ↓reduceIte, Nat.reduceEqDiff, reduceCtorEq]
      unfold mpOk
      exact ⟨by omega, by omega, by omega, by omega, by omega, by omega, by omega, by omega, fun i hi => hall i (by omega) hi⟩
    · intro hn s' h4
      simp +contextual (maxSteps := 2000000) only [h4, RX, VOp.fresh, bxC, bsC, un, most, callsOf, seval, Int.reducePow, ↓reduceIte, Nat.reduceEqDiff, reduceCtorEq]
      intro hok
      exact hn fun j _ hj => hok.2.2.2.2.2.2.2.2 j hj
  · have e0 : m.starts.length = 0 := by omega
    have c1 : ((m.starts.length : Int) < 1) := by omega
    simp +contextual (maxSteps := 2000000) only [v35, hv.len, hu.len, c1, RX, VOp.fresh, bxC, bsC, un, most, callsOf, seval, Int.reducePow, ↓reduceIte, Nat.reduceEqDiff, reduceCtorEq]
    repeat' (first | apply And.intro | intro _)
    all_goals (rename_i hok; unfold mpOk at hok; omega)
def nxt (n i : Nat) : Nat := if i + 1 = n then 0 else i + 1
def ringAt (closed : Bool) (r : List Pt) (i : Nat) : Prop := ptOk (r.getD i ⟨0, 0⟩) ∧ ((0 < nxt r.length i ∨ closed = true) → r.getD i ⟨0, 0⟩ ≠ r.getD (nxt r.length i) ⟨0, 0⟩)
def ringOk (least : Int) (closed : Bool) (r : List Pt) : Prop := least ≤ r.length ∧ r.length ≤ 16 ∧ ∀ i, i < r.length → ringAt closed r i
theorem getPt {v : AV} {l : List Pt} (h : IsL 16 RPt v l) (i : Nat) (hi : i < l.length) : ∃ r, AV.tolds r = true ∧ ∀ (hh : Heap) (kk : IntKind), iaV hh 2 none v (.int kk (i : Int)) = .val (.rp (.int .i64 (l.getD i ⟨0, 0⟩).x :: .int .i64 (l.getD i ⟨0, 0⟩).y :: r)) hh := by
  obtain ⟨ci, r, ⟨e, _⟩, ht, hia⟩ := h.get zPt tPt i hi
  have : l.getD i ⟨0, 0⟩ = l[i] := by simp [List.getD_eq_getElem?_getD, List.getElem?_eq_getElem hi]
  refine ⟨r, ?_, fun hh kk => ?_⟩
  · rw [e] at ht; exact ht
  · rw [hia, e, this]; rfl
theorem flat2 {a b c d : Int} : eqv (.flat [.int, .int]) (.agg [.int .i64 a, .int .i64 b]) (.agg [.int .i64 c, .int .i64 d]) = some (decide (a = c ∧ b = d)) := by
  simp only [eqv, List.length_cons, List.length_nil, and_self, if_true, sameCells, sameK]
  by_cases h : a = c <;> by_cases h' : b = d <;> simp [h, h', sameCells, sameK]
theorem pt_eq {p q : Pt} : (p.x = q.x ∧ p.y = q.y) = (p = q) := by
  rw [eq_iff_iff]; constructor
  · intro h; cases p; cases q; simp_all
  · rintro rfl; exact ⟨rfl, rfl⟩
theorem ring_loop (g : Pg P tab) {least : Int} {closed : Bool} {r : List Pt} {v : AV} (hv : IsL 16 RPt v r) (hr : r.length ≤ 16) (n : Nat) :
    ∀ (i : Nat) (s : T AV) (hh : Heap) (k : List Fr) (Q : Ex → T AV → Heap → Prop), i + n = r.length → sg s 0 = v → sg s 2 = .bool closed → sg s 19 = v → sg s 20 = .int .i64 r.length → sg s 21 = .int .i64 i →
      ((∀ j, i ≤ j → j < r.length → ringAt closed r j) → ∀ s' h', Un P k Q (.exit 0) s' h') → ((¬ ∀ j, i ≤ j → j < r.length → ringAt closed r j) → ∀ s' h', sg s' 6 = .bool false → Un P k Q .ret s' h') → Lp P b115_0 s hh (Un P k Q) := by
  induction n with
  | zero =>
    intro i s hh k Q hi h0 h2 h19 h20 h21 hK hR
    refine g.lpe b115_0.eq_1 ?_
    have c1 : ¬ ((i : Int) < (r.length : Int)) := by omega
    simp only [h21, h20, c1, RX, VOp.fresh, bxC, bsC, un, most, callsOf, seval, Int.reducePow, ↓reduceIte, Nat.reduceEqDiff, reduceCtorEq]
    exact hK (fun j h1 h2 => by omega) _ _
  | succ n ih =>
    intro i s hh k Q hi h0 h2 h19 h20 h21 hK hR
    refine g.lpe b115_0.eq_1 ?_
    have c1 : (i : Int) < (r.length : Int) := by omega
    obtain ⟨r1, _, g1⟩ := getPt hv i (by omega)
    have w1 : IntKind.i64.wrap ((i : Int) + 1) = ((i + 1 : Nat) : Int) := by rw [w64 (by omega) (by omega)]; push_cast; rfl
    have next : ringAt closed r i → ∀ (s' : T AV) (h' : Heap), sg s' 0 = v → sg s' 2 = .bool closed → sg s' 19 = v → sg s' 20 = .int .i64 r.length → sg s' 21 = .int .i64 ((i + 1 : Nat) : Int) → Lp P b115_0 s' h' (Un P k Q) := by
      intro hok s' h' a1 a2 a3 a4 a5
      refine ih (i + 1) s' h' k Q (by omega) a1 a2 a3 a4 a5 (fun hall => hK fun j h1 h2 => ?_) (fun hn => hR fun hall => hn fun j h1 h2 => hall j (by omega) h2)
      rcases Nat.lt_or_ge i j with h | h
      · exact hall j h h2
      · have : j = i := by omega
        subst this; exact hok
    have stop : ¬ ringAt closed r i → ∀ (s' : T AV) (h' : Heap), sg s' 6 = .bool false → Un P k Q .ret s' h' := fun hn => hR fun hall => hn (hall i (Nat.le_refl _) (by omega))
    have hpt := pointMay_pu g (r.getD i ⟨0, 0⟩)
    have hn : nxt r.length i = if i + 1 = r.length then 0 else i + 1 := rfl
    by_cases hl : i + 1 = r.length
    · have c2 : ((i + 1 : Nat) : Int) = (r.length : Int) := by omega
      rw [if_pos hl] at hn
      obtain ⟨r2, _, g2⟩ := getPt hv 0 (by omega)
      simp only [Int.natCast_zero, Int.ofNat_zero, Int.ofNat_eq_natCast] at g2
      simp +contextual (maxSteps := 2000000) only [RW, Bool.and_self, h0, h2, h19, h20, h21, c1, g1, hv.len, w1, c2, RX, VOp.fresh, bxC, bsC, un, most, callsOf, seval, Int.reducePow, ↓reduceIte, Nat.reduceEqDiff, reduceCtorEq]
      refine hpt.go rfl ?_
      rintro x rfl
      cases closed
      all_goals simp +contextual (maxSteps := 2000000) only [RW, Bool.and_self, h0, h2, h19, h20, h21, g2, w1, flat2, pt_eq, RX, VOp.fresh, bxC, bsC, un, most, callsOf, seval, Int.reducePow, ↓reduceIte, Nat.reduceEqDiff, reduceCtorEq]
      all_goals repeat' (first | apply And.intro | intro _)
      all_goals first
        | (refine next ⟨by assumption, ?_⟩ _ _ ?_ ?_ ?_ ?_ ?_ <;> first | (simp only [h0, h2, h19, h20, sg_set, Nat.reduceEqDiff, ↓reduceIte]; done) | (rw [hn]; simp_all; done))
        | (refine stop ?_ _ _ ?_ <;> first | (simp only [sg_set, Nat.reduceEqDiff, ↓reduceIte]; done) | (rintro ⟨a1, a2⟩; rw [hn] at a2; simp_all; done))
        | trace_state
    · have c2 : ¬ ((i + 1 : Nat) : Int) = (r.length : Int) := by omega
      rw [if_neg hl] at hn
      obtain ⟨r2, _, g2⟩ := getPt hv (i + 1) (by omega)
      have c3 : (0 : Int) < ((i + 1 : Nat) : Int) := by omega
      simp +contextual (maxSteps := 2000000) only [RW, Bool.and_self, h0, h2, h19, h20, h21, c1, g1, hv.len, w1, c2, RX, VOp.fresh, bxC, bsC, un, most, callsOf, seval, Int.reducePow, ↓reduceIte, Nat.reduceEqDiff, reduceCtorEq]
      refine hpt.go rfl ?_
      rintro x rfl
      cases closed
      all_goals simp +contextual (maxSteps := 2000000) only [RW, Bool.and_self, h0, h2, h19, h20, h21, g2, w1, flat2, pt_eq, c3, RX, VOp.fresh, bxC, bsC, un, most, callsOf, seval, Int.reducePow, ↓reduceIte, Nat.reduceEqDiff, reduceCtorEq]
      all_goals repeat' (first | apply And.intro | intro _)
      all_goals first
        | (refine next ⟨by assumption, ?_⟩ _ _ ?_ ?_ ?_ ?_ ?_ <;> first | (simp only [h0, h2, h19, h20, sg_set, Nat.reduceEqDiff, ↓reduceIte]; done) | (rw [hn]; simp_all; done))
        | (refine stop ?_ _ _ ?_ <;> first | (simp only [sg_set, Nat.reduceEqDiff, ↓reduceIte]; done) | (rintro ⟨a1, a2⟩; rw [hn] at a2; simp_all; done))
        | trace_state
theorem ring_pu (g : Pg P tab) {least : Int} {closed : Bool} {r : List Pt} {v : AV} (hv : IsL 16 RPt v r) : Pu P 115 [v, .int .i64 least, .bool closed] (IsB (ringOk least closed r)) := by
  refine g.pu (vf := v115) rfl rfl ?_
  simp +contextual (maxSteps := 2000000) only [v115, hv.len, RX, VOp.fresh, bxC, bsC, un, most, callsOf, seval, Int.reducePow, ↓reduceIte, Nat.reduceEqDiff, reduceCtorEq]
  repeat' (first | apply And.intro | intro _)
  all_goals first
    | (rename_i hok; unfold ringOk at hok; omega)
    | skip
  refine ring_loop g hv (least := least) (closed := closed) (by omega) r.length 0 _ _ _ _ (by omega) ?_ ?_ ?_ ?_ ?_ ?_ ?_
  · simp only [sg_set, Nat.reduceEqDiff, ↓reduceIte]
  · simp only [sg_set, Nat.reduceEqDiff, ↓reduceIte]
  · simp only [sg_set, Nat.reduceEqDiff, ↓reduceIte]
  · simp only [sg_set, Nat.reduceEqDiff, ↓reduceIte]
  · simp only [sg_set, Nat.reduceEqDiff, ↓reduceIte]
    rfl
  · intro hall s' h'
    simp +contextual (maxSteps := 2000000) only [RX, VOp.fresh, bxC, bsC, un, most, callsOf, seval, Int.reducePow, ↓reduceIte, Nat.reduceEqDiff, reduceCtorEq]
    exact ⟨by omega, by omega, fun i hi => hall i (by omega) hi⟩
  · intro hn s' h' h4
    simp +contextual (maxSteps := 2000000) only [h4, RX, VOp.fresh, bxC, bsC, un, most, callsOf, seval, Int.reducePow, ↓reduceIte, Nat.reduceEqDiff, reduceCtorEq]
    intro hok
    exact hn fun j _ hj => hok.2.2 j hj
theorem getRing {v : AV} {l : List (List Pt)} (h : IsL 24 RRing v l) (i : Nat) (hi : i < l.length) : ∃ rv r, IsL 16 RPt rv (l.getD i []) ∧ AV.tolds r = true ∧ ∀ (hh : Heap) (kk : IntKind), iaV hh 1 none v (.int kk (i : Int)) = .val (.rp (rv :: r)) hh := by
  obtain ⟨ci, r, ⟨rv, e, hr⟩, ht, hia⟩ := h.get zRing tRing i hi
  have : l.getD i [] = l[i] := by simp [List.getD_eq_getElem?_getD, List.getElem?_eq_getElem hi]
  refine ⟨rv, r, by rw [this]; exact hr, ?_, fun hh kk => ?_⟩
  · rw [e] at ht
    simp only [AV.tolds, List.cons_append, List.nil_append, Bool.and_eq_true] at ht
    exact ht.2
  · rw [hia, e]; rfl
theorem tolds1 {b : Nat} {α : Type} {R : α → List AV → Prop} {v : AV} {l : List α} (h : IsL b R v l) (ht : ∀ a c, R a c → AV.tolds c = true) : AV.tolds [v] = true := by
  simp [AV.tolds, h.told ht]
theorem mayRing_pu (g : Pg P tab) {r : List Pt} {v : AV} (hv : IsL 16 RPt v r) : Pu P 117 [v] (IsB (¬ ringOk 3 true r)) := by
  refine g.pu (vf := v117) rfl rfl ?_
  simp +contextual (maxSteps := 2000000) only [v117, RX, VOp.fresh, bxC, bsC, un, most, callsOf, seval, Int.reducePow, ↓reduceIte, Nat.reduceEqDiff, reduceCtorEq]
  refine (ring_pu g hv).go (by simp [AV.tolds, AV.told, hv.told tPt]) ?_
  rintro x ⟨b, rfl, hb⟩
  cases b <;> simp +contextual (maxSteps := 2000000) only [RX, VOp.fresh, bxC, bsC, un, most, callsOf, seval, Int.reducePow, ↓reduceIte, Nat.reduceEqDiff, reduceCtorEq] <;> simpa using hb
theorem indexFunc_loop (g : Pg P tab) {l : List (List Pt)} {v : AV} (hv : IsL 24 RRing v l) (n : Nat) :
    ∀ (i : Nat) (s : T AV) (hh : Heap) (k : List Fr) (Q : Ex → T AV → Heap → Prop), i + n = l.length → sg s 0 = v → sg s 1 = .fn 117 [] → sg s 7 = .int .i64 l.length → sg s 8 = .int .i64 i →
      ((∀ j, i ≤ j → j < l.length → ringOk 3 true (l.getD j [])) → ∀ s', Un P k Q (.exit 0) s' hh) → (∀ j, i ≤ j → j < l.length → ¬ ringOk 3 true (l.getD j []) → ∀ s', sg s' 4 = .int .i64 j → Un P k Q .ret s' hh) → Lp P b128_0 s hh (Un P k Q) := by
  have hb := hv.bound (by decide)
  induction n with
  | zero =>
    intro i s hh k Q hi h0 h1 h7 h8 hK hR
    refine g.lpe b128_0.eq_1 ?_
    have c1 : ¬ ((i : Int) < (l.length : Int)) := by omega
    simp only [h7, h8, c1, RX, VOp.fresh, bxC, bsC, un, most, callsOf, seval, Int.reducePow, ↓reduceIte, Nat.reduceEqDiff, reduceCtorEq]
    exact hK (fun j h1 h2 => by omega) _
  | succ n ih =>
    intro i s hh k Q hi h0 h1 h7 h8 hK hR
    refine g.lpe b128_0.eq_1 ?_
    have c1 : (i : Int) < (l.length : Int) := by omega
    obtain ⟨rv, r1, hrv, _, g1⟩ := getRing hv i (by omega)
    have w1 : IntKind.i64.wrap ((i : Int) + 1) = ((i + 1 : Nat) : Int) := by rw [w64 (by omega) (by omega)]; push_cast; rfl
    simp only [h0, h1, h7, h8, c1, g1, RX, VOp.fresh, bxC, bsC, un, most, callsOf, seval, Int.reducePow, ↓reduceIte, Nat.reduceEqDiff, reduceCtorEq]
    refine (mayRing_pu g hrv).go (tolds1 hrv tPt) ?_
    rintro x ⟨b, rfl, hbb⟩
    cases b
    · simp only [h8, w1, RX, VOp.fresh, bxC, bsC, un, most, callsOf, seval, Int.reducePow, ↓reduceIte, Nat.reduceEqDiff, reduceCtorEq]
      have hok : ringOk 3 true (l.getD i []) := by
        apply Classical.byContradiction
        intro hn
        exact absurd (hbb.2 hn) (by simp)
      refine ih (i + 1) _ hh k Q (by omega) ?_ ?_ ?_ ?_ (fun hall => hK fun j h1 h2 => ?_) (fun j h1 h2 => hR j (by omega) h2)
      · simp only [h0, sg_set, Nat.reduceEqDiff, ↓reduceIte]
      · simp only [h1, sg_set, Nat.reduceEqDiff, ↓reduceIte]
      · simp only [h7, sg_set, Nat.reduceEqDiff, ↓reduceIte]
      · simp only [sg_set, Nat.reduceEqDiff, ↓reduceIte]
      · rcases Nat.lt_or_ge i j with h | h
        · exact hall j h h2
        · have : j = i := by omega
          subst this; exact hok
    · simp only [h8, RX, VOp.fresh, bxC, bsC, un, most, callsOf, seval, Int.reducePow, ↓reduceIte, Nat.reduceEqDiff, reduceCtorEq]
      exact hR i (Nat.le_refl _) (by omega) (hbb.1 rfl) _ (by simp only [sg_set, Nat.reduceEqDiff, ↓reduceIte])
theorem indexFunc_pu (g : Pg P tab) {l : List (List Pt)} {v : AV} (hv : IsL 24 RRing v l) : Pu P 128 [v, .fn 117 []] (fun x => ∃ n : Int, x = .int .i64 n ∧ (0 ≤ n ↔ ¬ ∀ i, i < l.length → ringOk 3 true (l.getD i []))) := by
  refine g.pu (vf := v128) rfl rfl ?_
  simp only [v128, hv.len, RX, VOp.fresh, bxC, bsC, un, most, callsOf, seval, Int.reducePow, ↓reduceIte, Nat.reduceEqDiff, reduceCtorEq]
  refine indexFunc_loop g hv l.length 0 _ _ _ _ (by omega) ?_ ?_ ?_ ?_ ?_ ?_
  · simp only [sg_set, Nat.reduceEqDiff, ↓reduceIte]
  · simp only [sg_set, Nat.reduceEqDiff, ↓reduceIte]
  · simp only [sg_set, Nat.reduceEqDiff, ↓reduceIte]
  · simp only [sg_set, Nat.reduceEqDiff, ↓reduceIte]
    rfl
  · intro hall s'
    simp only [RX, VOp.fresh, bxC, bsC, un, most, callsOf, seval, Int.reducePow, ↓reduceIte, Nat.reduceEqDiff, reduceCtorEq]
    exact ⟨-1, rfl, by simp; exact fun i hi => hall i (by omega) hi⟩
  · intro j _ hj hn s' h4
    simp only [h4, RX, VOp.fresh, bxC, bsC, un, most, callsOf, seval, Int.reducePow, ↓reduceIte, Nat.reduceEqDiff, reduceCtorEq]
    exact ⟨j, rfl, ⟨fun _ h => hn (h j hj), fun _ => by omega⟩⟩
theorem containsFunc_pu (g : Pg P tab) {l : List (List Pt)} {v : AV} (hv : IsL 24 RRing v l) : Pu P 116 [v, .fn 117 []] (IsB (¬ ∀ i, i < l.length → ringOk 3 true (l.getD i []))) := by
  refine g.pu (vf := v116) rfl rfl ?_
  simp only [v116, RX, VOp.fresh, bxC, bsC, un, most, callsOf, seval, Int.reducePow, ↓reduceIte, Nat.reduceEqDiff, reduceCtorEq]
  refine (indexFunc_pu g hv).go (by simp [AV.tolds, AV.told, hv.told tRing]) ?_
  rintro x ⟨n, rfl, hn⟩
  simp only [RX, VOp.fresh, bxC, bsC, un, most, callsOf, seval, Int.reducePow, ↓reduceIte, Nat.reduceEqDiff, reduceCtorEq]
  exact hn
def featOk (f : Feat) : Prop := 1 ≤ f.id ∧ f.id ≤ 65535 ∧ 1 ≤ f.rings.length ∧ f.rings.length ≤ 4 ∧
  ((f.shape = 0 ∧ f.rings.length = 1 ∧ (f.rings.getD 0 []).length = 1 ∧ ptOk ((f.rings.getD 0 []).getD 0 ⟨0, 0⟩)) ∨ (f.shape = 1 ∧ f.rings.length = 1 ∧ ringOk 2 false (f.rings.getD 0 [])) ∨ (f.shape = 2 ∧ ∀ i, i < f.rings.length → ringOk 3 true (f.rings.getD i [])))
theorem shapeMay_pu (g : Pg P tab) {f : Feat} {v : AV} (hv : IsL 24 RRing v f.rings) : Pu P 88 [.agg [.int .i64 f.id, .int .i64 f.shape, v]] (IsB (featOk f)) := by
  refine g.pu (vf := v88) rfl rfl ?_
  have hb := hv.bound (by decide)
  by_cases h0 : 0 < f.rings.length
  · obtain ⟨rv, r1, hrv, t1, g1⟩ := getRing hv 0 h0
    simp only [Int.natCast_zero, Int.ofNat_zero, Int.ofNat_eq_natCast] at g1
    by_cases h1 : 0 < (f.rings.getD 0 []).length
    · obtain ⟨r2, t2, g2⟩ := getPt hrv 0 h1
      simp only [Int.natCast_zero, Int.ofNat_zero, Int.ofNat_eq_natCast] at g2
      simp +contextual (maxSteps := 2000000) only [v88, hv.len, hrv.len, g1, g2, RX, VOp.fresh, bxC, bsC, un, most, callsOf, seval, Int.reducePow, ↓reduceIte, Nat.reduceEqDiff, reduceCtorEq]
      repeat' (first | apply And.intro | intro _)
      all_goals first
        | (rename_i hok; obtain ⟨a1, a2, a3, a4, ⟨b1, b2, b3, b4⟩ | ⟨b1, b2, b3⟩ | ⟨b1, b2⟩⟩ := hok <;> omega)
        | (refine (pointMay_pu g _).go rfl ?_
           rintro x rfl
           simp +contextual (maxSteps := 2000000) only [RX, VOp.fresh, bxC, bsC, un, most, callsOf, seval, Int.reducePow, ↓reduceIte, Nat.reduceEqDiff, reduceCtorEq]
           exact ⟨fun h => ⟨by omega, by omega, by omega, by omega, .inl ⟨by omega, by omega, by omega, h⟩⟩, fun hok => by obtain ⟨a1, a2, a3, a4, ⟨b1, b2, b3, b4⟩ | ⟨b1, b2, b3⟩ | ⟨b1, b2⟩⟩ := hok <;> first | assumption | omega⟩)
        | (refine (ring_pu g hrv).go (by simp [AV.tolds, AV.told, hrv.told tPt]) ?_
           rintro x ⟨b, rfl, hbb⟩
           simp +contextual (maxSteps := 2000000) only [RX, VOp.fresh, bxC, bsC, un, most, callsOf, seval, Int.reducePow, ↓reduceIte, Nat.reduceEqDiff, reduceCtorEq]
           rw [hbb]
           exact ⟨fun h => ⟨by omega, by omega, by omega, by omega, .inr (.inl ⟨by omega, by omega, h⟩)⟩, fun hok => by obtain ⟨a1, a2, a3, a4, ⟨b1, b2, b3, b4⟩ | ⟨b1, b2, b3⟩ | ⟨b1, b2⟩⟩ := hok <;> first | assumption | omega⟩)
        | (refine (containsFunc_pu g hv).go (by simp [AV.tolds, AV.told, hv.told tRing]) ?_
           rintro x ⟨b, rfl, hbb⟩
           cases b <;> simp +contextual (maxSteps := 2000000) only [RX, VOp.fresh, bxC, bsC, un, most, callsOf, seval, Int.reducePow, ↓reduceIte, Nat.reduceEqDiff, reduceCtorEq]
           · exact ⟨by omega, by omega, by omega, by omega, .inr (.inr ⟨by omega, Classical.byContradiction fun hn => absurd (hbb.2 hn) (by simp)⟩)⟩
           · intro hok; obtain ⟨a1, a2, a3, a4, ⟨b1, b2, b3, b4⟩ | ⟨b1, b2, b3⟩ | ⟨b1, b2⟩⟩ := hok <;> first | exact hbb.1 rfl b2 | omega)
        | trace_state
    · have e1 : (f.rings.getD 0 []).length = 0 := by omega
      simp +contextual (maxSteps := 2000000) only [v88, hv.len, hrv.len, g1, e1, RX, VOp.fresh, bxC, bsC, un, most, callsOf, seval, Int.reducePow, ↓reduceIte, Nat.reduceEqDiff, reduceCtorEq]
      repeat' (first | apply And.intro | intro _)
      all_goals first
        | (rename_i hok; obtain ⟨a1, a2, a3, a4, ⟨b1, b2, b3, b4⟩ | ⟨b1, b2, b3⟩ | ⟨b1, b2⟩⟩ := hok <;> omega)
        | (refine (ring_pu g hrv).go (by simp [AV.tolds, AV.told, hrv.told tPt]) ?_
           rintro x ⟨b, rfl, hbb⟩
           simp +contextual (maxSteps := 2000000) only [RX, VOp.fresh, bxC, bsC, un, most, callsOf, seval, Int.reducePow, ↓reduceIte, Nat.reduceEqDiff, reduceCtorEq]
           rw [hbb]
           exact ⟨fun h => ⟨by omega, by omega, by omega, by omega, .inr (.inl ⟨by omega, by omega, h⟩)⟩, fun hok => by obtain ⟨a1, a2, a3, a4, ⟨b1, b2, b3, b4⟩ | ⟨b1, b2, b3⟩ | ⟨b1, b2⟩⟩ := hok <;> first | assumption | omega⟩)
        | (refine (containsFunc_pu g hv).go (by simp [AV.tolds, AV.told, hv.told tRing]) ?_
           rintro x ⟨b, rfl, hbb⟩
           cases b <;> simp +contextual (maxSteps := 2000000) only [RX, VOp.fresh, bxC, bsC, un, most, callsOf, seval, Int.reducePow, ↓reduceIte, Nat.reduceEqDiff, reduceCtorEq]
           · exact ⟨by omega, by omega, by omega, by omega, .inr (.inr ⟨by omega, Classical.byContradiction fun hn => absurd (hbb.2 hn) (by simp)⟩)⟩
           · intro hok; obtain ⟨a1, a2, a3, a4, ⟨b1, b2, b3, b4⟩ | ⟨b1, b2, b3⟩ | ⟨b1, b2⟩⟩ := hok <;> first | exact hbb.1 rfl b2 | omega)
        | trace_state
  · have e0 : f.rings.length = 0 := by omega
    have c1 : (f.rings.length : Int) < 1 := by omega
    simp +contextual (maxSteps := 2000000) only [v88, hv.len, c1, RX, VOp.fresh, bxC, bsC, un, most, callsOf, seval, Int.reducePow, ↓reduceIte, Nat.reduceEqDiff, reduceCtorEq]
    repeat' (first | apply And.intro | intro _)
    all_goals (rename_i hok; obtain ⟨a1, a2, a3, a4, _⟩ := hok; omega)
end
end Go.Proofs.Ythmkenkjfmbkiaa.VM
namespace Go.Proofs.Ythmkenkjfmbkiaa.VM
attribute [local irreducible] Af Nx EvO Ev Un Gd Cd EvR EvQ EvC Nc Gc Lp EvM NxM AfM GdM EvMR EvMQ EvMD EvMC Nm Gm
def opOk (nodes : Int) (o : Op) : Prop := (o.kind = 0 ∧ featOk o.f ∧ o.id = 0 ∧ mpZero o.m) ∨ (o.kind = 1 ∧ 1 ≤ o.id ∧ o.id ≤ 65535 ∧ ftZero o.f ∧ mpZero o.m) ∨ (o.kind = 2 ∧ mpOk nodes o.m ∧ o.id = 0 ∧ ftZero o.f)
def opId (o : Op) : Int := if o.kind = 0 then o.f.id else o.id
def op0 : Op := ⟨0, ⟨0, 0, []⟩, 0, ⟨0, [], []⟩⟩
section
variable {P : Program}
theorem opMay_pu (g : Pg P tab) {nodes : Int} {o : Op} {c r : List AV} (hc : ROp o c) (hr : AV.tolds r = true) : Pu P 73 [.rp (c ++ r), .int .i64 nodes] (IsB (opOk nodes o)) := by
  refine g.pu (vf := v73) rfl rfl ?_
  obtain ⟨v, a, u, rfl, _, _, _, hv, _, _, ha, hu⟩ := hc
  have tv := hv.told tRing
  have ta := ha.told tInt
  have tu := hu.told tInt
  simp +contextual (maxSteps := 2000000) only [v73, RX, VOp.fresh, bxC, bsC, un, most, callsOf, seval, Int.reducePow, ↓reduceIte, Nat.reduceEqDiff, reduceCtorEq]
  repeat' (first | apply And.intro | intro _)
  · -- a put
    refine (shapeMay_pu g hv).go (by simp [AV.tolds, AV.told, tv]) ?_
    rintro x ⟨b, rfl, hb⟩
    cases b
    · simp +contextual (maxSteps := 2000000) only [RX, VOp.fresh, bxC, bsC, un, most, callsOf, seval, Int.reducePow, ↓reduceIte, Nat.reduceEqDiff, reduceCtorEq]
      rintro (⟨h1, h2, h3, h4⟩ | ⟨h1, _⟩ | ⟨h1, _⟩)
      · exact absurd (hb.2 h2) (by simp)
      · omega
      · omega
    · simp +contextual (maxSteps := 2000000) only [RX, VOp.fresh, bxC, bsC, un, most, callsOf, seval, Int.reducePow, ↓reduceIte, Nat.reduceEqDiff, reduceCtorEq]
      repeat' (first | apply And.intro | intro _)
      · refine (noMap_pu g ha hu _).go (by simp [AV.tolds, AV.told, ta, tu, hr]) ?_
        rintro x ⟨b, rfl, hb2⟩
        simp +contextual (maxSteps := 2000000) only [RX, VOp.fresh, bxC, bsC, un, most, callsOf, seval, Int.reducePow, ↓reduceIte, Nat.reduceEqDiff, reduceCtorEq]
        rw [hb2]
        exact ⟨fun h => .inl ⟨by assumption, hb.1 rfl, by assumption, h⟩, fun h => by rcases h with ⟨_, _, _, h4⟩ | ⟨h1, _⟩ | ⟨h1, _⟩ <;> first | exact h4 | omega⟩
      · rename_i hok
        rcases hok with ⟨_, _, h3, _⟩ | ⟨h1, _⟩ | ⟨h1, _⟩ <;> first | contradiction | omega
  · -- a delete
    refine (noFeature_pu g hv _).go (by simp [AV.tolds, AV.told, tv, ta, tu, hr]) ?_
    rintro x ⟨b, rfl, hb⟩
    cases b
    · simp +contextual (maxSteps := 2000000) only [RX, VOp.fresh, bxC, bsC, un, most, callsOf, seval, Int.reducePow, ↓reduceIte, Nat.reduceEqDiff, reduceCtorEq]
      rintro (⟨h1, _⟩ | ⟨h1, h2, h3, h4, h5⟩ | ⟨h1, _⟩)
      · omega
      · exact absurd (hb.2 h4) (by simp)
      · omega
    · simp +contextual (maxSteps := 2000000) only [RX, VOp.fresh, bxC, bsC, un, most, callsOf, seval, Int.reducePow, ↓reduceIte, Nat.reduceEqDiff, reduceCtorEq]
      refine (noMap_pu g ha hu _).go (by simp [AV.tolds, AV.told, ta, tu, hr]) ?_
      rintro x ⟨b, rfl, hb2⟩
      simp +contextual (maxSteps := 2000000) only [RX, VOp.fresh, bxC, bsC, un, most, callsOf, seval, Int.reducePow, ↓reduceIte, Nat.reduceEqDiff, reduceCtorEq]
      rw [hb2]
      exact ⟨fun h => .inr (.inl ⟨by assumption, by omega, by omega, hb.1 rfl, h⟩), fun h => by rcases h with ⟨h1, _⟩ | ⟨_, _, _, _, h4⟩ | ⟨h1, _⟩ <;> first | exact h4 | omega⟩
  · rename_i hok
    rcases hok with ⟨h1, _⟩ | ⟨h1, _⟩ | ⟨h1, _⟩ <;> omega
  · rename_i hok
    rcases hok with ⟨h1, _⟩ | ⟨h1, _⟩ | ⟨h1, _⟩ <;> omega
  · -- a map
    refine (mapMay_pu g ha hu).go (by simp [AV.tolds, AV.told, ta, tu]) ?_
    rintro x ⟨b, rfl, hb⟩
    cases b
    · simp +contextual (maxSteps := 2000000) only [RX, VOp.fresh, bxC, bsC, un, most, callsOf, seval, Int.reducePow, ↓reduceIte, Nat.reduceEqDiff, reduceCtorEq]
      rintro (⟨h1, _⟩ | ⟨h1, _⟩ | ⟨h1, h2, h3, h4⟩)
      · omega
      · omega
      · exact absurd (hb.2 h2) (by simp)
    · simp +contextual (maxSteps := 2000000) only [RX, VOp.fresh, bxC, bsC, un, most, callsOf, seval, Int.reducePow, ↓reduceIte, Nat.reduceEqDiff, reduceCtorEq]
      repeat' (first | apply And.intro | intro _)
      · refine (noFeature_pu g hv _).go (by simp [AV.tolds, AV.told, tv, ta, tu, hr]) ?_
        rintro x ⟨b, rfl, hb2⟩
        simp +contextual (maxSteps := 2000000) only [RX, VOp.fresh, bxC, bsC, un, most, callsOf, seval, Int.reducePow, ↓reduceIte, Nat.reduceEqDiff, reduceCtorEq]
        rw [hb2]
        exact ⟨fun h => .inr (.inr ⟨by assumption, hb.1 rfl, by assumption, h⟩), fun h => by rcases h with ⟨h1, _⟩ | ⟨h1, _⟩ | ⟨_, _, _, h4⟩ <;> first | exact h4 | omega⟩
      · rename_i hok
        rcases hok with ⟨h1, _⟩ | ⟨h1, _⟩ | ⟨_, _, h3, _⟩ <;> first | contradiction | omega
  · rename_i hok
    rcases hok with ⟨h1, _⟩ | ⟨h1, _⟩ | ⟨h1, _⟩ <;> contradiction
theorem opId_pu (g : Pg P tab) {o : Op} {c r : List AV} (hc : ROp o c) : Pu P 74 [.rp (c ++ r)] (fun x => x = .int .i64 (opId o)) := by
  refine g.pu (vf := v74) rfl rfl ?_
  obtain ⟨v, a, u, rfl, _⟩ := hc
  simp +contextual (maxSteps := 2000000) only [v74, opId, RX, VOp.fresh, bxC, bsC, un, most, callsOf, seval, Int.reducePow, ↓reduceIte, Nat.reduceEqDiff, reduceCtorEq]
theorem getOp {v : AV} {l : List Op} (h : IsL 112 ROp v l) (i : Nat) (hi : i < l.length) : ∃ c r, ROp (l.getD i op0) c ∧ AV.tolds c = true ∧ AV.tolds r = true ∧ ∀ (hh : Heap) (kk : IntKind), iaV hh 8 none v (.int kk (i : Int)) = .val (.rp (c ++ r)) hh := by
  obtain ⟨ci, r, hr, ht, hia⟩ := h.get zOp tOp i hi
  have : l.getD i op0 = l[i] := by simp [List.getD_eq_getElem?_getD, List.getElem?_eq_getElem hi]
  rw [Cat.told.tolds_append, Bool.and_eq_true] at ht
  exact ⟨ci, r, by rw [this]; exact hr, ht.1, ht.2, hia⟩
def opsAt (nodes : Int) (l : List Op) (i : Nat) : Prop := opOk nodes (l.getD i op0) ∧ ((l.getD i op0).kind = 2 → i = 0) ∧ (0 < opId (l.getD i op0) → ∀ j, j < i → opId (l.getD j op0) ≠ opId (l.getD i op0))
def opsOk (nodes : Int) (l : List Op) : Prop := 1 ≤ l.length ∧ l.length ≤ 32 ∧ ∀ i, i < l.length → opsAt nodes l i
/-- the ids that were seen -/
def idsTo (l : List Op) : Nat → List Int
  | 0 => []
  | i + 1 => if 0 < opId (l.getD i op0) then idsTo l i ++ [opId (l.getD i op0)] else idsTo l i
theorem idsTo_mem (l : List Op) (x : Int) : ∀ i, x ∈ idsTo l i ↔ 0 < x ∧ ∃ j, j < i ∧ opId (l.getD j op0) = x
  | 0 => by simp [idsTo]
  | i + 1 => by
    unfold idsTo
    have ih := idsTo_mem l x i
    split
    · rename_i h
      rw [List.mem_append, ih, List.mem_singleton]
      constructor
      · rintro (⟨a, j, b, c⟩ | rfl)
        · exact ⟨a, j, by omega, c⟩
        · exact ⟨h, i, by omega, rfl⟩
      · rintro ⟨a, j, b, c⟩
        rcases Nat.lt_or_ge j i with h' | h'
        · exact .inl ⟨a, j, h', c⟩
        · have : j = i := by omega
          subst this; exact .inr c.symm
    · rename_i h
      rw [ih]
      constructor
      · rintro ⟨a, j, b, c⟩; exact ⟨a, j, by omega, c⟩
      · rintro ⟨a, j, b, c⟩
        refine ⟨a, j, ?_, c⟩
        rcases Nat.lt_or_ge j i with h' | h'
        · exact h'
        · have : j = i := by omega
          subst this; omega
def seenE (ids : List Int) : List (AV × AV) := ids.map fun x => (.int .i64 x, .bool true)
theorem findE_seen (x : Int) : ∀ ids : List Int, findE .int (.int .i64 x) (seenE ids) = some (if x ∈ ids then some (.bool true) else none)
  | [] => rfl
  | y :: ids => by
    show (match sameK .int (.int .i64 x) (.int .i64 y) with | some true => some (some (AV.bool true)) | some false => findE .int (.int .i64 x) (seenE ids) | none => none) = _
    have : sameK .int (.int .i64 x) (.int .i64 y) = some (decide (x = y)) := by simp [sameK]
    rw [this]
    by_cases e : x = y
    · simp [e]
    · simp [e, findE_seen x ids]
theorem updE_seen {x : Int} : ∀ {ids : List Int}, x ∉ ids → updE .int (.int .i64 x) (.bool true) (seenE ids) = seenE (ids ++ [x])
  | [], _ => rfl
  | y :: ids, h => by
    have hne : x ≠ y := fun e => h (by rw [e]; exact .head _)
    have : sameK .int (.int .i64 x) (.int .i64 y) = some (decide (x = y)) := by simp [sameK]
    show (match sameK .int (.int .i64 x) (.int .i64 y) with | some true => (AV.int .i64 x, AV.bool true) :: seenE ids | _ => (AV.int .i64 y, AV.bool true) :: updE .int (.int .i64 x) (.bool true) (seenE ids)) = _
    rw [this, decide_eq_false hne]
    simp only [updE_seen (fun hm => h (.tail _ hm))]
    rfl
theorem lkB_seen {hh : Heap} {x : Int} {ids : List Int} {ver : Nat} : lkB .int (.bool false) false hh (.int .i64 x) (some (.map (seenE ids) ver)) = .val (.bool (decide (x ∈ ids))) hh := by
  simp only [lkB, findE_seen]
  by_cases h : x ∈ ids <;> simp [h]
theorem muB_seen {hh : Heap} {b : Nat} {x : Int} {ids : List Int} {ver : Nat} (h : x ∉ ids) : muB .int hh b (.int .i64 x) (.bool true) (some (.map (seenE ids) ver)) = .val .undef (hh.put b (.map (seenE (ids ++ [x])) (ver + 1))) := by
  simp only [muB, findE_seen, updE_seen h]
theorem opsMay_loop (g : Pg P tab) {nodes : Int} {l : List Op} {v : AV} (hv : IsL 112 ROp v l) (hl : l.length ≤ 32) (b : Nat) (n : Nat) :
    ∀ (i : Nat) (s : T AV) (hh : Heap) (ver : Nat) (k : List Fr) (Q : Ex → T AV → Heap → Prop), i + n = l.length → sg s 0 = v → sg s 1 = .int .i64 nodes → sg s 5 = .map b → sg s 19 = .int .i64 l.length → sg s 20 = .int .i64 i →
      hh.get b = some (.map (seenE (idsTo l i)) ver) →
      ((∀ j, i ≤ j → j < l.length → opsAt nodes l j) → ∀ s' h', Un P k Q (.exit 0) s' h') → ((¬ ∀ j, i ≤ j → j < l.length → opsAt nodes l j) → ∀ s' h', sg s' 4 = .bool false → Un P k Q .ret s' h') → Lp P b47_0 s hh (Un P k Q) := by
  induction n with
  | zero =>
    intro i s hh ver k Q hi h0 h1 h5 h19 h20 hg hK hR
    refine g.lpe b47_0.eq_1 ?_
    have c1 : ¬ ((i : Int) < (l.length : Int)) := by omega
    simp only [h19, h20, c1, RX, VOp.fresh, bxC, bsC, un, most, callsOf, seval, Int.reducePow, ↓reduceIte, Nat.reduceEqDiff, reduceCtorEq]
    exact hK (fun j h1 h2 => by omega) _ _
  | succ n ih =>
    intro i s hh ver k Q hi h0 h1 h5 h19 h20 hg hK hR
    refine g.lpe b47_0.eq_1 ?_
    have c1 : (i : Int) < (l.length : Int) := by omega
    obtain ⟨c, r, hc, tc, tr, g1⟩ := getOp hv i (by omega)
    have w1 : IntKind.i64.wrap ((i : Int) + 1) = ((i + 1 : Nat) : Int) := by rw [w64 (by omega) (by omega)]; push_cast; rfl
    have next : opsAt nodes l i → ∀ (s' : T AV) (h' : Heap) (ver' : Nat), sg s' 0 = v → sg s' 1 = .int .i64 nodes → sg s' 5 = .map b → sg s' 19 = .int .i64 l.length → sg s' 20 = .int .i64 ((i + 1 : Nat) : Int) →
        h'.get b = some (.map (seenE (idsTo l (i + 1))) ver') → Lp P b47_0 s' h' (Un P k Q) := by
      intro hok s' h' ver' a1 a2 a3 a4 a5 a6
      refine ih (i + 1) s' h' ver' k Q (by omega) a1 a2 a3 a4 a5 a6 (fun hall => hK fun j h1 h2 => ?_) (fun hn => hR fun hall => hn fun j h1 h2 => hall j (by omega) h2)
      rcases Nat.lt_or_ge i j with h | h
      · exact hall j h h2
      · have : j = i := by omega
        subst this; exact hok
    have stop : ¬ opsAt nodes l i → ∀ (s' : T AV) (h' : Heap), sg s' 4 = .bool false → Un P k Q .ret s' h' := fun hn => hR fun hall => hn (hall i (Nat.le_refl _) (by omega))
    simp only [h0, h1, h5, h19, h20, c1, g1, RX, VOp.fresh, bxC, bsC, un, most, callsOf, seval, Int.reducePow, ↓reduceIte, Nat.reduceEqDiff, reduceCtorEq]
    refine (opMay_pu g hc tr).go (by simp [AV.tolds, AV.told, Cat.told.tolds_append, tc, tr]) ?_
    rintro x ⟨ob, rfl, hob⟩
    have hid := opId_pu g (r := r) hc
    have hkind : ∃ c', c = .int .i64 (l.getD i op0).kind :: c' := by
      obtain ⟨v', a, u, rfl, _⟩ := hc
      exact ⟨_, rfl⟩
    obtain ⟨c', rfl⟩ := hkind
    cases ob
    · simp only [RX, VOp.fresh, bxC, bsC, un, most, callsOf, seval, Int.reducePow, ↓reduceIte, Nat.reduceEqDiff, reduceCtorEq]
      exact stop (fun hok => absurd (hob.2 hok.1) (by simp)) _ _ (by simp only [sg_set, Nat.reduceEqDiff, ↓reduceIte])
    · have hok := hob.1 rfl
      generalize hx : opId (l.getD i op0) = x0 at *
      have hids : idsTo l (i + 1) = if 0 < x0 then idsTo l i ++ [x0] else idsTo l i := by rw [idsTo, hx]
      by_cases hk : (l.getD i op0).kind = 2
      · rw [hk] at hid tc
        by_cases hi0 : (0 : Int) < (i : Int)
        · simp only [h0, h1, h5, h19, h20, hk, hi0, RX, VOp.fresh, bxC, bsC, un, most, callsOf, seval, Int.reducePow, ↓reduceIte, Nat.reduceEqDiff, reduceCtorEq]
          exact stop (fun hok => absurd (hok.2.1 hk) (by omega)) _ _ (by simp only [sg_set, Nat.reduceEqDiff, ↓reduceIte])
        · simp only [h0, h1, h5, h19, h20, hk, hi0, RX, VOp.fresh, bxC, bsC, un, most, callsOf, seval, Int.reducePow, ↓reduceIte, Nat.reduceEqDiff, reduceCtorEq]
          refine hid.go (by simp [AV.tolds, AV.told, Cat.told.tolds_append, tc, tr]; simpa [AV.tolds, AV.told] using tc) ?_
          rintro x rfl
          by_cases hp : 0 < x0
          · by_cases hm : x0 ∈ idsTo l i
            · simp only [h0, h1, h5, h19, h20, hp, hm, hg, lkB_seen, RX, VOp.fresh, bxC, bsC, un, most, callsOf, seval, Int.reducePow, ↓reduceIte, Nat.reduceEqDiff, reduceCtorEq]
              refine stop (fun hok => ?_) _ _ (by simp only [sg_set, Nat.reduceEqDiff, ↓reduceIte])
              obtain ⟨_, j, h1, h2⟩ := (idsTo_mem l _ i).1 hm
              exact hok.2.2 (by rw [hx]; exact hp) j h1 (by rw [hx]; exact h2)
            · simp only [h0, h1, h5, h19, h20, hp, hm, hg, lkB_seen, muB_seen hm, w1, RX, VOp.fresh, bxC, bsC, un, most, callsOf, seval, Int.reducePow, ↓reduceIte, Nat.reduceEqDiff, reduceCtorEq]
              refine next ⟨hok, fun _ => by omega, fun _ j h1 h2 => hm ((idsTo_mem l _ i).2 ⟨hp, j, h1, by rw [h2, hx]⟩)⟩ _ _ (ver + 1) ?_ ?_ ?_ ?_ ?_ ?_
              · simp only [h0, sg_set, Nat.reduceEqDiff, ↓reduceIte]
              · simp only [h1, sg_set, Nat.reduceEqDiff, ↓reduceIte]
              · simp only [h5, sg_set, Nat.reduceEqDiff, ↓reduceIte]
              · simp only [h19, sg_set, Nat.reduceEqDiff, ↓reduceIte]
              · simp only [sg_set, Nat.reduceEqDiff, ↓reduceIte]
              · rw [Heap.get_put, if_pos rfl, hids, if_pos hp]
          · simp only [h0, h1, h5, h19, h20, hp, w1, RX, VOp.fresh, bxC, bsC, un, most, callsOf, seval, Int.reducePow, ↓reduceIte, Nat.reduceEqDiff, reduceCtorEq]
            refine next ⟨hok, fun _ => by omega, fun h => absurd (by rw [hx] at h; exact h) hp⟩ _ _ ver ?_ ?_ ?_ ?_ ?_ ?_
            · simp only [h0, sg_set, Nat.reduceEqDiff, ↓reduceIte]
            · simp only [h1, sg_set, Nat.reduceEqDiff, ↓reduceIte]
            · simp only [h5, sg_set, Nat.reduceEqDiff, ↓reduceIte]
            · simp only [h19, sg_set, Nat.reduceEqDiff, ↓reduceIte]
            · simp only [sg_set, Nat.reduceEqDiff, ↓reduceIte]
            · rw [hg, hids, if_neg hp]
      · simp only [h0, h1, h5, h19, h20, hk, RX, VOp.fresh, bxC, bsC, un, most, callsOf, seval, Int.reducePow, ↓reduceIte, Nat.reduceEqDiff, reduceCtorEq]
        refine hid.go (by simp [AV.tolds, AV.told, Cat.told.tolds_append, tc, tr]; simpa [AV.tolds, AV.told] using tc) ?_
        rintro x rfl
        by_cases hp : 0 < x0
        · by_cases hm : x0 ∈ idsTo l i
          · simp only [h0, h1, h5, h19, h20, hp, hm, hg, lkB_seen, RX, VOp.fresh, bxC, bsC, un, most, callsOf, seval, Int.reducePow, ↓reduceIte, Nat.reduceEqDiff, reduceCtorEq]
            refine stop (fun hok => ?_) _ _ (by simp only [sg_set, Nat.reduceEqDiff, ↓reduceIte])
            obtain ⟨_, j, h1, h2⟩ := (idsTo_mem l _ i).1 hm
            exact hok.2.2 (by rw [hx]; exact hp) j h1 (by rw [hx]; exact h2)
          · simp only [h0, h1, h5, h19, h20, hp, hm, hg, lkB_seen, muB_seen hm, w1, RX, VOp.fresh, bxC, bsC, un, most, callsOf, seval, Int.reducePow, ↓reduceIte, Nat.reduceEqDiff, reduceCtorEq]
            refine next ⟨hok, fun h => absurd h hk, fun _ j h1 h2 => hm ((idsTo_mem l _ i).2 ⟨hp, j, h1, by rw [h2, hx]⟩)⟩ _ _ (ver + 1) ?_ ?_ ?_ ?_ ?_ ?_
            · simp only [h0, sg_set, Nat.reduceEqDiff, ↓reduceIte]
            · simp only [h1, sg_set, Nat.reduceEqDiff, ↓reduceIte]
            · simp only [h5, sg_set, Nat.reduceEqDiff, ↓reduceIte]
            · simp only [h19, sg_set, Nat.reduceEqDiff, ↓reduceIte]
            · simp only [sg_set, Nat.reduceEqDiff, ↓reduceIte]
            · rw [Heap.get_put, if_pos rfl, hids, if_pos hp]
        · simp only [h0, h1, h5, h19, h20, hp, w1, RX, VOp.fresh, bxC, bsC, un, most, callsOf, seval, Int.reducePow, ↓reduceIte, Nat.reduceEqDiff, reduceCtorEq]
          refine next ⟨hok, fun h => absurd h hk, fun h => absurd (by rw [hx] at h; exact h) hp⟩ _ _ ver ?_ ?_ ?_ ?_ ?_ ?_
          · simp only [h0, sg_set, Nat.reduceEqDiff, ↓reduceIte]
          · simp only [h1, sg_set, Nat.reduceEqDiff, ↓reduceIte]
          · simp only [h5, sg_set, Nat.reduceEqDiff, ↓reduceIte]
          · simp only [h19, sg_set, Nat.reduceEqDiff, ↓reduceIte]
          · simp only [sg_set, Nat.reduceEqDiff, ↓reduceIte]
          · rw [hg, hids, if_neg hp]
theorem opsMay_pu (g : Pg P tab) {nodes : Int} {l : List Op} {v : AV} (hv : IsL 112 ROp v l) : Pu P 47 [v, .int .i64 nodes] (IsB (opsOk nodes l)) := by
  refine g.pu (vf := v47) rfl rfl ?_
  have hb := hv.bound (by decide)
  simp +contextual (maxSteps := 2000000) only [v47, hv.len, RX, VOp.fresh, bxC, bsC, un, most, callsOf, seval, Int.reducePow, ↓reduceIte, Nat.reduceEqDiff, reduceCtorEq]
  repeat' (first | apply And.intro | intro _)
  all_goals first
    | (rename_i hok; unfold opsOk at hok; omega)
    | skip
  refine opsMay_loop (nodes := nodes) g hv (by omega) 0 l.length 0 _ _ 0 _ _ (by omega) ?_ ?_ ?_ ?_ ?_ ?_ ?_ ?_
  · simp only [sg_set, Nat.reduceEqDiff, ↓reduceIte]
  · simp only [sg_set, Nat.reduceEqDiff, ↓reduceIte]
  · simp only [sg_set, Nat.reduceEqDiff, ↓reduceIte]
  · simp only [sg_set, Nat.reduceEqDiff, ↓reduceIte]
  · simp only [sg_set, Nat.reduceEqDiff, ↓reduceIte]
    rfl
  · rw [Heap.get_mk, if_pos rfl]; rfl
  · intro hall s' h'
    simp +contextual (maxSteps := 2000000) only [RX, VOp.fresh, bxC, bsC, un, most, callsOf, seval, Int.reducePow, ↓reduceIte, Nat.reduceEqDiff, reduceCtorEq]
    exact ⟨by omega, by omega, fun i hi => hall i (by omega) hi⟩
  · intro hn s' h' h4
    simp +contextual (maxSteps := 2000000) only [h4, RX, VOp.fresh, bxC, bsC, un, most, callsOf, seval, Int.reducePow, ↓reduceIte, Nat.reduceEqDiff, reduceCtorEq]
    intro hok
    exact hn fun j _ hj => hok.2.2 j hj
end
end Go.Proofs.Ythmkenkjfmbkiaa.VM
namespace Go.Proofs.Ythmkenkjfmbkiaa.VM
attribute [local irreducible] Af Nx EvO Ev Un Gd Cd EvR EvQ EvC Nc Gc Lp EvM NxM AfM GdM EvMR EvMQ EvMD EvMC Nm Gm
section
variable {P : Program}
theorem num_pu (g : Pg P tab) (n : Int) : Pu P 17 [.int .i64 n] (fun v => v = .int .i64 n) := by
  refine g.pu (vf := v17) rfl rfl ?_
  simp +contextual (maxSteps := 2000000) (disch := omega) only [v17, RX, VOp.fresh, bxC, bsC, un, most, callsOf, seval, Int.reducePow, ↓reduceIte, Nat.reduceEqDiff, reduceCtorEq]
def f5 : Feat := ⟨5, 0, [[⟨6, 7⟩]]⟩
theorem i64c {n : Int} (a : -1000000 ≤ n) (b : n ≤ 1000000) : I64 n := ⟨by omega, by omega⟩
theorem i0 : I64 0 := i64c (by decide) (by decide)
theorem i1 : I64 1 := i64c (by decide) (by decide)
theorem i5 : I64 5 := i64c (by decide) (by decide)
end
end Go.Proofs.Ythmkenkjfmbkiaa.VM
namespace Go.Proofs.Ythmkenkjfmbkiaa.VM
attribute [local irreducible] Af Nx EvO Ev Un Gd Cd EvR EvQ EvC Nc Gc Lp EvM NxM AfM GdM EvMR EvMQ EvMD EvMC Nm Gm
theorem getD_ring {l : List (List Pt)} {i : Nat} (hi : i < l.length) : l.getD i [] = l[i] := by simp [List.getD_eq_getElem?_getD, List.getElem?_eq_getElem hi]
end Go.Proofs.Ythmkenkjfmbkiaa.VM
namespace Go.Proofs.Ythmkenkjfmbkiaa.VM
attribute [local irreducible] Af Nx EvO Ev Un Gd Cd EvR EvQ EvC Nc Gc Lp EvM NxM AfM GdM EvMR EvMQ EvMD EvMC Nm Gm
def cPt (p : Pt) : List AV := [.int .i64 p.x, .int .i64 p.y]
def cRing (r : List Pt) : AV := cRow ((r.map cPt).flatten) r.length
def cRings (rs : List (List Pt)) : AV := cRow (rs.map cRing) rs.length
def cFeat (f : Feat) : List AV := [.int .i64 f.id, .int .i64 f.shape, cRings f.rings]
def cInts (l : List Int) : AV := cRow (l.map (AV.int .i64)) l.length
def cOpL (o : Op) : List AV := [.int .i64 o.kind, .int .i64 o.f.id, .int .i64 o.f.shape, cRings o.f.rings, .int .i64 o.id, .int .i64 o.m.epoch, cInts o.m.starts, cInts o.m.owners]
def cOpsL (l : List Op) : AV := cRow ((l.map cOpL).flatten) l.length
/-- sizes of data that stay small -/
def ringSm (r : List Pt) : Prop := r.length ≤ 1000000 ∧ ∀ p ∈ r, I64 p.x ∧ I64 p.y
def featSm (f : Feat) : Prop := I64 f.id ∧ I64 f.shape ∧ f.rings.length ≤ 1000000 ∧ ∀ r ∈ f.rings, ringSm r
def intsSm (l : List Int) : Prop := l.length ≤ 1000000 ∧ ∀ x ∈ l, I64 x
def mpSm (m : Mp) : Prop := I64 m.epoch ∧ intsSm m.starts ∧ intsSm m.owners
def opSm (o : Op) : Prop := I64 o.kind ∧ featSm o.f ∧ I64 o.id ∧ mpSm o.m
def opsSm (l : List Op) : Prop := l.length ≤ 1000000 ∧ ∀ o ∈ l, opSm o
theorem row_isL {α : Type} {b : Nat} {R : α → List AV → Prop} {l : List α} {c : List AV} (hb : l.length * b ≤ reachBytes) (h : Cat R l c) : IsL b R (cRow c l.length) l := by
  cases l with
  | nil => exact isL_nil b R
  | cons x l => rw [cRow_s _ (by simp)]; exact isL_rs h hb
theorem reach_eq : reachBytes = 140737488351232 := rfl
end Go.Proofs.Ythmkenkjfmbkiaa.VM
namespace Go.Proofs.Ythmkenkjfmbkiaa.VM
attribute [local irreducible] Af Nx EvO Ev Un Gd Cd EvR EvQ EvC Nc Gc Lp EvM NxM AfM GdM EvMR EvMQ EvMD EvMC Nm Gm
theorem Lvs.put {h : Heap} {B : Nat → Prop} {x y : List AV} (l : Lvs h B x y) {b : Nat} (hb : ¬ B b) (o : Blk) : Lvs (h.put b o) B x y := l.frame (by rw [put_next]; exact Nat.le_refl _) fun c hc _ => by rw [Heap.get_put, if_neg (show ¬ c = b from fun e => hb (e ▸ hc))]
end Go.Proofs.Ythmkenkjfmbkiaa.VM
namespace Go.Proofs.Ythmkenkjfmbkiaa.VM
attribute [local irreducible] Af Nx EvO Ev Un Gd Cd EvR EvQ EvC Nc Gc Lp EvM NxM AfM GdM EvMR EvMQ EvMD EvMC Nm Gm
section
variable {P : Program}
theorem rPoint_pu (g : Pg P tab) (p : Pt) : Pu P 100 [.agg [.int .i64 p.x, .int .i64 p.y]] (IsB (ptOk p)) := by
  refine g.pu (vf := v100) rfl rfl ?_
  simp +contextual (maxSteps := 2000000) (disch := omega) only [v100, ptOk, coordOk, and_assoc, RX, VOp.fresh, bxC, bsC, un, most, callsOf, seval, Int.reducePow, ↓reduceIte, Nat.reduceEqDiff, reduceCtorEq]
theorem rZeroMap_pu (g : Pg P tab) {m : Mp} {v u : AV} (hv : IsL 8 RInt v m.starts) (hu : IsL 8 RInt u m.owners) : Pu P 98 [.agg [.int .i64 m.epoch, v, u]] (IsB (mpZero m)) := by
  refine g.pu (vf := v98) rfl rfl ?_
  simp +contextual (maxSteps := 2000000) (disch := omega) only [v98, hv.len, hu.len, mpZero, len0, RX, VOp.fresh, bxC, bsC, un, most, callsOf, seval, Int.reducePow, ↓reduceIte, Nat.reduceEqDiff, reduceCtorEq]
theorem rZeroFeat_pu (g : Pg P tab) {f : Feat} {v : AV} (hv : IsL 24 RRing v f.rings) : Pu P 99 [.agg [.int .i64 f.id, .int .i64 f.shape, v]] (IsB (ftZero f)) := by
  refine g.pu (vf := v99) rfl rfl ?_
  simp +contextual (maxSteps := 2000000) (disch := omega) only [v99, hv.len, ftZero, len0, RX, VOp.fresh, bxC, bsC, un, most, callsOf, seval, Int.reducePow, ↓reduceIte, Nat.reduceEqDiff, reduceCtorEq]
def rrAt (r : List Pt) (i : Nat) : Prop := ptOk (r.getD i ⟨0, 0⟩) ∧ (0 < i → r.getD i ⟨0, 0⟩ ≠ r.getD (i - 1) ⟨0, 0⟩)
theorem rRing_loop (g : Pg P tab) {r : List Pt} {v : AV} {sh : Int} (hv : IsL 16 RPt v r) (hr : r.length ≤ 16) (n : Nat) :
    ∀ (i : Nat) (s : T AV) (hh : Heap) (k : List Fr) (Q : Ex → T AV → Heap → Prop), i + n = r.length → sg s 1 = v → sg s 0 = .int .i64 sh → sg s 5 = .int .i64 i →
      ((∀ j, i ≤ j → j < r.length → rrAt r j) → ∀ s' h', sg s' 1 = v → sg s' 0 = .int .i64 sh → Un P k Q (.exit 0) s' h') → ((¬ ∀ j, i ≤ j → j < r.length → rrAt r j) → ∀ s' h', sg s' 4 = .bool false → Un P k Q .ret s' h') → Lp P b77_0 s hh (Un P k Q) := by
  induction n with
  | zero =>
    intro i s hh k Q hi h1 h0 h5 hK hR
    refine g.lpe b77_0.eq_1 ?_
    have c1 : ¬ ((i : Int) < (r.length : Int)) := by omega
    simp only [h1, h5, hv.len, c1, RX, VOp.fresh, bxC, bsC, un, most, callsOf, seval, Int.reducePow, ↓reduceIte, Nat.reduceEqDiff, reduceCtorEq]
    exact hK (fun j h1 h2 => by omega) _ _ (by simp only [h1, sg_set, Nat.reduceEqDiff, ↓reduceIte]) (by simp only [h0, sg_set, Nat.reduceEqDiff, ↓reduceIte])
  | succ n ih =>
    intro i s hh k Q hi h1 h0 h5 hK hR
    refine g.lpe b77_0.eq_1 ?_
    have c1 : (i : Int) < (r.length : Int) := by omega
    obtain ⟨r1, _, g1⟩ := getPt hv i (by omega)
    have w1 : IntKind.i64.wrap ((i : Int) + 1) = ((i + 1 : Nat) : Int) := by rw [w64 (by omega) (by omega)]; push_cast; rfl
    have w2 : IntKind.i64.wrap ((i : Int) - 1) = (i : Int) - 1 := w64 (by omega) (by omega)
    have no : ¬ rrAt r i → ¬ ∀ j, i ≤ j → j < r.length → rrAt r j := fun h hall => h (hall i (Nat.le_refl _) (by omega))
    have step : rrAt r i → ∀ s' h', sg s' 1 = v → sg s' 0 = .int .i64 sh → sg s' 5 = .int .i64 (i + 1 : Nat) → Lp P b77_0 s' h' (Un P k Q) := fun hok s' h' a1 a0 a5 => by
      have all : (∀ j, i ≤ j → j < r.length → rrAt r j) ↔ ∀ j, i + 1 ≤ j → j < r.length → rrAt r j := ⟨fun h j h1 h2 => h j (by omega) h2, fun h j h1 h2 => by
        rcases Nat.lt_or_ge i j with h3 | h3
        · exact h j h3 h2
        · rw [show j = i by omega]; exact hok⟩
      exact ih (i + 1) _ _ k Q (by omega) a1 a0 a5 (fun h => hK (all.2 h)) (fun h => hR (fun h' => h (all.1 h')))
    simp only [h1, h5, hv.len, c1, g1, RX, VOp.fresh, bxC, bsC, un, most, callsOf, seval, Int.reducePow, ↓reduceIte, Nat.reduceEqDiff, reduceCtorEq]
    refine (rPoint_pu g _).go rfl ?_
    rintro x ⟨b, rfl, hb⟩
    cases b
    · simp only [h1, h5, RX, VOp.fresh, bxC, bsC, un, most, callsOf, seval, Int.reducePow, ↓reduceIte, Nat.reduceEqDiff, reduceCtorEq]
      exact hR (no fun h => by have := hb.2 h.1; cases this) _ _ (by simp only [sg_set, Nat.reduceEqDiff, ↓reduceIte])
    · simp only [h1, h5, RX, VOp.fresh, bxC, bsC, un, most, callsOf, seval, Int.reducePow, ↓reduceIte, Nat.reduceEqDiff, reduceCtorEq]
      by_cases hi0 : i = 0
      · have c2 : ¬ ((0 : Int) < (i : Int)) := by omega
        simp only [c2, h5, w1, RX, VOp.fresh, bxC, bsC, un, most, callsOf, seval, Int.reducePow, ↓reduceIte, Nat.reduceEqDiff, reduceCtorEq]
        refine step ⟨hb.1 rfl, fun h => by omega⟩ _ _ ?_ ?_ ?_
        · simp only [h1, sg_set, Nat.reduceEqDiff, ↓reduceIte]
        · simp only [h0, sg_set, Nat.reduceEqDiff, ↓reduceIte]
        · simp only [sg_set, Nat.reduceEqDiff, ↓reduceIte]
      · have c2 : (0 : Int) < (i : Int) := by omega
        obtain ⟨r2, _, g2⟩ := getPt hv (i - 1) (by omega)
        have ec : ((i - 1 : Nat) : Int) = (i : Int) - 1 := by omega
        rw [ec] at g2
        by_cases he : r.getD i ⟨0, 0⟩ = r.getD (i - 1) ⟨0, 0⟩
        · have he' : (r.getD i ⟨0, 0⟩).x = (r.getD (i - 1) ⟨0, 0⟩).x ∧ (r.getD i ⟨0, 0⟩).y = (r.getD (i - 1) ⟨0, 0⟩).y := by rw [he]; exact ⟨rfl, rfl⟩
          simp only [c2, w2, g2, g1, h1, h5, flat2, he', RX, VOp.fresh, bxC, bsC, un, most, callsOf, seval, Int.reducePow, ↓reduceIte, Nat.reduceEqDiff, reduceCtorEq]
          exact hR (no fun h => h.2 (by omega) he) _ _ (by simp only [sg_set, Nat.reduceEqDiff, ↓reduceIte])
        · have he' : ¬ ((r.getD i ⟨0, 0⟩).x = (r.getD (i - 1) ⟨0, 0⟩).x ∧ (r.getD i ⟨0, 0⟩).y = (r.getD (i - 1) ⟨0, 0⟩).y) := by rw [pt_eq]; exact he
          simp only [c2, w2, g2, g1, h1, h5, flat2, he', w1, RX, VOp.fresh, bxC, bsC, un, most, callsOf, seval, Int.reducePow, ↓reduceIte, Nat.reduceEqDiff, reduceCtorEq]
          refine step ⟨hb.1 rfl, fun h => he⟩ _ _ ?_ ?_ ?_
          · simp only [h1, sg_set, Nat.reduceEqDiff, ↓reduceIte]
          · simp only [h0, sg_set, Nat.reduceEqDiff, ↓reduceIte]
          · simp only [sg_set, Nat.reduceEqDiff, ↓reduceIte]
def rRing (sh : Int) (r : List Pt) : Prop := r.length ≤ 16 ∧ (∀ i, i < r.length → rrAt r i) ∧ ((sh = 0 ∧ r.length = 1) ∨ (sh = 1 ∧ 2 ≤ r.length) ∨ (sh = 2 ∧ 3 ≤ r.length ∧ r.getD 0 ⟨0, 0⟩ ≠ r.getD (r.length - 1) ⟨0, 0⟩))
theorem rRing_pu (g : Pg P tab) {r : List Pt} {v : AV} {sh : Int} (hv : IsL 16 RPt v r) : Pu P 77 [.int .i64 sh, v] (IsB (rRing sh r)) := by
  refine g.pu (vf := v77) rfl rfl ?_
  have hb := hv.bound (by decide)
  by_cases hl : r.length ≤ 16
  · have c1 : ¬ ((16 : Int) < (r.length : Int)) := by omega
    simp only [v77, hv.len, c1, RX, VOp.fresh, bxC, bsC, un, most, callsOf, seval, Int.reducePow, ↓reduceIte, Nat.reduceEqDiff, reduceCtorEq]
    refine rRing_loop g hv (sh := sh) hl r.length 0 _ _ _ _ (by omega) ?_ ?_ ?_ ?_ ?_
    · simp only [sg_set, Nat.reduceEqDiff, ↓reduceIte]
    · simp only [sg_set, Nat.reduceEqDiff, ↓reduceIte]
    · simp only [sg_set, Nat.reduceEqDiff, ↓reduceIte]
      rfl
    · intro hall s' h' a1 a0
      have hall' : ∀ i, i < r.length → rrAt r i := fun i hi => hall i (by omega) hi
      by_cases k0 : sh = 0
      · have d1 : ((r.length : Int) = 1) = (r.length = 1) := by rw [eq_iff_iff]; omega
        simp only [a0, a1, k0, hv.len, d1, RX, VOp.fresh, bxC, bsC, un, most, callsOf, seval, Int.reducePow, ↓reduceIte, Nat.reduceEqDiff, reduceCtorEq]
        exact ⟨fun h => ⟨hl, hall', .inl ⟨rfl, h⟩⟩, fun h => by rcases h.2.2 with h | h | h; exact h.2; exact absurd h.1 (by decide); exact absurd h.1 (by decide)⟩
      · by_cases k1 : sh = 1
        · have d1 : ((2 : Int) ≤ (r.length : Int)) = (2 ≤ r.length) := by rw [eq_iff_iff]; omega
          simp only [a0, a1, k1, hv.len, d1, RX, VOp.fresh, bxC, bsC, un, most, callsOf, seval, Int.reducePow, ↓reduceIte, Nat.reduceEqDiff, reduceCtorEq]
          exact ⟨fun h => ⟨hl, hall', .inr (.inl ⟨rfl, h⟩)⟩, fun h => by rcases h.2.2 with h | h | h; exact absurd h.1 (by decide); exact h.2; exact absurd h.1 (by decide)⟩
        · by_cases k2 : sh = 2
          · by_cases h3 : 3 ≤ r.length
            · have d1 : (3 : Int) ≤ (r.length : Int) := by omega
              obtain ⟨r1, _, g1⟩ := getPt hv 0 (by omega)
              obtain ⟨r2, _, g2⟩ := getPt hv (r.length - 1) (by omega)
              have ec : ((r.length - 1 : Nat) : Int) = (r.length : Int) - 1 := by omega
              rw [ec] at g2
              simp only [Int.natCast_zero, Int.ofNat_zero, Int.ofNat_eq_natCast] at g1
              have w2 : IntKind.i64.wrap ((r.length : Int) - 1) = (r.length : Int) - 1 := w64 (by omega) (by omega)
              simp only [a0, a1, k2, hv.len, d1, g1, g2, w2, flat2, pt_eq, RX, VOp.fresh, bxC, bsC, un, most, callsOf, seval, Int.reducePow, ↓reduceIte, Nat.reduceEqDiff, reduceCtorEq]
              refine ⟨fun h => ⟨hl, hall', .inr (.inr ⟨rfl, h3, by simpa using h⟩)⟩, fun h => ?_⟩
              rcases h.2.2 with h | h | h
              · exact absurd h.1 (by decide)
              · exact absurd h.1 (by decide)
              · simpa using h.2.2
            · have d1 : ¬ (3 : Int) ≤ (r.length : Int) := by omega
              simp only [a0, a1, k2, hv.len, d1, RX, VOp.fresh, bxC, bsC, un, most, callsOf, seval, Int.reducePow, ↓reduceIte, Nat.reduceEqDiff, reduceCtorEq]
              intro h
              rcases h.2.2 with h | h | h
              · exact absurd h.1 (by decide)
              · exact absurd h.1 (by decide)
              · exact h3 h.2.1
          · simp only [a0, a1, k0, k1, k2, RX, VOp.fresh, bxC, bsC, un, most, callsOf, seval, Int.reducePow, ↓reduceIte, Nat.reduceEqDiff, reduceCtorEq]
            intro h
            rcases h.2.2 with h | h | h
            · exact k0 h.1
            · exact k1 h.1
            · exact k2 h.1
    · intro hn s' h' h4
      simp only [h4, RX, VOp.fresh, bxC, bsC, un, most, callsOf, seval, Int.reducePow, ↓reduceIte, Nat.reduceEqDiff, reduceCtorEq]
      exact fun h => hn fun j _ hj => h.2.1 j hj
  · have c1 : (16 : Int) < (r.length : Int) := by omega
    simp only [v77, hv.len, c1, RX, VOp.fresh, bxC, bsC, un, most, callsOf, seval, Int.reducePow, ↓reduceIte, Nat.reduceEqDiff, reduceCtorEq]
    exact fun h => hl h.1
theorem rings_eq {r : List Pt} {c : Bool} (h1 : 1 ≤ r.length) : (∀ i, i < r.length → ringAt c r i) ↔ (∀ i, i < r.length → rrAt r i) ∧ (c = true → r.getD 0 ⟨0, 0⟩ ≠ r.getD (r.length - 1) ⟨0, 0⟩) := by
  constructor
  · intro h
    refine ⟨fun i hi => ⟨(h i hi).1, fun h0 => ?_⟩, fun hc => ?_⟩
    · have := (h (i - 1) (by omega)).2
      have e : nxt r.length (i - 1) = i := by unfold nxt; rw [if_neg (by omega)]; omega
      rw [e] at this
      exact fun e => this (.inl h0) e.symm
    · have := (h (r.length - 1) (by omega)).2 (.inr hc)
      have e : nxt r.length (r.length - 1) = 0 := by unfold nxt; rw [if_pos (by omega)]
      rw [e] at this
      exact fun e => this e.symm
  · rintro ⟨h, k⟩ i hi
    refine ⟨(h i hi).1, fun hc => ?_⟩
    unfold nxt at hc ⊢
    by_cases e : i + 1 = r.length
    · rw [if_pos e] at hc ⊢
      rcases hc with hc | hc
      · omega
      · have := k hc
        rw [show r.length - 1 = i by omega] at this
        exact fun e => this e.symm
    · rw [if_neg e] at hc ⊢
      have := (h (i + 1) (by omega)).2 (by omega)
      rw [Nat.add_sub_cancel] at this
      exact fun e => this e.symm
def rFeat (f : Feat) : Prop := 1 ≤ f.id ∧ f.id ≤ 65535 ∧ 1 ≤ f.rings.length ∧ f.rings.length ≤ 4 ∧ (f.shape = 2 ∨ f.rings.length = 1) ∧ ∀ i, i < f.rings.length → rRing f.shape (f.rings.getD i [])
theorem rFeat_eq (f : Feat) : rFeat f ↔ featOk f := by
  constructor
  · rintro ⟨a1, a2, a3, a4, a5, a6⟩
    refine ⟨a1, a2, a3, a4, ?_⟩
    have h0 := a6 0 (by omega)
    rcases h0.2.2 with ⟨k, h⟩ | ⟨k, h⟩ | ⟨k, h⟩
    · exact .inl ⟨k, by omega, h, (h0.2.1 0 (by omega)).1⟩
    · exact .inr (.inl ⟨k, by omega, by omega, by have := h0.1; omega, (rings_eq (by omega)).2 ⟨h0.2.1, fun e => by cases e⟩⟩)
    · refine .inr (.inr ⟨k, fun i hi => ?_⟩)
      have hi' := a6 i hi
      rcases hi'.2.2 with ⟨k', h⟩ | ⟨k', h⟩ | ⟨k', h, h2⟩
      · omega
      · omega
      · exact ⟨by omega, by have := hi'.1; omega, (rings_eq (by omega)).2 ⟨hi'.2.1, fun _ => h2⟩⟩
  · rintro ⟨a1, a2, a3, a4, h⟩
    rcases h with ⟨k, b2, b3, b4⟩ | ⟨k, b2, b3⟩ | ⟨k, b2⟩
    · refine ⟨a1, a2, a3, a4, .inr b2, fun i hi => ?_⟩
      have : i = 0 := by omega
      subst this
      refine ⟨by omega, fun j hj => ?_, .inl ⟨k, b3⟩⟩
      have : j = 0 := by omega
      subst this
      exact ⟨b4, fun h => by omega⟩
    · refine ⟨a1, a2, a3, a4, .inr b2, fun i hi => ?_⟩
      have : i = 0 := by omega
      subst this
      obtain ⟨c1, c2, c3⟩ := b3
      exact ⟨by omega, ((rings_eq (by omega)).1 c3).1, .inr (.inl ⟨k, by omega⟩)⟩
    · refine ⟨a1, a2, a3, a4, .inl k, fun i hi => ?_⟩
      obtain ⟨c1, c2, c3⟩ := b2 i hi
      have := (rings_eq (by omega)).1 c3
      exact ⟨by omega, this.1, .inr (.inr ⟨k, by omega, this.2 rfl⟩)⟩
theorem rFeat_loop (g : Pg P tab) {f : Feat} {v : AV} (hv : IsL 24 RRing v f.rings) {hh : Heap} {e : TypeId} {ver : Nat} (hg : hh.get 0 = some (.cells [.int .i64 f.id, .int .i64 f.shape, v] e ver)) (n : Nat) :
    ∀ (i : Nat) (s : T AV) (k : List Fr) (Q : Ex → T AV → Heap → Prop), i + n = f.rings.length → sg s 1 = .ptr 0 0 → sg s 3 = .int .i64 i →
      ((∀ j, i ≤ j → j < f.rings.length → rRing f.shape (f.rings.getD j [])) → ∀ s', Un P k Q (.exit 0) s' hh) → ((¬ ∀ j, i ≤ j → j < f.rings.length → rRing f.shape (f.rings.getD j [])) → ∀ s', sg s' 2 = .bool false → Un P k Q .ret s' hh) → Lp P b50_0 s hh (Un P k Q) := by
  have hb := hv.bound (by decide)
  induction n with
  | zero =>
    intro i s k Q hi h1 h3 hK hR
    refine g.lpe b50_0.eq_1 ?_
    have c1 : ¬ ((i : Int) < (f.rings.length : Int)) := by omega
    simp only [h1, h3, hg, hv.len, c1, RX, VOp.fresh, bxC, bsC, un, most, callsOf, seval, Int.reducePow, ↓reduceIte, Nat.reduceEqDiff, reduceCtorEq]
    exact hK (fun j h1 h2 => by omega) _
  | succ n ih =>
    intro i s k Q hi h1 h3 hK hR
    refine g.lpe b50_0.eq_1 ?_
    have c1 : (i : Int) < (f.rings.length : Int) := by omega
    obtain ⟨rv, r1, hrv, _, g1⟩ := getRing hv i (by omega)
    have w1 : IntKind.i64.wrap ((i : Int) + 1) = ((i + 1 : Nat) : Int) := by rw [w64 (by omega) (by omega)]; push_cast; rfl
    simp only [h1, h3, hg, hv.len, c1, g1, RX, VOp.fresh, bxC, bsC, un, most, callsOf, seval, Int.reducePow, ↓reduceIte, Nat.reduceEqDiff, reduceCtorEq]
    refine (rRing_pu g hrv).go (by simp [AV.tolds, AV.told, hrv.told tPt]) ?_
    rintro x ⟨b, rfl, hbb⟩
    cases b
    · simp only [h3, RX, VOp.fresh, bxC, bsC, un, most, callsOf, seval, Int.reducePow, ↓reduceIte, Nat.reduceEqDiff, reduceCtorEq]
      refine hR (fun hall => ?_) _ (by simp only [sg_set, Nat.reduceEqDiff, ↓reduceIte])
      have := hbb.2 (hall i (Nat.le_refl _) (by omega))
      cases this
    · simp only [h3, w1, RX, VOp.fresh, bxC, bsC, un, most, callsOf, seval, Int.reducePow, ↓reduceIte, Nat.reduceEqDiff, reduceCtorEq]
      have hok := hbb.1 rfl
      have all : (∀ j, i ≤ j → j < f.rings.length → rRing f.shape (f.rings.getD j [])) ↔ ∀ j, i + 1 ≤ j → j < f.rings.length → rRing f.shape (f.rings.getD j []) := ⟨fun h j h1 h2 => h j (by omega) h2, fun h j h1 h2 => by
        rcases Nat.lt_or_ge i j with h3 | h3
        · exact h j h3 h2
        · rw [show j = i by omega]; exact hok⟩
      refine ih (i + 1) _ k Q (by omega) ?_ ?_ (fun h => hK (all.2 h)) (fun h => hR (fun h' => h (all.1 h')))
      · simp only [h1, sg_set, Nat.reduceEqDiff, ↓reduceIte]
      · simp only [sg_set, Nat.reduceEqDiff, ↓reduceIte]
theorem rShape_pu (g : Pg P tab) {f : Feat} {v : AV} (hv : IsL 24 RRing v f.rings) : Pu P 50 [.agg [.int .i64 f.id, .int .i64 f.shape, v]] (IsB (featOk f)) := by
  rw [show IsB (featOk f) = IsB (rFeat f) from by rw [show featOk f = rFeat f from propext (rFeat_eq f).symm]]
  refine g.pu (vf := v50) rfl rfl ?_
  have d1 : ((f.rings.length : Int) < 1) = ¬ (1 ≤ f.rings.length) := by rw [eq_iff_iff]; omega
  have d2 : ((4 : Int) < (f.rings.length : Int)) = ¬ (f.rings.length ≤ 4) := by rw [eq_iff_iff]; omega
  have d3 : ((f.rings.length : Int) = 1) = (f.rings.length = 1) := by rw [eq_iff_iff]; omega
  by_cases hc : 1 ≤ f.id ∧ f.id ≤ 65535 ∧ 1 ≤ f.rings.length ∧ f.rings.length ≤ 4 ∧ (f.shape = 2 ∨ f.rings.length = 1)
  · obtain ⟨e1, e2, e3, e4, e5⟩ := hc
    have f1 : ¬ f.id < 1 := by omega
    have f2 : ¬ 65535 < f.id := by omega
    have go : ∀ (s : T AV) (k : List Fr) (Q : Ex → T AV → Heap → Prop), True := fun _ _ _ => trivial
    rcases e5 with e5 | e5
    · simp only [v50, hv.len, d1, d2, d3, f1, f2, e3, e4, e5, RX, VOp.fresh, bxC, bsC, un, most, callsOf, seval, Int.reducePow, ↓reduceIte, Nat.reduceEqDiff, reduceCtorEq]
      refine rFeat_loop g hv (by rw [Heap.get_mk, if_pos rfl, e5]) f.rings.length 0 _ _ _ (by omega) ?_ ?_ ?_ ?_
      · simp only [sg_set, Nat.reduceEqDiff, ↓reduceIte]
      · simp only [sg_set, Nat.reduceEqDiff, ↓reduceIte]
        rfl
      · intro hall s'
        simp only [RX, VOp.fresh, bxC, bsC, un, most, callsOf, seval, Int.reducePow, ↓reduceIte, Nat.reduceEqDiff, reduceCtorEq]
        exact ⟨e1, e2, e3, e4, .inl e5, fun i hi => hall i (by omega) hi⟩
      · intro hn s' h2
        simp only [h2, RX, VOp.fresh, bxC, bsC, un, most, callsOf, seval, Int.reducePow, ↓reduceIte, Nat.reduceEqDiff, reduceCtorEq]
        exact fun h => hn fun j _ hj => h.2.2.2.2.2 j hj
    · by_cases e6 : f.shape = 2
      · simp only [v50, hv.len, d1, d2, d3, f1, f2, e3, e4, e5, e6, RX, VOp.fresh, bxC, bsC, un, most, callsOf, seval, Int.reducePow, ↓reduceIte, Nat.reduceEqDiff, reduceCtorEq]
        refine rFeat_loop g hv (by rw [Heap.get_mk, if_pos rfl, e6]) f.rings.length 0 _ _ _ (by omega) ?_ ?_ ?_ ?_
        · simp only [sg_set, Nat.reduceEqDiff, ↓reduceIte]
        · simp only [sg_set, Nat.reduceEqDiff, ↓reduceIte]
          rfl
        · intro hall s'
          simp only [RX, VOp.fresh, bxC, bsC, un, most, callsOf, seval, Int.reducePow, ↓reduceIte, Nat.reduceEqDiff, reduceCtorEq]
          exact ⟨e1, e2, e3, e4, .inr e5, fun i hi => hall i (by omega) hi⟩
        · intro hn s' h2
          simp only [h2, RX, VOp.fresh, bxC, bsC, un, most, callsOf, seval, Int.reducePow, ↓reduceIte, Nat.reduceEqDiff, reduceCtorEq]
          exact fun h => hn fun j _ hj => h.2.2.2.2.2 j hj
      · simp only [v50, hv.len, d1, d2, d3, f1, f2, e3, e4, e5, e6, RX, VOp.fresh, bxC, bsC, un, most, callsOf, seval, Int.reducePow, ↓reduceIte, Nat.reduceEqDiff, reduceCtorEq]
        refine rFeat_loop g hv (by rw [Heap.get_mk, if_pos rfl]) f.rings.length 0 _ _ _ (by omega) ?_ ?_ ?_ ?_
        · simp only [sg_set, Nat.reduceEqDiff, ↓reduceIte]
        · simp only [sg_set, Nat.reduceEqDiff, ↓reduceIte]
          rfl
        · intro hall s'
          simp only [RX, VOp.fresh, bxC, bsC, un, most, callsOf, seval, Int.reducePow, ↓reduceIte, Nat.reduceEqDiff, reduceCtorEq]
          exact ⟨e1, e2, e3, e4, .inr e5, fun i hi => hall i (by omega) hi⟩
        · intro hn s' h2
          simp only [h2, RX, VOp.fresh, bxC, bsC, un, most, callsOf, seval, Int.reducePow, ↓reduceIte, Nat.reduceEqDiff, reduceCtorEq]
          exact fun h => hn fun j _ hj => h.2.2.2.2.2 j hj
  · have no : ¬ rFeat f := fun h => hc ⟨h.1, h.2.1, h.2.2.1, h.2.2.2.1, h.2.2.2.2.1⟩
    by_cases f1 : f.id < 1
    · simp only [v50, f1, no, RX, VOp.fresh, bxC, bsC, un, most, callsOf, seval, Int.reducePow, ↓reduceIte, Nat.reduceEqDiff, reduceCtorEq]
    · by_cases f2 : 65535 < f.id
      · simp only [v50, f1, f2, no, RX, VOp.fresh, bxC, bsC, un, most, callsOf, seval, Int.reducePow, ↓reduceIte, Nat.reduceEqDiff, reduceCtorEq]
      · by_cases e3 : 1 ≤ f.rings.length
        · by_cases e4 : f.rings.length ≤ 4
          · have e5 : ¬ f.shape = 2 := fun e => hc ⟨by omega, by omega, e3, e4, .inl e⟩
            have e6 : ¬ f.rings.length = 1 := fun e => hc ⟨by omega, by omega, e3, e4, .inr e⟩
            simp only [v50, hv.len, d1, d2, d3, f1, f2, e3, e4, e5, e6, no, RX, VOp.fresh, bxC, bsC, un, most, callsOf, seval, Int.reducePow, ↓reduceIte, Nat.reduceEqDiff, reduceCtorEq]
          · simp only [v50, hv.len, d1, d2, f1, f2, e3, e4, no, RX, VOp.fresh, bxC, bsC, un, most, callsOf, seval, Int.reducePow, ↓reduceIte, Nat.reduceEqDiff, reduceCtorEq]
        · simp only [v50, hv.len, d1, f1, f2, e3, no, RX, VOp.fresh, bxC, bsC, un, most, callsOf, seval, Int.reducePow, ↓reduceIte, Nat.reduceEqDiff, reduceCtorEq]
end
section
variable {P : Program}
theorem rMap_loop (g : Pg P tab) {nodes : Int} {m : Mp} {v u : AV} (hv : IsL 8 RInt v m.starts) (hu : IsL 8 RInt u m.owners) (hl : m.owners.length = m.starts.length) {hh : Heap} {e : TypeId} {ver : Nat} (hg : hh.get 0 = some (.cells [.int .i64 m.epoch, v, u] e ver)) (n : Nat) :
    ∀ (i : Nat) (s : T AV) (k : List Fr) (Q : Ex → T AV → Heap → Prop), i + n = m.starts.length → sg s 2 = .ptr 0 0 → sg s 1 = .int .i64 nodes → sg s 5 = .int .i64 i →
      ((∀ j, i ≤ j → j < m.starts.length → mpAt nodes m j) → ∀ s', Un P k Q (.exit 0) s' hh) → ((¬ ∀ j, i ≤ j → j < m.starts.length → mpAt nodes m j) → ∀ s', sg s' 4 = .bool false → Un P k Q .ret s' hh) → Lp P b42_0 s hh (Un P k Q) := by
  have hb := hv.bound (by decide)
  induction n with
  | zero =>
    intro i s k Q hi h2 h1 h5 hK hR
    refine g.lpe b42_0.eq_1 ?_
    have c1 : ¬ ((i : Int) < (m.starts.length : Int)) := by omega
    simp only [h2, h5, hg, hv.len, c1, RX, VOp.fresh, bxC, bsC, un, most, callsOf, seval, Int.reducePow, ↓reduceIte, Nat.reduceEqDiff, reduceCtorEq]
    exact hK (fun j h1 h2 => by omega) _
  | succ n ih =>
    intro i s k Q hi h2 h1 h5 hK hR
    refine g.lpe b42_0.eq_1 ?_
    have c1 : (i : Int) < (m.starts.length : Int) := by omega
    obtain ⟨r1, _, g1⟩ := getInt hv i (by omega)
    obtain ⟨r2, _, g2⟩ := getInt hu i (by omega)
    have w1 : IntKind.i64.wrap ((i : Int) + 1) = ((i + 1 : Nat) : Int) := by rw [w64 (by omega) (by omega)]; push_cast; rfl
    have w2 : IntKind.i64.wrap ((i : Int) - 1) = (i : Int) - 1 := w64 (by omega) (by omega)
    have no : ¬ mpAt nodes m i → ∀ s', sg s' 4 = .bool false → Un P k Q .ret s' hh := fun h => hR fun hall => h (hall i (Nat.le_refl _) (by omega))
    have step : mpAt nodes m i → ∀ s', sg s' 2 = .ptr 0 0 → sg s' 1 = .int .i64 nodes → sg s' 5 = .int .i64 (i + 1 : Nat) → Lp P b42_0 s' hh (Un P k Q) := fun hok s' a1 a0 a5 => by
      have all : (∀ j, i ≤ j → j < m.starts.length → mpAt nodes m j) ↔ ∀ j, i + 1 ≤ j → j < m.starts.length → mpAt nodes m j := ⟨fun h j h1 h2 => h j (by omega) h2, fun h j h1 h2 => by
        rcases Nat.lt_or_ge i j with h3 | h3
        · exact h j h3 h2
        · rw [show j = i by omega]; exact hok⟩
      exact ih (i + 1) _ k Q (by omega) a1 a0 a5 (fun h => hK (all.2 h)) (fun h => hR (fun h' => h (all.1 h')))
    generalize hsi : m.starts.getD i 0 = a at *
    generalize hoi : m.owners.getD i 0 = o at *
    have mp : mpAt nodes m i ↔ (a < 4294967296 ∧ (i = 0 ∨ m.starts.getD (i - 1) 0 < a) ∧ 0 ≤ o ∧ o < nodes) := by unfold mpAt; rw [hsi, hoi]
    by_cases x1 : 4294967296 ≤ a
    · simp only [h2, h1, h5, hg, hv.len, c1, g1, x1, RX, VOp.fresh, bxC, bsC, un, most, callsOf, seval, Int.reducePow, ↓reduceIte, Nat.reduceEqDiff, reduceCtorEq]
      exact no (fun h => by have := (mp.1 h).1; omega) _ (by simp only [sg_set, Nat.reduceEqDiff, ↓reduceIte])
    by_cases x2 : o < 0
    · simp only [h2, h1, h5, hg, hv.len, c1, g1, g2, x1, x2, RX, VOp.fresh, bxC, bsC, un, most, callsOf, seval, Int.reducePow, ↓reduceIte, Nat.reduceEqDiff, reduceCtorEq]
      exact no (fun h => by have := (mp.1 h).2.2.1; omega) _ (by simp only [sg_set, Nat.reduceEqDiff, ↓reduceIte])
    by_cases x3 : nodes ≤ o
    · simp only [h2, h1, h5, hg, hv.len, c1, g1, g2, x1, x2, x3, RX, VOp.fresh, bxC, bsC, un, most, callsOf, seval, Int.reducePow, ↓reduceIte, Nat.reduceEqDiff, reduceCtorEq]
      exact no (fun h => by have := (mp.1 h).2.2.2; omega) _ (by simp only [sg_set, Nat.reduceEqDiff, ↓reduceIte])
    by_cases hi0 : i = 0
    · have c2 : ¬ ((0 : Int) < (i : Int)) := by omega
      simp only [h2, h1, h5, hg, hv.len, c1, c2, g1, g2, x1, x2, x3, w1, RX, VOp.fresh, bxC, bsC, un, most, callsOf, seval, Int.reducePow, ↓reduceIte, Nat.reduceEqDiff, reduceCtorEq]
      refine step (mp.2 ⟨by omega, .inl hi0, by omega, by omega⟩) _ ?_ ?_ ?_
      · simp only [h2, sg_set, Nat.reduceEqDiff, ↓reduceIte]
      · simp only [h1, sg_set, Nat.reduceEqDiff, ↓reduceIte]
      · simp only [sg_set, Nat.reduceEqDiff, ↓reduceIte]
    · have c2 : (0 : Int) < (i : Int) := by omega
      obtain ⟨r3, _, g3⟩ := getInt hv (i - 1) (by omega)
      have ec : ((i - 1 : Nat) : Int) = (i : Int) - 1 := by omega
      rw [ec] at g3
      by_cases x4 : a ≤ m.starts.getD (i - 1) 0
      · simp only [h2, h1, h5, hg, hv.len, c1, c2, g1, g2, g3, x1, x2, x3, x4, w1, w2, RX, VOp.fresh, bxC, bsC, un, most, callsOf, seval, Int.reducePow, ↓reduceIte, Nat.reduceEqDiff, reduceCtorEq]
        exact no (fun h => by have := (mp.1 h).2.1; omega) _ (by simp only [sg_set, Nat.reduceEqDiff, ↓reduceIte])
      · simp only [h2, h1, h5, hg, hv.len, c1, c2, g1, g2, g3, x1, x2, x3, x4, w1, w2, RX, VOp.fresh, bxC, bsC, un, most, callsOf, seval, Int.reducePow, ↓reduceIte, Nat.reduceEqDiff, reduceCtorEq]
        refine step (mp.2 ⟨by omega, .inr (by omega), by omega, by omega⟩) _ ?_ ?_ ?_
        · simp only [h2, sg_set, Nat.reduceEqDiff, ↓reduceIte]
        · simp only [h1, sg_set, Nat.reduceEqDiff, ↓reduceIte]
        · simp only [sg_set, Nat.reduceEqDiff, ↓reduceIte]
theorem rMap_pu (g : Pg P tab) {nodes : Int} {m : Mp} {v u : AV} (hv : IsL 8 RInt v m.starts) (hu : IsL 8 RInt u m.owners) : Pu P 42 [.agg [.int .i64 m.epoch, v, u], .int .i64 nodes] (IsB (mpOk nodes m)) := by
  refine g.pu (vf := v42) rfl rfl ?_
  by_cases x1 : nodes < 1
  · have no : ¬ mpOk nodes m := fun h => by have := h.1; omega
    simp only [v42, x1, no, RX, VOp.fresh, bxC, bsC, un, most, callsOf, seval, Int.reducePow, ↓reduceIte, Nat.reduceEqDiff, reduceCtorEq]
  by_cases x2 : 8 < nodes
  · have no : ¬ mpOk nodes m := fun h => by have := h.2.1; omega
    simp only [v42, x1, x2, no, RX, VOp.fresh, bxC, bsC, un, most, callsOf, seval, Int.reducePow, ↓reduceIte, Nat.reduceEqDiff, reduceCtorEq]
  by_cases x3 : m.epoch < 1
  · have no : ¬ mpOk nodes m := fun h => by have := h.2.2.1; omega
    simp only [v42, x1, x2, x3, no, RX, VOp.fresh, bxC, bsC, un, most, callsOf, seval, Int.reducePow, ↓reduceIte, Nat.reduceEqDiff, reduceCtorEq]
  by_cases x4 : 65535 < m.epoch
  · have no : ¬ mpOk nodes m := fun h => by have := h.2.2.2.1; omega
    simp only [v42, x1, x2, x3, x4, no, RX, VOp.fresh, bxC, bsC, un, most, callsOf, seval, Int.reducePow, ↓reduceIte, Nat.reduceEqDiff, reduceCtorEq]
  by_cases x5 : (m.starts.length : Int) < 1
  · have no : ¬ mpOk nodes m := fun h => by have := h.2.2.2.2.1; omega
    simp only [v42, x1, x2, x3, x4, hv.len, x5, no, RX, VOp.fresh, bxC, bsC, un, most, callsOf, seval, Int.reducePow, ↓reduceIte, Nat.reduceEqDiff, reduceCtorEq]
  by_cases x6 : (32 : Int) < (m.starts.length : Int)
  · have no : ¬ mpOk nodes m := fun h => by have := h.2.2.2.2.2.1; omega
    simp only [v42, x1, x2, x3, x4, hv.len, x5, x6, no, RX, VOp.fresh, bxC, bsC, un, most, callsOf, seval, Int.reducePow, ↓reduceIte, Nat.reduceEqDiff, reduceCtorEq]
  by_cases x7 : (m.owners.length : Int) = (m.starts.length : Int)
  · obtain ⟨r1, _, g1⟩ := getInt hv 0 (by omega)
    simp only [Int.natCast_zero, Int.ofNat_zero, Int.ofNat_eq_natCast] at g1
    by_cases x8 : m.starts.getD 0 0 = 0
    · simp only [v42, x1, x2, x3, x4, hv.len, hu.len, x5, x6, x7, g1, x8, RX, VOp.fresh, bxC, bsC, un, most, callsOf, seval, Int.reducePow, ↓reduceIte, Nat.reduceEqDiff, reduceCtorEq]
      refine rMap_loop g hv hu (nodes := nodes) (by omega) (by rw [Heap.get_mk, if_pos rfl]) m.starts.length 0 _ _ _ (by omega) ?_ ?_ ?_ ?_ ?_
      · simp only [sg_set, Nat.reduceEqDiff, ↓reduceIte]
      · simp only [sg_set, Nat.reduceEqDiff, ↓reduceIte]
      · simp only [sg_set, Nat.reduceEqDiff, ↓reduceIte]
        rfl
      · intro hall s'
        simp only [RX, VOp.fresh, bxC, bsC, un, most, callsOf, seval, Int.reducePow, ↓reduceIte, Nat.reduceEqDiff, reduceCtorEq]
        exact ⟨by omega, by omega, by omega, by omega, by omega, by omega, by omega, x8, fun i hi => hall i (by omega) hi⟩
      · intro hn s' h4
        simp only [h4, RX, VOp.fresh, bxC, bsC, un, most, callsOf, seval, Int.reducePow, ↓reduceIte, Nat.reduceEqDiff, reduceCtorEq]
        exact fun h => hn fun j _ hj => h.2.2.2.2.2.2.2.2 j hj
    · have no : ¬ mpOk nodes m := fun h => x8 h.2.2.2.2.2.2.2.1
      simp only [v42, x1, x2, x3, x4, hv.len, hu.len, x5, x6, x7, g1, x8, no, RX, VOp.fresh, bxC, bsC, un, most, callsOf, seval, Int.reducePow, ↓reduceIte, Nat.reduceEqDiff, reduceCtorEq]
  · have no : ¬ mpOk nodes m := fun h => by have := h.2.2.2.2.2.2.1; omega
    simp only [v42, x1, x2, x3, x4, hv.len, hu.len, x5, x6, x7, no, RX, VOp.fresh, bxC, bsC, un, most, callsOf, seval, Int.reducePow, ↓reduceIte, Nat.reduceEqDiff, reduceCtorEq]
def opIdR (o : Op) : Int := if o.kind = 0 then o.f.id else if o.kind = 1 then o.id else 0
theorem rId_pu (g : Pg P tab) {o : Op} {c : List AV} (hc : ROp o c) : Pu P 76 [.agg c] (fun x => x = .int .i64 (opIdR o)) := by
  obtain ⟨v, a, u, rfl, _⟩ := hc
  refine g.pu (vf := v76) rfl rfl ?_
  by_cases k0 : o.kind = 0
  · simp only [v76, k0, opIdR, RX, VOp.fresh, bxC, bsC, un, most, callsOf, seval, Int.reducePow, ↓reduceIte, Nat.reduceEqDiff, reduceCtorEq]
  · by_cases k1 : o.kind = 1
    · simp only [v76, k1, opIdR, RX, VOp.fresh, bxC, bsC, un, most, callsOf, seval, Int.reducePow, ↓reduceIte, Nat.reduceEqDiff, reduceCtorEq]
    · simp only [v76, k0, k1, opIdR, RX, VOp.fresh, bxC, bsC, un, most, callsOf, seval, Int.reducePow, ↓reduceIte, Nat.reduceEqDiff, reduceCtorEq]
theorem rOp_pu (g : Pg P tab) {o : Op} {c : List AV} (hc : ROp o c) : Pu P 75 [.agg c] (IsB (opOk 8 o)) := by
  obtain ⟨v, a, u, rfl, _, _, _, hv, _, _, ha, hu⟩ := hc
  refine g.pu (vf := v75) rfl rfl ?_
  have t1 : AV.tolds [.agg [.int .i64 o.f.id, .int .i64 o.f.shape, v]] = true := by simp [AV.tolds, AV.told, hv.told tRing]
  have t2 : AV.tolds [.agg [.int .i64 o.m.epoch, a, u]] = true := by simp [AV.tolds, AV.told, ha.told tInt, hu.told tInt]
  have t3 : AV.tolds [.agg [.int .i64 o.m.epoch, a, u], .int .i64 8] = true := by simp [AV.tolds, AV.told, ha.told tInt, hu.told tInt]
  by_cases k0 : o.kind = 0
  · simp only [v75, k0, RX, VOp.fresh, bxC, bsC, un, most, callsOf, seval, Int.reducePow, ↓reduceIte, Nat.reduceEqDiff, reduceCtorEq]
    refine (rShape_pu g hv).go t1 ?_
    rintro x ⟨b, rfl, hb⟩
    cases b
    · simp only [RX, VOp.fresh, bxC, bsC, un, most, callsOf, seval, Int.reducePow, ↓reduceIte, Nat.reduceEqDiff, reduceCtorEq]
      rintro (⟨_, h, _⟩ | ⟨k, _⟩ | ⟨k, _⟩)
      · have := hb.2 h; cases this
      · omega
      · omega
    · by_cases x1 : o.id = 0
      · simp only [x1, RX, VOp.fresh, bxC, bsC, un, most, callsOf, seval, Int.reducePow, ↓reduceIte, Nat.reduceEqDiff, reduceCtorEq]
        refine (rZeroMap_pu g ha hu).go t2 ?_
        rintro x ⟨b, rfl, hb2⟩
        simp only [RX, VOp.fresh, bxC, bsC, un, most, callsOf, seval, Int.reducePow, ↓reduceIte, Nat.reduceEqDiff, reduceCtorEq]
        rw [hb2]
        exact ⟨fun h => .inl ⟨k0, hb.1 rfl, x1, h⟩, fun h => by rcases h with ⟨_, _, _, h⟩ | ⟨k, _⟩ | ⟨k, _⟩ <;> first | exact h | omega⟩
      · simp only [x1, RX, VOp.fresh, bxC, bsC, un, most, callsOf, seval, Int.reducePow, ↓reduceIte, Nat.reduceEqDiff, reduceCtorEq]
        rintro (⟨_, _, h, _⟩ | ⟨k, _⟩ | ⟨k, _⟩)
        · exact x1 h
        · omega
        · omega
  · by_cases k1 : o.kind = 1
    · have only : opOk 8 o → 1 ≤ o.id ∧ o.id ≤ 65535 ∧ ftZero o.f ∧ mpZero o.m := fun h => by rcases h with ⟨k, _⟩ | ⟨_, h⟩ | ⟨k, _⟩ <;> first | exact h | omega
      by_cases x1 : 1 ≤ o.id
      · by_cases x2 : o.id ≤ 65535
        · simp only [v75, k1, x1, x2, RX, VOp.fresh, bxC, bsC, un, most, callsOf, seval, Int.reducePow, ↓reduceIte, Nat.reduceEqDiff, reduceCtorEq]
          refine (rZeroFeat_pu g hv).go t1 ?_
          rintro x ⟨b, rfl, hb⟩
          cases b
          · simp only [RX, VOp.fresh, bxC, bsC, un, most, callsOf, seval, Int.reducePow, ↓reduceIte, Nat.reduceEqDiff, reduceCtorEq]
            intro h
            have := hb.2 (only h).2.2.1
            cases this
          · simp only [RX, VOp.fresh, bxC, bsC, un, most, callsOf, seval, Int.reducePow, ↓reduceIte, Nat.reduceEqDiff, reduceCtorEq]
            refine (rZeroMap_pu g ha hu).go t2 ?_
            rintro x ⟨b, rfl, hb2⟩
            simp only [RX, VOp.fresh, bxC, bsC, un, most, callsOf, seval, Int.reducePow, ↓reduceIte, Nat.reduceEqDiff, reduceCtorEq]
            rw [hb2]
            exact ⟨fun h => .inr (.inl ⟨k1, x1, x2, hb.1 rfl, h⟩), fun h => (only h).2.2.2⟩
        · simp only [v75, k1, x1, x2, RX, VOp.fresh, bxC, bsC, un, most, callsOf, seval, Int.reducePow, ↓reduceIte, Nat.reduceEqDiff, reduceCtorEq]
          exact fun h => x2 (only h).2.1
      · simp only [v75, k1, x1, RX, VOp.fresh, bxC, bsC, un, most, callsOf, seval, Int.reducePow, ↓reduceIte, Nat.reduceEqDiff, reduceCtorEq]
        exact fun h => x1 (only h).1
    · by_cases k2 : o.kind = 2
      · have only : opOk 8 o → mpOk 8 o.m ∧ o.id = 0 ∧ ftZero o.f := fun h => by rcases h with ⟨k, _⟩ | ⟨k, _⟩ | ⟨_, h⟩ <;> first | exact h | omega
        simp only [v75, k2, RX, VOp.fresh, bxC, bsC, un, most, callsOf, seval, Int.reducePow, ↓reduceIte, Nat.reduceEqDiff, reduceCtorEq]
        refine (rMap_pu g (nodes := 8) ha hu).go t3 ?_
        rintro x ⟨b, rfl, hb⟩
        cases b
        · simp only [RX, VOp.fresh, bxC, bsC, un, most, callsOf, seval, Int.reducePow, ↓reduceIte, Nat.reduceEqDiff, reduceCtorEq]
          intro h
          have := hb.2 (only h).1
          cases this
        · simp only [RX, VOp.fresh, bxC, bsC, un, most, callsOf, seval, Int.reducePow, ↓reduceIte, Nat.reduceEqDiff, reduceCtorEq]
          refine (rZeroFeat_pu g hv).go t1 ?_
          rintro x ⟨b, rfl, hb2⟩
          cases b
          · simp only [RX, VOp.fresh, bxC, bsC, un, most, callsOf, seval, Int.reducePow, ↓reduceIte, Nat.reduceEqDiff, reduceCtorEq]
            intro h
            have := hb2.2 (only h).2.2
            cases this
          · by_cases x1 : o.id = 0
            · simp only [x1, RX, VOp.fresh, bxC, bsC, un, most, callsOf, seval, Int.reducePow, ↓reduceIte, Nat.reduceEqDiff, reduceCtorEq]
              exact .inr (.inr ⟨k2, hb.1 rfl, x1, hb2.1 rfl⟩)
            · simp only [x1, RX, VOp.fresh, bxC, bsC, un, most, callsOf, seval, Int.reducePow, ↓reduceIte, Nat.reduceEqDiff, reduceCtorEq]
              exact fun h => x1 (only h).2.1
      · simp only [v75, k0, k1, k2, RX, VOp.fresh, bxC, bsC, un, most, callsOf, seval, Int.reducePow, ↓reduceIte, Nat.reduceEqDiff, reduceCtorEq]
        rintro (⟨k, _⟩ | ⟨k, _⟩ | ⟨k, _⟩)
        · exact k0 k
        · exact k1 k
        · exact k2 k
end
def idAns : List AV → AV
  | [.agg (.int _ k :: .int _ f :: _ :: _ :: .int _ i :: _)] => .int .i64 (if k = 0 then f else if k = 1 then i else 0)
  | _ => .undef
def cId (_ : Nat) (args : List AV) (h : Heap) : AV × Heap := (idAns args, h)
section
variable {P : Program}
theorem rOps_in (g : Pg P tab) {l : List Op} {v : AV} (hv : IsL 112 ROp v l) {i : Nat} (hi : i < l.length) (n : Nat) :
    ∀ (j : Nat) (s : T AV) (hh : Heap) (k : List Fr) (Q : Ex → T AV → Heap → Prop), j + n = i → sg s 0 = v → sg s 3 = .int .i64 i → sg s 4 = .int .i64 j →
      ((∀ x, j ≤ x → x < i → ¬ (0 < opIdR (l.getD i op0) ∧ opIdR (l.getD x op0) = opIdR (l.getD i op0))) → ∀ s', sg s' 0 = v → sg s' 3 = .int .i64 i → Un P k Q (.exit 2) s' hh) → ((¬ ∀ x, j ≤ x → x < i → ¬ (0 < opIdR (l.getD i op0) ∧ opIdR (l.getD x op0) = opIdR (l.getD i op0))) → ∀ s', sg s' 2 = .bool false → Un P k Q .ret s' hh) → Lp P b48_0 s hh (Un P k Q) := by
  have hb := hv.bound (by decide)
  induction n with
  | zero =>
    intro j s hh k Q hj h0 h3 h4 hK hR
    refine g.lpe b48_0.eq_1 ?_
    have c1 : ¬ ((j : Int) < (i : Int)) := by omega
    simp only [h3, h4, c1, RX, VOp.fresh, bxC, bsC, un, most, callsOf, seval, Int.reducePow, ↓reduceIte, Nat.reduceEqDiff, reduceCtorEq]
    exact hK (fun x h1 h2 => by omega) _ (by simp only [h0, sg_set, Nat.reduceEqDiff, ↓reduceIte]) (by simp only [h3, sg_set, Nat.reduceEqDiff, ↓reduceIte])
  | succ n ih =>
    intro j s hh k Q hj h0 h3 h4 hK hR
    refine g.lpe b48_0.eq_1 ?_
    have c1 : (j : Int) < (i : Int) := by omega
    have w1 : IntKind.i64.wrap ((j : Int) + 1) = ((j + 1 : Nat) : Int) := by rw [w64 (by omega) (by omega)]; push_cast; rfl
    obtain ⟨ci, ri, hci, _, _, gi⟩ := getOp hv i hi
    obtain ⟨cj, rj, hcj, _, _, gj⟩ := getOp hv j (by omega)
    have oi : ∀ h, OK P 76 [.agg ci] h (.int .i64 (opIdR (l.getD i op0))) h := fun h => (rId_pu g hci).exact (by simp [AV.tolds, AV.told, tOp _ _ hci])
    have oj : ∀ h, OK P 76 [.agg cj] h (.int .i64 (opIdR (l.getD j op0))) h := fun h => (rId_pu g hcj).exact (by simp [AV.tolds, AV.told, tOp _ _ hcj])
    obtain ⟨v1, a1, u1, rfl, _⟩ := hci
    obtain ⟨v2, a2, u2, rfl, _⟩ := hcj
    have ei : idAns [.agg [.int .i64 (l.getD i op0).kind, .int .i64 (l.getD i op0).f.id, .int .i64 (l.getD i op0).f.shape, v1, .int .i64 (l.getD i op0).id, .int .i64 (l.getD i op0).m.epoch, a1, u1]] = .int .i64 (opIdR (l.getD i op0)) := rfl
    have ej : idAns [.agg [.int .i64 (l.getD j op0).kind, .int .i64 (l.getD j op0).f.id, .int .i64 (l.getD j op0).f.shape, v2, .int .i64 (l.getD j op0).id, .int .i64 (l.getD j op0).m.epoch, a2, u2]] = .int .i64 (opIdR (l.getD j op0)) := rfl
    generalize opIdR (l.getD i op0) = x at *
    generalize hy : opIdR (l.getD j op0) = y at *
    have step : ¬ (0 < x ∧ y = x) → ∀ s', sg s' 0 = v → sg s' 3 = .int .i64 i → sg s' 4 = .int .i64 (j + 1 : Nat) → Lp P b48_0 s' hh (Un P k Q) := fun hok s' q0 q3 q4 => by
      have all : (∀ z, j ≤ z → z < i → ¬ (0 < x ∧ opIdR (l.getD z op0) = x)) ↔ ∀ z, j + 1 ≤ z → z < i → ¬ (0 < x ∧ opIdR (l.getD z op0) = x) := ⟨fun h z h1 h2 => h z (by omega) h2, fun h z h1 h2 => by
        rcases Nat.lt_or_ge j z with h3 | h3
        · exact h z h3 h2
        · rw [show z = j by omega, hy]; exact hok⟩
      exact ih (j + 1) _ _ k Q (by omega) q0 q3 q4 (fun h => hK (all.2 h)) (fun h => hR (fun h' => h (all.1 h')))
    simp only [h0, h3, h4, c1, RX, VOp.fresh, bxC, bsC, un, most, callsOf, seval, Int.reducePow, ↓reduceIte, Nat.reduceEqDiff, reduceCtorEq]
    refine EvD.same cId rfl ?_
    by_cases x1 : 0 < x
    · by_cases x2 : y = x
      · have oj' := oj
        rw [x2] at oj'
        simp only [h0, h3, h4, gi, gj, cId, ei, ej, oi, oj', x1, x2, RX, VOp.fresh, bxC, bsC, un, most, callsOf, seval, Int.reducePow, ↓reduceIte, Nat.reduceEqDiff, reduceCtorEq]
        refine hR (fun h => ?_) _ (by simp only [sg_set, Nat.reduceEqDiff, ↓reduceIte])
        have := h j (Nat.le_refl _) (by omega)
        rw [hy] at this
        exact this ⟨x1, x2⟩
      · simp only [h0, h3, h4, gi, gj, cId, ei, ej, oi, oj, x1, x2, w1, RX, VOp.fresh, bxC, bsC, un, most, callsOf, seval, Int.reducePow, ↓reduceIte, Nat.reduceEqDiff, reduceCtorEq]
        refine step (fun h => x2 h.2) _ ?_ ?_ ?_
        · simp only [h0, sg_set, Nat.reduceEqDiff, ↓reduceIte]
        · simp only [h3, sg_set, Nat.reduceEqDiff, ↓reduceIte]
        · simp only [sg_set, Nat.reduceEqDiff, ↓reduceIte]
    · simp only [h0, h3, h4, gi, gj, cId, ei, ej, oi, oj, x1, w1, RX, VOp.fresh, bxC, bsC, un, most, callsOf, seval, Int.reducePow, ↓reduceIte, Nat.reduceEqDiff, reduceCtorEq]
      refine step (fun h => x1 h.1) _ ?_ ?_ ?_
      · simp only [h0, sg_set, Nat.reduceEqDiff, ↓reduceIte]
      · simp only [h3, sg_set, Nat.reduceEqDiff, ↓reduceIte]
      · simp only [sg_set, Nat.reduceEqDiff, ↓reduceIte]
def rOpsAt (l : List Op) (i : Nat) : Prop := opOk 8 (l.getD i op0) ∧ ((l.getD i op0).kind = 2 → i = 0) ∧ ∀ x, x < i → ¬ (0 < opIdR (l.getD i op0) ∧ opIdR (l.getD x op0) = opIdR (l.getD i op0))
theorem rOps_loop (g : Pg P tab) {l : List Op} {v : AV} (hv : IsL 112 ROp v l) (n : Nat) :
    ∀ (i : Nat) (s : T AV) (hh : Heap) (k : List Fr) (Q : Ex → T AV → Heap → Prop), i + n = l.length → sg s 0 = v → sg s 3 = .int .i64 i →
      ((∀ x, i ≤ x → x < l.length → rOpsAt l x) → ∀ s', Un P k Q (.exit 0) s' hh) → ((¬ ∀ x, i ≤ x → x < l.length → rOpsAt l x) → ∀ s', sg s' 2 = .bool false → Un P k Q .ret s' hh) → Lp P b48_1 s hh (Un P k Q) := by
  have hb := hv.bound (by decide)
  induction n with
  | zero =>
    intro i s hh k Q hi h0 h3 hK hR
    refine g.lpe b48_1.eq_1 ?_
    have c1 : ¬ ((i : Int) < (l.length : Int)) := by omega
    simp only [h0, h3, hv.len, c1, RX, VOp.fresh, bxC, bsC, un, most, callsOf, seval, Int.reducePow, ↓reduceIte, Nat.reduceEqDiff, reduceCtorEq]
    exact hK (fun x h1 h2 => by omega) _
  | succ n ih =>
    intro i s hh k Q hi h0 h3 hK hR
    refine g.lpe b48_1.eq_1 ?_
    have c1 : (i : Int) < (l.length : Int) := by omega
    have w1 : IntKind.i64.wrap ((i : Int) + 1) = ((i + 1 : Nat) : Int) := by rw [w64 (by omega) (by omega)]; push_cast; rfl
    obtain ⟨ci, ri, hci, _, _, gi⟩ := getOp hv i (by omega)
    have pi := rOp_pu g hci
    have ti : AV.tolds [.agg ci] = true := by simp [AV.tolds, AV.told, tOp _ _ hci]
    obtain ⟨v1, a1, u1, rfl, _⟩ := hci
    have no : ¬ rOpsAt l i → ∀ s', sg s' 2 = .bool false → Un P k Q .ret s' hh := fun h => hR fun hall => h (hall i (Nat.le_refl _) (by omega))
    simp only [h0, h3, hv.len, c1, gi, RX, VOp.fresh, bxC, bsC, un, most, callsOf, seval, Int.reducePow, ↓reduceIte, Nat.reduceEqDiff, reduceCtorEq]
    refine pi.go ti ?_
    rintro x ⟨b, rfl, hbb⟩
    have inner : opOk 8 (l.getD i op0) → ((l.getD i op0).kind = 2 → i = 0) → ∀ s', sg s' 0 = v → sg s' 3 = .int .i64 i → sg s' 4 = .int .i64 0 → Lp P b48_0 s' hh (Un P (.blk 2 :: .blk 1 :: .seq (.ops [⟨some 17, none, .mov (.t 3)⟩, ⟨some 18, none, .bin .add (.t 17) (.c (.int .i64 1))⟩, ⟨some 3, none, .mov (.t 18)⟩]) :: .lp b48_1 :: k) Q) := by
      intro q1 q2 s' a0 a3 a4
      refine rOps_in g hv (i := i) (by omega) i 0 _ _ _ _ (by omega) a0 a3 a4 ?_ ?_
      · intro hall s'' b0 b3
        simp only [b0, b3, w1, RX, VOp.fresh, bxC, bsC, un, most, callsOf, seval, Int.reducePow, ↓reduceIte, Nat.reduceEqDiff, reduceCtorEq]
        have hok : rOpsAt l i := ⟨q1, q2, fun x hx => hall x (by omega) hx⟩
        have all : (∀ x, i ≤ x → x < l.length → rOpsAt l x) ↔ ∀ x, i + 1 ≤ x → x < l.length → rOpsAt l x := ⟨fun h x h1 h2 => h x (by omega) h2, fun h x h1 h2 => by
          rcases Nat.lt_or_ge i x with h3 | h3
          · exact h x h3 h2
          · rw [show x = i by omega]; exact hok⟩
        refine ih (i + 1) _ _ k Q (by omega) ?_ ?_ (fun h => hK (all.2 h)) (fun h => hR (fun h' => h (all.1 h')))
        · simp only [b0, sg_set, Nat.reduceEqDiff, ↓reduceIte]
        · simp only [sg_set, Nat.reduceEqDiff, ↓reduceIte]
      · intro hn s'' h2
        simp only [RX, VOp.fresh, bxC, bsC, un, most, callsOf, seval, Int.reducePow, ↓reduceIte, Nat.reduceEqDiff, reduceCtorEq]
        exact no (fun h => hn fun x _ hx => h.2.2 x hx) _ h2
    cases b
    · simp only [RX, VOp.fresh, bxC, bsC, un, most, callsOf, seval, Int.reducePow, ↓reduceIte, Nat.reduceEqDiff, reduceCtorEq]
      exact no (fun h => by have := hbb.2 h.1; cases this) _ (by simp only [sg_set, Nat.reduceEqDiff, ↓reduceIte])
    · by_cases k2 : (l.getD i op0).kind = 2
      · by_cases hi0 : i = 0
        · have c2 : ¬ ((0 : Int) < (i : Int)) := by omega
          simp only [h0, h3, gi, k2, c2, RX, VOp.fresh, bxC, bsC, un, most, callsOf, seval, Int.reducePow, ↓reduceIte, Nat.reduceEqDiff, reduceCtorEq]
          refine inner (hbb.1 rfl) (fun _ => hi0) _ ?_ ?_ ?_
          · simp only [h0, sg_set, Nat.reduceEqDiff, ↓reduceIte]
          · simp only [h3, sg_set, Nat.reduceEqDiff, ↓reduceIte]
          · simp only [sg_set, Nat.reduceEqDiff, ↓reduceIte]
        · have c2 : (0 : Int) < (i : Int) := by omega
          simp only [h0, h3, gi, k2, c2, RX, VOp.fresh, bxC, bsC, un, most, callsOf, seval, Int.reducePow, ↓reduceIte, Nat.reduceEqDiff, reduceCtorEq]
          exact no (fun h => hi0 (h.2.1 k2)) _ (by simp only [sg_set, Nat.reduceEqDiff, ↓reduceIte])
      · simp only [h0, h3, gi, k2, RX, VOp.fresh, bxC, bsC, un, most, callsOf, seval, Int.reducePow, ↓reduceIte, Nat.reduceEqDiff, reduceCtorEq]
        refine inner (hbb.1 rfl) (fun h => absurd h k2) _ ?_ ?_ ?_
        · simp only [h0, sg_set, Nat.reduceEqDiff, ↓reduceIte]
        · simp only [h3, sg_set, Nat.reduceEqDiff, ↓reduceIte]
        · simp only [sg_set, Nat.reduceEqDiff, ↓reduceIte]
theorem opIdR_eq {o : Op} (h : opOk 8 o) : opIdR o = opId o := by
  unfold opIdR opId
  rcases h with ⟨k, _⟩ | ⟨k, _⟩ | ⟨k, _, h, _⟩
  · rw [if_pos k, if_pos k]
  · rw [if_neg (by omega), if_pos k, if_neg (by omega)]
  · rw [if_neg (by omega), if_neg (by omega), if_neg (by omega), h]
theorem rOps_eq (l : List Op) : (1 ≤ l.length ∧ l.length ≤ 32 ∧ ∀ i, i < l.length → rOpsAt l i) ↔ opsOk 8 l := by
  constructor
  · rintro ⟨h1, h2, h3⟩
    refine ⟨h1, h2, fun i hi => ?_⟩
    obtain ⟨a, b, c⟩ := h3 i hi
    refine ⟨a, b, fun h0 j hj => ?_⟩
    have := c j hj
    rw [opIdR_eq a, opIdR_eq (h3 j (by omega)).1] at this
    exact fun e => this ⟨h0, e⟩
  · rintro ⟨h1, h2, h3⟩
    refine ⟨h1, h2, fun i hi => ?_⟩
    obtain ⟨a, b, c⟩ := h3 i hi
    refine ⟨a, b, fun j hj => ?_⟩
    rw [opIdR_eq a, opIdR_eq (h3 j (by omega)).1]
    exact fun e => c e.1 j hj e.2
theorem rOps_pu (g : Pg P tab) {l : List Op} {v : AV} (hv : IsL 112 ROp v l) : Pu P 48 [v] (IsB (opsOk 8 l)) := by
  refine g.pu (vf := v48) rfl rfl ?_
  by_cases x1 : (l.length : Int) < 1
  · have no : ¬ opsOk 8 l := fun h => by have := h.1; omega
    simp only [v48, hv.len, x1, no, RX, VOp.fresh, bxC, bsC, un, most, callsOf, seval, Int.reducePow, ↓reduceIte, Nat.reduceEqDiff, reduceCtorEq]
  by_cases x2 : (32 : Int) < (l.length : Int)
  · have no : ¬ opsOk 8 l := fun h => by have := h.2.1; omega
    simp only [v48, hv.len, x1, x2, no, RX, VOp.fresh, bxC, bsC, un, most, callsOf, seval, Int.reducePow, ↓reduceIte, Nat.reduceEqDiff, reduceCtorEq]
  simp only [v48, hv.len, x1, x2, RX, VOp.fresh, bxC, bsC, un, most, callsOf, seval, Int.reducePow, ↓reduceIte, Nat.reduceEqDiff, reduceCtorEq]
  refine rOps_loop g hv l.length 0 _ _ _ _ (by omega) ?_ ?_ ?_ ?_
  · simp only [sg_set, Nat.reduceEqDiff, ↓reduceIte]
  · simp only [sg_set, Nat.reduceEqDiff, ↓reduceIte]
    rfl
  · intro hall s'
    simp only [RX, VOp.fresh, bxC, bsC, un, most, callsOf, seval, Int.reducePow, ↓reduceIte, Nat.reduceEqDiff, reduceCtorEq]
    exact (rOps_eq l).1 ⟨by omega, by omega, fun i hi => hall i (by omega) hi⟩
  · intro hn s' h2
    simp only [h2, RX, VOp.fresh, bxC, bsC, un, most, callsOf, seval, Int.reducePow, ↓reduceIte, Nat.reduceEqDiff, reduceCtorEq]
    exact fun h => hn fun i _ hi => ((rOps_eq l).2 h).2.2 i hi
end
end Go.Proofs.Ythmkenkjfmbkiaa.VM
set_option linter.unusedSimpArgs false
set_option linter.unusedVariables false
set_option linter.defProp false
set_option maxHeartbeats 1000000
namespace Go.Proofs.Ythmkenkjfmbkiaa.VM
attribute [local irreducible] Af Nx EvO Ev Un Gd Cd EvR EvQ EvC Nc Gc Lp EvM NxM AfM GdM EvMR EvMQ EvMD EvMC Nm Gm
def Plain {α : Type} (R : α → List AV → Prop) (sz : Nat) : Prop := ∀ a c, R a c → c.length = sz ∧ c.all AV.one = true ∧ AV.tolds c = true ∧ AV.bares c = true
theorem Plain.cat {α : Type} {R : α → List AV → Prop} {sz : Nat} (p : Plain R sz) : ∀ {l : List α} {c : List AV}, Cat R l c → c.length = l.length * sz ∧ c.all AV.one = true ∧ AV.tolds c = true ∧ AV.bares c = true
  | _, _, .nil => ⟨by simp, rfl, rfl, rfl⟩
  | _, _, .cons h t => by
    obtain ⟨a1, a2, a3, a4⟩ := p _ _ h
    obtain ⟨b1, b2, b3, b4⟩ := p.cat t
    exact ⟨by rw [List.length_append, a1, b1, List.length_cons, Nat.add_mul]; omega, by rw [List.all_append, a2, b2]; rfl, by rw [Cat.told.tolds_append, a3, b3]; rfl, by rw [bares_app, a4, b4]; rfl⟩
theorem plainInt : Plain RInt 1 := fun a c h => by rw [h.1]; exact ⟨rfl, rfl, rfl, rfl⟩
theorem plainPt : Plain RPt 2 := fun a c h => by rw [h.1]; exact ⟨rfl, rfl, rfl, rfl⟩
/-- what stands is put behind an empty slice of one's own -/
theorem app_copy {α : Type} {R : α → List AV → Prop} {sz bytes : Nat} (p : Plain R sz) {x : AV} {l : List α} (hx : IsL bytes R x l) {h : Heap} {b e0 v0 : Nat} (hg : h.get b = some (.cells [] e0 v0)) (e : TypeId) :
    ∃ v h' t, appendV h sz bytes e (.sl b 0 0 0 sz) x = some (v, h') ∧ h.next ≤ h'.next ∧ (∀ c, c < h.next → c ≠ b → h'.get c = h.get c) ∧ Lv h' (fun c => h.next ≤ c) v t ∧ IsL bytes R t l ∧ v.cells = some [v] ∧ v.one = true := by
  have hbq : Nat.beq sz sz = true := by rw [Nat.beq_eq]
  have z : ∀ x : AV, l = [] → lenV x = some 0 → cellsOf h sz 0 x = some [] → ∃ v h' t, appendV h sz bytes e (.sl b 0 0 0 sz) x = some (v, h') ∧ h.next ≤ h'.next ∧ (∀ c, c < h.next → c ≠ b → h'.get c = h.get c) ∧ Lv h' (fun c => h.next ≤ c) v t ∧ IsL bytes R t l ∧ v.cells = some [v] ∧ v.one = true := by
    intro x hl h1 h2
    subst hl
    refine ⟨.sl b 0 0 0 sz, h.put b (.cells [] e0 (v0 + 1)), .rs [] 0, ?_, Nat.le_refl _, fun c _ hc => by rw [Heap.get_put, if_neg hc], ⟨[], .sl0, rfl, Own.nil, fun b hb => by simp at hb⟩, ⟨by simp, .inr ⟨[], rfl, .nil⟩⟩, rfl, rfl⟩
    simp only [appendV, h1, h2, List.length_nil, Nat.zero_mul, List.all_nil, and_self, if_true, hbq, cond_true, Nat.add_zero, Nat.le_refl, writeAt, hg, lsets]
    rfl
  obtain ⟨hb0, ⟨rfl, hl⟩ | ⟨c, rfl, hc⟩⟩ := hx
  · exact z _ hl rfl rfl
  · obtain ⟨h1, h2, h3, h4⟩ := p.cat hc
    by_cases h0 : l.length = 0
    · have hl : l = [] := List.eq_nil_of_length_eq_zero h0
      have : c = [] := List.eq_nil_of_length_eq_zero (by rw [h1, h0, Nat.zero_mul])
      subst this
      refine z _ hl (by rw [lenV, h0]) ?_
      simp [cellsOf, cut_eq]
    · have hcut : cut c 0 (l.length * sz) = some c := by rw [cut_eq, List.drop_zero, ← h1, List.take_length, if_pos rfl]
      refine ⟨.sl h.next 0 l.length l.length sz, (h.put b .dead).mk' h.next (.cells c e 0), .rs c l.length, ?_, by rw [mk_next, put_next]; omega, fun d hd hne => by rw [Heap.get_mk, if_neg (by omega), Heap.get_put, if_neg hne], ⟨[h.next], ?_, rfl, ?_, fun d hd => by simp at hd; omega⟩, ⟨hb0, .inr ⟨c, rfl, hc⟩⟩, rfl, rfl⟩
      · have hm : l.length * bytes ≤ most2 := by exact Nat.le_trans hb0 (by rw [reach_eq]; decide)
        have h5 : ¬ (l.length ≤ 0) := by omega
        have hc0 : cut ([] : List AV) 0 0 = some [] := rfl
        simp only [appendV, lenV, cellsOf, hcut, hc0, h1, h2, List.nil_append, and_self, if_true, hbq, cond_true, h5, if_false, hm, Nat.le_refl, hg, Nat.zero_mul, Nat.zero_add]
      · exact (Fd.sl (by omega) (by rw [mk_next]; omega) (by rw [Heap.get_mk, if_pos rfl]) (hcut) (Fds.tolds h3)).cast rfl
      · intro d hd
        simp only [List.mem_singleton] at hd
        subst hd
        exact ⟨c, e, 0, by rw [Heap.get_mk, if_pos rfl], h4⟩
section
variable {P : Program}
theorem copyMap_cl (g : Pg P tab) {m : Mp} {c : List AV} (hm : RMp m c) {h : Heap} {Q : AV → Heap → Prop}
    (q : ∀ c' t h', Lvs h' (h.next ≤ ·) c' t → RMp m t → c'.length = 3 → c'.all AV.one = true → Ext h h' → Q (.agg c') h') : Cl P 12 [.agg c] h Q := by
  obtain ⟨a, u, rfl, h1, h2, h3⟩ := hm
  refine g.cl (vf := v12) rfl rfl ?_
  simp only [v12, RX, VOp.fresh, bxC, bsC, un, most, callsOf, seval, Int.reducePow, ↓reduceIte, Nat.reduceEqDiff, reduceCtorEq]
  refine EvMD.lk (fun _ _ h => (.undef, h)) ?_
  have f1 : ¬ h.next = h.next + 1 + 1 + 6 := by omega
  have f2 : ¬ h.next = h.next + 1 + 1 + 2 := by omega
  have f3 : ¬ h.next = h.next + 1 := by omega
  have f4 : ¬ h.next + 1 + 1 + 2 = h.next + 1 + 1 + 6 := by omega
  have f5 : ¬ h.next + 1 + 1 + 6 = h.next + 1 + 1 + 2 := by omega
  have f6 : ¬ h.next + 1 = h.next + 1 + 1 + 6 := by omega
  have f7 : ¬ h.next + 1 = h.next + 1 + 1 + 2 := by omega
  have g0 : ((((h.mk' h.next (.cells [.int .i64 m.epoch, a, u] 24 0)).mk' (h.next + 1) (.cells [.int .i64 0, .nils, .nils] 24 0)).mk' (h.next + 1 + 1 + 2) .dead).mk' (h.next + 1 + 1 + 6) .dead).get h.next = some (.cells [.int .i64 m.epoch, a, u] 24 0) := by
    simp only [Heap.get_mk, f1, f2, f3, if_false, if_true]
  have g1 : ((((h.mk' h.next (.cells [.int .i64 m.epoch, a, u] 24 0)).mk' (h.next + 1) (.cells [.int .i64 0, .nils, .nils] 24 0)).mk' (h.next + 1 + 1 + 2) .dead).mk' (h.next + 1 + 1 + 6) .dead).get (h.next + 1) = some (.cells [.int .i64 0, .nils, .nils] 24 0) := by
    simp only [Heap.get_mk, f6, f7, if_false, if_true]
  have n0 : ((((h.mk' h.next (.cells [.int .i64 m.epoch, a, u] 24 0)).mk' (h.next + 1) (.cells [.int .i64 0, .nils, .nils] 24 0)).mk' (h.next + 1 + 1 + 2) .dead).mk' (h.next + 1 + 1 + 6) .dead).next = h.next + 9 := by
    simp only [mk_next]; omega
  have x0 : Ext h ((((h.mk' h.next (.cells [.int .i64 m.epoch, a, u] 24 0)).mk' (h.next + 1) (.cells [.int .i64 0, .nils, .nils] 24 0)).mk' (h.next + 1 + 1 + 2) .dead).mk' (h.next + 1 + 1 + 6) .dead) := ⟨by omega, fun b hb => by
    rw [Heap.get_mk, if_neg (by omega), Heap.get_mk, if_neg (by omega), Heap.get_mk, if_neg (by omega), Heap.get_mk, if_neg (by omega)]⟩
  simp only [RW, RX, VOp.fresh, bxC, bsC, un, most, callsOf, seval, Int.reducePow, ↓reduceIte, Nat.reduceEqDiff, reduceCtorEq]
  generalize (((h.mk' h.next (.cells [.int .i64 m.epoch, a, u] 24 0)).mk' (h.next + 1) (.cells [.int .i64 0, .nils, .nils] 24 0)).mk' (h.next + 1 + 1 + 2) .dead).mk' (h.next + 1 + 1 + 6) .dead = H at *
  have gb1 : (H.mk' (h.next + 1 + 1 + 2) (.cells [] 3 0)).get (h.next + 1 + 1 + 2) = some (.cells [] 3 0) := by rw [Heap.get_mk, if_pos rfl]
  have nb1 : (H.mk' (h.next + 1 + 1 + 2) (.cells [] 3 0)).next = h.next + 9 := by rw [mk_next]; omega
  have k1 : ∀ c, c ≠ h.next + 1 + 1 + 2 → (H.mk' (h.next + 1 + 1 + 2) (.cells [] 3 0)).get c = H.get c := fun c hc => by rw [Heap.get_mk, if_neg hc]
  obtain ⟨v1, H1, t1, ap1, nx1, kp1, lv1, is1, ce1, on1⟩ := app_copy plainInt h2 gb1 3
  have g01 := (kp1 h.next (by omega) (by omega)).trans ((k1 h.next (by omega)).trans g0)
  have g11 := (kp1 (h.next + 1) (by omega) (by omega)).trans ((k1 (h.next + 1) (by omega)).trans g1)
  have gb2 : (H1.mk' (h.next + 1 + 1 + 6) (.cells [] 3 0)).get (h.next + 1 + 1 + 6) = some (.cells [] 3 0) := by rw [Heap.get_mk, if_pos rfl]
  have nb2 : (H1.mk' (h.next + 1 + 1 + 6) (.cells [] 3 0)).next = H1.next := by rw [mk_next]; omega
  have k2 : ∀ c, c ≠ h.next + 1 + 1 + 6 → (H1.mk' (h.next + 1 + 1 + 6) (.cells [] 3 0)).get c = H1.get c := fun c hc => by rw [Heap.get_mk, if_neg hc]
  obtain ⟨v2, H2, t2, ap2, nx2, kp2, lv2, is2, ce2, on2⟩ := app_copy plainInt h3 gb2 3
  have g02 := (kp2 h.next (by omega) (by omega)).trans ((k2 h.next (by omega)).trans g01)
  have g12 := (kp2 (h.next + 1) (by omega) (by omega)).trans ((k2 (h.next + 1) (by omega)).trans g11)
  simp only [RW, f1, f2, f3, g0, g01, g02, g11, g12, ap1, ap2, ce1, ce2, on1, on2, RX, VOp.fresh, bxC, bsC, un, most, callsOf, seval, Int.reducePow, ↓reduceIte, Nat.reduceEqDiff, reduceCtorEq]
  have gm : (H.mk' (h.next + 1 + 1 + 2) (.cells [] 3 0)).get h.next = some (.cells [.int .i64 m.epoch, a, u] 24 0) := (k1 h.next (by omega)).trans g0
  have gm1 : (H1.mk' (h.next + 1 + 1 + 6) (.cells [] 3 0)).get h.next = some (.cells [.int .i64 m.epoch, a, u] 24 0) := (k2 h.next (by omega)).trans g01
  refine ⟨⟨⟨?_, ?_, ?_, ?_, trivial⟩, ⟨?_, trivial⟩, ⟨?_, ?_, ?_, trivial⟩, trivial⟩, ?_⟩
  · show Lk _ _ _ _
    simp only [Lk, wanted, f1, f2, gm, g0, RX, VOp.fresh, bxC, bsC, un, most, callsOf, seval, Int.reducePow, ↓reduceIte, Nat.reduceEqDiff, reduceCtorEq]
  · show Lk _ _ _ _
    simp only [Lk, wanted, f1, f2, g01, RX, VOp.fresh, bxC, bsC, un, most, callsOf, seval, Int.reducePow, ↓reduceIte, Nat.reduceEqDiff, reduceCtorEq]
  · show Lk _ _ _ _
    simp only [Lk, wanted, f1, f2, gm1, g01, RX, VOp.fresh, bxC, bsC, un, most, callsOf, seval, Int.reducePow, ↓reduceIte, Nat.reduceEqDiff, reduceCtorEq]
  · show Lk _ _ _ _
    simp only [Lk, wanted, f1, f2, g02, RX, VOp.fresh, bxC, bsC, un, most, callsOf, seval, Int.reducePow, ↓reduceIte, Nat.reduceEqDiff, reduceCtorEq]
  · show Lk _ _ _ _
    simp only [Lk, wanted, f1, f2, g0, RX, VOp.fresh, bxC, bsC, un, most, callsOf, seval, Int.reducePow, ↓reduceIte, Nat.reduceEqDiff, reduceCtorEq]
  · show Lk _ _ _ _
    simp only [Lk, wanted, f1, f2, g0, RX, VOp.fresh, bxC, bsC, un, most, callsOf, seval, Int.reducePow, ↓reduceIte, Nat.reduceEqDiff, reduceCtorEq]
  · show Lk _ _ _ _
    simp only [Lk, wanted, f1, f2, g0, gm, RX, VOp.fresh, bxC, bsC, un, most, callsOf, seval, Int.reducePow, ↓reduceIte, Nat.reduceEqDiff, reduceCtorEq]
  · show Lk _ _ _ _
    simp only [Lk, wanted, f1, f2, g01, RX, VOp.fresh, bxC, bsC, un, most, callsOf, seval, Int.reducePow, ↓reduceIte, Nat.reduceEqDiff, reduceCtorEq]
  have lv1' : Lv H2 (fun c => h.next + 2 ≤ c) v1 t1 := ((lv1.weak (B' := fun c => h.next + 9 ≤ c) fun c hc _ => by omega).frame (by omega) fun c hc hl => (kp2 c (by omega) (by omega)).trans (k2 c (by omega))).weak fun c hc _ => by omega
  have lv2' : Lv H2 (fun c => h.next + 2 ≤ c) v2 t2 := lv2.weak fun c hc _ => by omega
  refine q _ [.int .i64 m.epoch, t1, t2] _ ((Lvs.cons .int (.cons lv1' (.cons lv2' .nil))).put (by omega) _ |>.weak fun c hc _ => by omega) ⟨_, _, rfl, h1, is1, is2⟩ rfl (by simp only [List.all_cons, List.all_nil, one_int, on1, on2, Bool.and_self]) ⟨by rw [put_next]; omega, fun b hb => ?_⟩
  rw [Heap.get_put, if_neg (by omega)]
  exact (kp2 b (by omega) (by omega)).trans ((k2 b (by omega)).trans ((kp1 b (by omega) (by omega)).trans ((k1 b (by omega)).trans (x0.2 b hb))))
end
section
variable {P : Program}
theorem Cat.take {α : Type} {R : α → List AV → Prop} {l : List α} {c d : List AV} {i : Nat} (hi : i < l.length) (h : Cat R (l.take i) c) (h' : R l[i] d) : Cat R (l.take (i + 1)) (c ++ d) := by
  rw [List.take_succ_eq_append_getElem hi]
  have := h.append (Cat.cons h' .nil)
  rwa [List.append_nil] at this
theorem cp_rings (g : Pg P tab) {rs : List (List Pt)} {w : AV} (hw : IsL 24 RRing w rs) {n0 n2 N0 ea va : Nat} {a0 a1 p0 p1 : AV} (hn0 : n0 < N0) (hn2 : n2 < N0) (hne : n0 ≠ n2) {G : Nat → Option Blk} (hG : G n0 = some (.cells [a0, a1, w] ea va)) (n : Nat) :
    ∀ (i : Nat) (tc : List AV) (s : T AV) (h : Heap) (rv : AV) (k : List Fr) (Q : Ex → T AV → Heap → Prop), i + n = rs.length → N0 ≤ h.next → (∃ e ver, h.get n2 = some (.cells [p0, p1, rv] e ver)) → LR h (N0 ≤ ·) rv 1 tc i → Cat RRing (rs.take i) tc →
    (∀ b, b < N0 → b ≠ n2 → h.get b = G b) → sg s 1 = .ptr n0 0 → sg s 3 = .ptr n2 0 → sg s 4 = .int .i64 i →
    (∀ s' h' rv' tc', (∃ e ver, h'.get n2 = some (.cells [p0, p1, rv'] e ver)) → LR h' (N0 ≤ ·) rv' 1 tc' rs.length → Cat RRing rs tc' → (∀ b, b < N0 → b ≠ n2 → h'.get b = G b) → N0 ≤ h'.next → (∀ j, j = 2 ∨ j = 3 → sg s' j = sg s j) → Un P k Q (.exit 0) s' h') → Lp P b45_0 s h (Un P k Q) := by
  have hbd := hw.bound (by decide)
  induction n with
  | zero =>
    intro i tc s h rv k Q hi hh hf r hc hk h1 h3 h4 hQ
    refine g.lpe b45_0.eq_1 ?_
    have g0 := (hk n0 hn0 hne).trans hG
    have c1 : ¬ ((i : Int) < (rs.length : Int)) := by omega
    simp only [h1, h4, g0, hw.len, c1, RX, VOp.fresh, bxC, bsC, un, most, callsOf, seval, Int.reducePow, ↓reduceIte, Nat.reduceEqDiff, reduceCtorEq]
    have hi' : i = rs.length := by omega
    subst hi'
    rw [List.take_length] at hc
    refine hQ _ _ rv _ hf r hc hk hh ?_
    rintro j (rfl | rfl) <;> simp only [sg_set, Nat.reduceEqDiff, ↓reduceIte]
  | succ n ih =>
    intro i tc s h rv k Q hi hh hf r hc hk h1 h3 h4 hQ
    refine g.lpe b45_0.eq_1 ?_
    have g0 := (hk n0 hn0 hne).trans hG
    have c1 : ((i : Int) < (rs.length : Int)) := by omega
    have w1 : IntKind.i64.wrap ((i : Int) + 1) = ((i + 1 : Nat) : Int) := by rw [w64 (by omega) (by omega)]; push_cast; rfl
    obtain ⟨ci, rr, ⟨vi, rfl, hvi⟩, hat⟩ := hw.at zRing i (by omega)
    obtain ⟨ef, vf, hf⟩ := hf
    have hm24 : (i + 1) * 24 ≤ most2 := by have := hw.1; rw [reach_eq] at this; unfold most2; omega
    simp only [h1, h3, h4, g0, hw.len, c1, RX, VOp.fresh, bxC, bsC, un, most, callsOf, seval, Int.reducePow, ↓reduceIte, Nat.reduceEqDiff, reduceCtorEq]
    refine EvD.lk (fun _ _ h => (.undef, h)) ?_
    have gb1 : (h.mk' h.next (.cells [] 61 0)).get h.next = some (.cells [] 61 0) := by rw [Heap.get_mk, if_pos rfl]
    have nb1 : (h.mk' h.next (.cells [] 61 0)).next = h.next + 1 := by rw [mk_next]; omega
    have em1 := Ext.mk (h := h) (.cells [] 61 0)
    obtain ⟨v1, H1, t1, ap1, nx1, kp1, lv1, is1, ce1, on1⟩ := app_copy plainPt hvi gb1 61
    have kk1 : ∀ b, b < h.next → H1.get b = h.get b := fun b hb => (kp1 b (by omega) (by omega)).trans (em1.2 b hb)
    have em2 := Ext.mk (h := H1) (.cells [v1] 62 0)
    have nb2 : (H1.mk' H1.next (.cells [v1] 62 0)).next = H1.next + 1 := by rw [mk_next]; omega
    have r1 : LR H1 (N0 ≤ ·) rv 1 tc i := r.frame (by omega) fun b _ hb => kk1 b hb
    have hlt := r.lt
    have lv2 : Lvs (H1.mk' H1.next (.cells [v1] 62 0)) (fun b => N0 ≤ b ∧ b ∉ blkOf rv) [v1] [t1] := .cons ((lv1.frame em2.1 fun b _ hb => em2.2 b hb).weak fun b hb _ => ⟨by omega, fun hc => by have := hlt b hc; omega⟩) .nil
    obtain ⟨H3, e3, r3, n3, k3⟩ := (r1.frame em2.1 fun b _ hb => em2.2 b hb).push (nb := H1.next) (eb := 62) (vb := 0) (c := [v1]) (by rw [Heap.get_mk, if_pos rfl]) rfl (by simp [on1]) lv2 (by rw [nb2]; omega) (bytes := 24) hm24 62
    rw [nb2] at e3 r3 n3 k3
    have hv := r1.inB
    have kk3 : ∀ b, b < H1.next → b ∉ blkOf rv → H3.get b = H1.get b := fun b hb hn => (k3 b hn (by omega)).trans (em2.2 b hb)
    have hf1 := (kk1 n2 (by omega)).trans hf
    have hf3 := (kk3 n2 (by omega) fun hc => by have := hv n2 hc; omega).trans hf1
    have hfn : ¬ n2 = H1.next := by omega
    have hfm : ¬ n2 = h.next := by omega
    have h0m : ¬ n0 = h.next := by omega
    simp only [h1, h3, h4, g0, hf, hf1, hf3, hfn, hfm, h0m, hat, ap1, e3, ce1, on1, w1, RW, RX, VOp.fresh, bxC, bsC, un, most, callsOf, seval, Int.reducePow, ↓reduceIte, Nat.reduceEqDiff, reduceCtorEq]
    have gm1 := (em1.2 n2 (by omega)).trans hf
    have gm2 := (em2.2 n2 (by omega)).trans hf1
    refine ⟨⟨⟨?_, ?_, ?_, trivial⟩, ⟨?_, trivial⟩, ⟨?_, trivial⟩, trivial⟩, ?_⟩
    · show Lk _ _ _ _
      simp only [Lk, wanted, gm1, hf, hfm, RX, VOp.fresh, bxC, bsC, un, most, callsOf, seval, Int.reducePow, ↓reduceIte, Nat.reduceEqDiff, reduceCtorEq]
    · show Lk _ _ _ _
      simp only [Lk, wanted, hf1, RX, VOp.fresh, bxC, bsC, un, most, callsOf, seval, Int.reducePow, ↓reduceIte, Nat.reduceEqDiff, reduceCtorEq]
    · show Lk _ _ _ _
      simp only [Lk, wanted, gm2, hf1, hfn, RX, VOp.fresh, bxC, bsC, un, most, callsOf, seval, Int.reducePow, ↓reduceIte, Nat.reduceEqDiff, reduceCtorEq]
    · show Lk _ _ _ _
      simp only [Lk, wanted, g0, RX, VOp.fresh, bxC, bsC, un, most, callsOf, seval, Int.reducePow, ↓reduceIte, Nat.reduceEqDiff, reduceCtorEq]
    · show Lk _ _ _ _
      simp only [Lk, wanted, hat, RX, VOp.fresh, bxC, bsC, un, most, callsOf, seval, Int.reducePow, ↓reduceIte, Nat.reduceEqDiff, reduceCtorEq]
    refine ih (i + 1) (tc ++ [t1]) _ _ (.sl (H1.next + 1) 0 (i + 1) (i + 1) 1) k Q (by omega) ?_ ?_ ?_ ?_ ?_ ?_ ?_ ?_ ?_
    · rw [put_next]; omega
    · exact ⟨ef, vf + 1, by rw [Heap.get_put, if_pos rfl]⟩
    · have r6 := (r3.weak (B' := fun b => N0 ≤ b ∧ b ≠ n2) fun b hb _ => ⟨hb, by omega⟩).frame (h' := H3.put n2 (.cells [p0, p1, .sl (H1.next + 1) 0 (i + 1) (i + 1) 1] ef (vf + 1))) (by rw [put_next]; exact Nat.le_refl _) fun b hb _ => by rw [Heap.get_put, if_neg hb.2]
      exact r6.weak (B' := (N0 ≤ ·)) fun b hb _ => hb.1
    · exact hc.take (by omega) ⟨t1, rfl, is1⟩
    · intro b hb hf'
      rw [Heap.get_put, if_neg hf', kk3 b (by omega) (fun hc => by have := hv b hc; omega), kk1 b (by omega), hk b hb hf']
    · simp only [h1, sg_set, Nat.reduceEqDiff, ↓reduceIte]
    · simp only [h3, sg_set, Nat.reduceEqDiff, ↓reduceIte]
    · simp only [sg_set, Nat.reduceEqDiff, ↓reduceIte]
    · intro s' h' rv' tc' q1 q2 q3 q4 q5 q6
      refine hQ s' h' rv' tc' q1 q2 q3 q4 q5 fun j hj => (q6 j hj).trans ?_
      rcases hj with rfl | rfl <;> simp only [sg_set, Nat.reduceEqDiff, ↓reduceIte]
theorem copyFeat_cl (g : Pg P tab) {f : Feat} {c : List AV} (hm : RFeat f c) {h : Heap} {Q : AV → Heap → Prop}
    (q : ∀ c' t h', Lvs h' (h.next ≤ ·) c' t → RFeat f t → c'.length = 3 → c'.all AV.one = true → Ext h h' → Q (.agg c') h') : Cl P 45 [.agg c] h Q := by
  obtain ⟨w, rfl, h1, h2, hw⟩ := hm
  refine g.cl (vf := v45) rfl rfl ?_
  have f1 : ¬ h.next = h.next + 1 + 1 := by omega
  have f2 : ¬ h.next = h.next + 1 := by omega
  simp only [v45, RW, f1, f2, RX, VOp.fresh, bxC, bsC, un, most, callsOf, seval, Int.reducePow, ↓reduceIte, Nat.reduceEqDiff, reduceCtorEq]
  have g0 : ((((h.mk' h.next (.cells [.int .i64 f.id, .int .i64 f.shape, w] 50 0)).mk' (h.next + 1) (.cells [.int .i64 0, .int .i64 0, .nils] 50 0)).mk' (h.next + 1 + 1) (.cells [.int .i64 0, .int .i64 0, .nils] 50 0)).put (h.next + 1 + 1) (.cells [.int .i64 f.id, .int .i64 f.shape, .nils] 50 1)).get h.next = some (.cells [.int .i64 f.id, .int .i64 f.shape, w] 50 0) := by
    rw [Heap.get_put, if_neg (by omega), Heap.get_mk, if_neg (by omega), Heap.get_mk, if_neg (by omega), Heap.get_mk, if_pos rfl]
  have g1 : ((((h.mk' h.next (.cells [.int .i64 f.id, .int .i64 f.shape, w] 50 0)).mk' (h.next + 1) (.cells [.int .i64 0, .int .i64 0, .nils] 50 0)).mk' (h.next + 1 + 1) (.cells [.int .i64 0, .int .i64 0, .nils] 50 0)).put (h.next + 1 + 1) (.cells [.int .i64 f.id, .int .i64 f.shape, .nils] 50 1)).get (h.next + 1) = some (.cells [.int .i64 0, .int .i64 0, .nils] 50 0) := by
    rw [Heap.get_put, if_neg (by omega), Heap.get_mk, if_neg (by omega), Heap.get_mk, if_pos rfl]
  have g2 : ((((h.mk' h.next (.cells [.int .i64 f.id, .int .i64 f.shape, w] 50 0)).mk' (h.next + 1) (.cells [.int .i64 0, .int .i64 0, .nils] 50 0)).mk' (h.next + 1 + 1) (.cells [.int .i64 0, .int .i64 0, .nils] 50 0)).put (h.next + 1 + 1) (.cells [.int .i64 f.id, .int .i64 f.shape, .nils] 50 1)).get (h.next + 1 + 1) = some (.cells [.int .i64 f.id, .int .i64 f.shape, .nils] 50 1) := by
    rw [Heap.get_put, if_pos rfl]
  have n0 : ((((h.mk' h.next (.cells [.int .i64 f.id, .int .i64 f.shape, w] 50 0)).mk' (h.next + 1) (.cells [.int .i64 0, .int .i64 0, .nils] 50 0)).mk' (h.next + 1 + 1) (.cells [.int .i64 0, .int .i64 0, .nils] 50 0)).put (h.next + 1 + 1) (.cells [.int .i64 f.id, .int .i64 f.shape, .nils] 50 1)).next = h.next + 3 := by rw [put_next, mk_next, mk_next, mk_next]; omega
  have x0 : ∀ b, b < h.next → ((((h.mk' h.next (.cells [.int .i64 f.id, .int .i64 f.shape, w] 50 0)).mk' (h.next + 1) (.cells [.int .i64 0, .int .i64 0, .nils] 50 0)).mk' (h.next + 1 + 1) (.cells [.int .i64 0, .int .i64 0, .nils] 50 0)).put (h.next + 1 + 1) (.cells [.int .i64 f.id, .int .i64 f.shape, .nils] 50 1)).get b = h.get b := fun b hb => by
    rw [Heap.get_put, if_neg (by omega), Heap.get_mk, if_neg (by omega), Heap.get_mk, if_neg (by omega), Heap.get_mk, if_neg (by omega)]
  generalize (((h.mk' h.next (.cells [.int .i64 f.id, .int .i64 f.shape, w] 50 0)).mk' (h.next + 1) (.cells [.int .i64 0, .int .i64 0, .nils] 50 0)).mk' (h.next + 1 + 1) (.cells [.int .i64 0, .int .i64 0, .nils] 50 0)).put (h.next + 1 + 1) (.cells [.int .i64 f.id, .int .i64 f.shape, .nils] 50 1) = H at *
  refine cp_rings g hw (n0 := h.next) (n2 := h.next + 1 + 1) (N0 := h.next + 3) (by omega) (by omega) (by omega) (G := H.get) g0 f.rings.length 0 [] _ H .nils _ _ (by omega) (by omega) ⟨_, _, g2⟩ (.nil _ _ _) .nil (fun _ _ _ => rfl) ?_ ?_ ?_ ?_
  · simp only [sg_set, Nat.reduceEqDiff, ↓reduceIte]
  · simp only [sg_set, Nat.reduceEqDiff, ↓reduceIte]
  · simp only [sg_set, Nat.reduceEqDiff, ↓reduceIte]
    rfl
  intro s' h' rv tc ⟨ef, vf, hf⟩ r hc hk hn a
  have a2 := a 2 (by simp)
  have a3 := a 3 (by simp)
  simp only [sg_set, Nat.reduceEqDiff, ↓reduceIte] at a2 a3
  have g1' := (hk (h.next + 1) (by omega) (by omega)).trans g1
  simp only [a2, a3, hf, g1', r.one, RW, RX, VOp.fresh, bxC, bsC, un, most, callsOf, seval, Int.reducePow, ↓reduceIte, Nat.reduceEqDiff, reduceCtorEq]
  refine q _ [.int .i64 f.id, .int .i64 f.shape, cRow tc f.rings.length] _ ((Lvs.cons .int (.cons .int (.cons (r.lv) .nil))).put (by omega) _ |>.weak fun c hc _ => by omega) ⟨_, rfl, h1, h2, row_isL hw.1 hc⟩ rfl ?_ ⟨by rw [put_next]; omega, fun b hb => ?_⟩
  · simp only [List.all_cons, List.all_nil, one_int, r.one, Bool.and_self]
  · rw [Heap.get_put, if_neg (by omega), hk b (by omega) (by omega), x0 b hb]
end
theorem len3 {l : List AV} (h : l.length = 3) : ∃ x y z, l = [x, y, z] := match l, h with | [x, y, z], _ => ⟨x, y, z, rfl⟩
end Go.Proofs.Ythmkenkjfmbkiaa.VM
namespace Go.Proofs.Ythmkenkjfmbkiaa.VM
attribute [local irreducible] Af Nx EvO Ev Un Gd Cd EvR EvQ EvC Nc Gc Lp EvM NxM AfM GdM EvMR EvMQ EvMD EvMC Nm Gm
section
variable {P : Program}
theorem sInts_loop (g : Pg P tab) {l : List Int} {a b : AV} (ha : IsL 8 RInt a l) (hb : IsL 8 RInt b l) (n : Nat) :
    ∀ (i : Nat) (s : T AV) (hh : Heap) (k : List Fr) (Q : Ex → T AV → Heap → Prop), i + n = l.length → sg s 0 = a → sg s 1 = b → sg s 5 = .int .i64 i → (∀ s' h', Un P k Q (.exit 0) s' h') → Lp P b30_0 s hh (Un P k Q) := by
  have hbd := ha.bound (by decide)
  induction n with
  | zero =>
    intro i s hh k Q hi h0 h1 h5 hK
    refine g.lpe b30_0.eq_1 ?_
    have c1 : ¬ ((i : Int) < (l.length : Int)) := by omega
    simp only [h0, h5, ha.len, c1, RX, VOp.fresh, bxC, bsC, un, most, callsOf, seval, Int.reducePow, ↓reduceIte, Nat.reduceEqDiff, reduceCtorEq]
    exact hK _ _
  | succ n ih =>
    intro i s hh k Q hi h0 h1 h5 hK
    refine g.lpe b30_0.eq_1 ?_
    have c1 : (i : Int) < (l.length : Int) := by omega
    obtain ⟨r1, _, g1⟩ := getInt ha i (by omega)
    obtain ⟨r2, _, g2⟩ := getInt hb i (by omega)
    have w1 : IntKind.i64.wrap ((i : Int) + 1) = ((i + 1 : Nat) : Int) := by rw [w64 (by omega) (by omega)]; push_cast; rfl
    simp only [h0, h1, h5, ha.len, c1, g1, g2, w1, RX, VOp.fresh, bxC, bsC, un, most, callsOf, seval, Int.reducePow, ↓reduceIte, Nat.reduceEqDiff, reduceCtorEq]
    refine ih (i + 1) _ _ k Q (by omega) ?_ ?_ ?_ hK
    · simp only [h0, sg_set, Nat.reduceEqDiff, ↓reduceIte]
    · simp only [h1, sg_set, Nat.reduceEqDiff, ↓reduceIte]
    · simp only [sg_set, Nat.reduceEqDiff, ↓reduceIte]
theorem sInts_pu (g : Pg P tab) {l : List Int} {a b : AV} (ha : IsL 8 RInt a l) (hb : IsL 8 RInt b l) : Pu P 30 [a, b] (fun v => v = .bool true) := by
  refine g.pu (vf := v30) rfl rfl ?_
  simp only [v30, ha.len, hb.len, RX, VOp.fresh, bxC, bsC, un, most, callsOf, seval, Int.reducePow, ↓reduceIte, Nat.reduceEqDiff, reduceCtorEq]
  refine sInts_loop g ha hb l.length 0 _ _ _ _ (by omega) ?_ ?_ ?_ fun s' h' => ?_
  · simp only [sg_set, Nat.reduceEqDiff, ↓reduceIte]
  · simp only [sg_set, Nat.reduceEqDiff, ↓reduceIte]
  · simp only [sg_set, Nat.reduceEqDiff, ↓reduceIte]
    rfl
  simp only [RX, VOp.fresh, bxC, bsC, un, most, callsOf, seval, Int.reducePow, ↓reduceIte, Nat.reduceEqDiff, reduceCtorEq]
theorem sMap_pu (g : Pg P tab) {e : Int} {l1 l2 : List Int} {a1 a2 b1 b2 : AV} (h1 : IsL 8 RInt a1 l1) (h2 : IsL 8 RInt a2 l2) (k1 : IsL 8 RInt b1 l1) (k2 : IsL 8 RInt b2 l2) : Pu P 19 [.agg [.int .i64 e, a1, a2], .agg [.int .i64 e, b1, b2]] (fun v => v = .bool true) := by
  refine g.pu (vf := v19) rfl rfl ?_
  simp only [v19, RX, VOp.fresh, bxC, bsC, un, most, callsOf, seval, Int.reducePow, ↓reduceIte, Nat.reduceEqDiff, reduceCtorEq]
  refine (sInts_pu g h1 k1).go (by simp [AV.tolds, h1.told tInt, k1.told tInt]) ?_
  rintro v rfl
  simp only [RX, VOp.fresh, bxC, bsC, un, most, callsOf, seval, Int.reducePow, ↓reduceIte, Nat.reduceEqDiff, reduceCtorEq]
  refine (sInts_pu g h2 k2).go (by simp [AV.tolds, h2.told tInt, k2.told tInt]) ?_
  rintro v rfl
  simp only [RX, VOp.fresh, bxC, bsC, un, most, callsOf, seval, Int.reducePow, ↓reduceIte, Nat.reduceEqDiff, reduceCtorEq]
theorem sPts_loop (g : Pg P tab) {l : List Pt} {a b w u p0 p1 q0 q1 : AV} (ha : IsL 16 RPt a l) (hb : IsL 16 RPt b l) {i0 n2 n3 : Nat} (hwa : ∃ r, ∀ hh : Heap, iaV hh 1 none w (.int .i64 i0) = .val (.rp (a :: r)) hh) (hub : ∃ r, ∀ hh : Heap, iaV hh 1 none u (.int .i64 i0) = .val (.rp (b :: r)) hh) (n : Nat) :
    ∀ (i : Nat) (s : T AV) (hh : Heap) (k : List Fr) (Q : Ex → T AV → Heap → Prop), i + n = l.length → (∃ e ver, hh.get n2 = some (.cells [p0, p1, w] e ver)) → (∃ e ver, hh.get n3 = some (.cells [q0, q1, u] e ver)) → sg s 2 = .ptr n2 0 → sg s 3 = .ptr n3 0 → sg s 5 = .int .i64 i0 → sg s 6 = .int .i64 i →
      (∀ s', (∀ j, j = 2 ∨ j = 3 ∨ j = 5 → sg s' j = sg s j) → Un P k Q (.exit 2) s' hh) → Lp P b26_0 s hh (Un P k Q) := by
  have hbd := ha.bound (by decide)
  obtain ⟨ra, hwa⟩ := hwa
  obtain ⟨rb, hub⟩ := hub
  induction n with
  | zero =>
    intro i s hh k Q hi hx hy h2 h3 h5 h6 hK
    refine g.lpe b26_0.eq_1 ?_
    obtain ⟨e1, v1, hx⟩ := hx
    have c1 : ¬ ((i : Int) < (l.length : Int)) := by omega
    simp only [h2, h3, h5, h6, hx, hwa, ha.len, c1, RX, VOp.fresh, bxC, bsC, un, most, callsOf, seval, Int.reducePow, ↓reduceIte, Nat.reduceEqDiff, reduceCtorEq]
    refine hK _ ?_
    rintro j (rfl | rfl | rfl) <;> simp only [sg_set, Nat.reduceEqDiff, ↓reduceIte]
  | succ n ih =>
    intro i s hh k Q hi hx hy h2 h3 h5 h6 hK
    refine g.lpe b26_0.eq_1 ?_
    have c1 : (i : Int) < (l.length : Int) := by omega
    obtain ⟨r1, _, g1⟩ := getPt ha i (by omega)
    obtain ⟨r2, _, g2⟩ := getPt hb i (by omega)
    have w1 : IntKind.i64.wrap ((i : Int) + 1) = ((i + 1 : Nat) : Int) := by rw [w64 (by omega) (by omega)]; push_cast; rfl
    have hx' := hx
    have hy' := hy
    obtain ⟨e1, v1, hx⟩ := hx
    obtain ⟨e2, v2, hy⟩ := hy
    simp only [h2, h3, h5, h6, hx, hy, hwa, hub, ha.len, c1, g1, g2, w1, flat2, RX, VOp.fresh, bxC, bsC, un, most, callsOf, seval, Int.reducePow, ↓reduceIte, Nat.reduceEqDiff, reduceCtorEq]
    refine ih (i + 1) _ _ k Q (by omega) hx' hy' ?_ ?_ ?_ ?_ ?_
    · simp only [h2, sg_set, Nat.reduceEqDiff, ↓reduceIte]
    · simp only [h3, sg_set, Nat.reduceEqDiff, ↓reduceIte]
    · simp only [h5, sg_set, Nat.reduceEqDiff, ↓reduceIte]
    · simp only [sg_set, Nat.reduceEqDiff, ↓reduceIte]
    · intro s' q
      refine hK s' fun j hj => (q j hj).trans ?_
      rcases hj with rfl | rfl | rfl <;> simp only [sg_set, Nat.reduceEqDiff, ↓reduceIte]
theorem sRings_loop (g : Pg P tab) {l : List (List Pt)} {w u p0 p1 q0 q1 : AV} (ha : IsL 24 RRing w l) (hb : IsL 24 RRing u l) {n2 n3 : Nat} (n : Nat) :
    ∀ (i : Nat) (s : T AV) (hh : Heap) (k : List Fr) (Q : Ex → T AV → Heap → Prop), i + n = l.length → (∃ e ver, hh.get n2 = some (.cells [p0, p1, w] e ver)) → (∃ e ver, hh.get n3 = some (.cells [q0, q1, u] e ver)) → sg s 2 = .ptr n2 0 → sg s 3 = .ptr n3 0 → sg s 5 = .int .i64 i →
      (∀ s', Un P k Q (.exit 0) s' hh) → Lp P b26_1 s hh (Un P k Q) := by
  have hbd := ha.bound (by decide)
  induction n with
  | zero =>
    intro i s hh k Q hi hx hy h2 h3 h5 hK
    refine g.lpe b26_1.eq_1 ?_
    obtain ⟨e1, v1, hx⟩ := hx
    have c1 : ¬ ((i : Int) < (l.length : Int)) := by omega
    simp only [h2, h3, h5, hx, ha.len, c1, RX, VOp.fresh, bxC, bsC, un, most, callsOf, seval, Int.reducePow, ↓reduceIte, Nat.reduceEqDiff, reduceCtorEq]
    exact hK _
  | succ n ih =>
    intro i s hh k Q hi hx hy h2 h3 h5 hK
    refine g.lpe b26_1.eq_1 ?_
    have c1 : (i : Int) < (l.length : Int) := by omega
    obtain ⟨x1, r1, i1, _, g1⟩ := getRing ha i (by omega)
    obtain ⟨x2, r2, i2, _, g2⟩ := getRing hb i (by omega)
    have w1 : IntKind.i64.wrap ((i : Int) + 1) = ((i + 1 : Nat) : Int) := by rw [w64 (by omega) (by omega)]; push_cast; rfl
    have hx' := hx
    have hy' := hy
    obtain ⟨e1, v1, hx⟩ := hx
    obtain ⟨e2, v2, hy⟩ := hy
    simp only [h2, h3, h5, hx, hy, ha.len, c1, g1, g2, i1.len, i2.len, RX, VOp.fresh, bxC, bsC, un, most, callsOf, seval, Int.reducePow, ↓reduceIte, Nat.reduceEqDiff, reduceCtorEq]
    refine sPts_loop g i1 i2 (i0 := i) ⟨r1, fun hh => g1 hh _⟩ ⟨r2, fun hh => g2 hh _⟩ (l.getD i []).length 0 _ _ _ _ (by omega) hx' hy' ?_ ?_ ?_ ?_ ?_
    · simp only [h2, sg_set, Nat.reduceEqDiff, ↓reduceIte]
    · simp only [h3, sg_set, Nat.reduceEqDiff, ↓reduceIte]
    · simp only [h5, sg_set, Nat.reduceEqDiff, ↓reduceIte]
    · simp only [sg_set, Nat.reduceEqDiff, ↓reduceIte]
      rfl
    intro s' q
    have a2 := q 2 (by simp)
    have a3 := q 3 (by simp)
    have a5 := q 5 (by simp)
    simp only [sg_set, Nat.reduceEqDiff, ↓reduceIte, h2, h3, h5] at a2 a3 a5
    simp only [a5, w1, RX, VOp.fresh, bxC, bsC, un, most, callsOf, seval, Int.reducePow, ↓reduceIte, Nat.reduceEqDiff, reduceCtorEq]
    refine ih (i + 1) _ _ k Q (by omega) hx' hy' ?_ ?_ ?_ hK
    · simp only [a2, sg_set, Nat.reduceEqDiff, ↓reduceIte]
    · simp only [a3, sg_set, Nat.reduceEqDiff, ↓reduceIte]
    · simp only [sg_set, Nat.reduceEqDiff, ↓reduceIte]
theorem sFeat_pu (g : Pg P tab) {f : Feat} {c d : List AV} (hc : RFeat f c) (hd : RFeat f d) : Pu P 26 [.agg c, .agg d] (fun v => v = .bool true) := by
  obtain ⟨a, rfl, _, _, ha⟩ := hc
  obtain ⟨b, rfl, _, _, hb⟩ := hd
  refine g.pu (vf := v26) rfl rfl ?_
  simp only [v26, ha.len, hb.len, RX, VOp.fresh, bxC, bsC, un, most, callsOf, seval, Int.reducePow, ↓reduceIte, Nat.reduceEqDiff, reduceCtorEq]
  refine sRings_loop g ha hb (n2 := 0) (n3 := 1) f.rings.length 0 _ _ _ _ (by omega) ⟨50, 0, by rw [Heap.get_mk, if_neg (by decide), Heap.get_mk, if_pos rfl]⟩ ⟨50, 0, by rw [Heap.get_mk, if_pos rfl]⟩ ?_ ?_ ?_ fun s' => ?_
  · simp only [sg_set, Nat.reduceEqDiff, ↓reduceIte]
  · simp only [sg_set, Nat.reduceEqDiff, ↓reduceIte]
  · simp only [sg_set, Nat.reduceEqDiff, ↓reduceIte]
    rfl
  simp only [RX, VOp.fresh, bxC, bsC, un, most, callsOf, seval, Int.reducePow, ↓reduceIte, Nat.reduceEqDiff, reduceCtorEq]
theorem sOps_loop (g : Pg P tab) {l : List Op} {a b : AV} (ha : IsL 112 ROp a l) (hb : IsL 112 ROp b l) (n : Nat) :
    ∀ (i : Nat) (s : T AV) (hh : Heap) (k : List Fr) (Q : Ex → T AV → Heap → Prop), i + n = l.length → sg s 0 = a → sg s 1 = b → sg s 5 = .int .i64 i → (∀ s' h', Un P k Q (.exit 0) s' h') → Lp P b16_0 s hh (Un P k Q) := by
  have hbd := ha.bound (by decide)
  induction n with
  | zero =>
    intro i s hh k Q hi h0 h1 h5 hK
    refine g.lpe b16_0.eq_1 ?_
    have c1 : ¬ ((i : Int) < (l.length : Int)) := by omega
    simp only [h0, h5, ha.len, c1, RX, VOp.fresh, bxC, bsC, un, most, callsOf, seval, Int.reducePow, ↓reduceIte, Nat.reduceEqDiff, reduceCtorEq]
    exact hK _ _
  | succ n ih =>
    intro i s hh k Q hi h0 h1 h5 hK
    refine g.lpe b16_0.eq_1 ?_
    have c1 : (i : Int) < (l.length : Int) := by omega
    obtain ⟨x, r1, ⟨x1, x2, x3, rfl, i1, i2, i3, i4, i5, i6, i7, i8⟩, _, _, g1⟩ := getOp ha i (by omega)
    obtain ⟨y, r2, ⟨y1, y2, y3, rfl, k1, k2, k3, k4, k5, k6, k7, k8⟩, _, _, g2⟩ := getOp hb i (by omega)
    have w1 : IntKind.i64.wrap ((i : Int) + 1) = ((i + 1 : Nat) : Int) := by rw [w64 (by omega) (by omega)]; push_cast; rfl
    simp only [h0, h1, h5, ha.len, c1, g1, g2, Bool.or_self, RX, VOp.fresh, bxC, bsC, un, most, callsOf, seval, Int.reducePow, ↓reduceIte, Nat.reduceEqDiff, reduceCtorEq]
    refine (sFeat_pu g (f := (l.getD i op0).f) ⟨_, rfl, i2, i3, i4⟩ ⟨_, rfl, k2, k3, k4⟩).go (by simp [AV.tolds, AV.told, i4.told tRing, k4.told tRing]) ?_
    rintro v rfl
    simp only [h0, h1, h5, g1, g2, RX, VOp.fresh, bxC, bsC, un, most, callsOf, seval, Int.reducePow, ↓reduceIte, Nat.reduceEqDiff, reduceCtorEq]
    refine (sMap_pu g i7 i8 k7 k8).go (by simp [AV.tolds, AV.told, i7.told tInt, k7.told tInt, i8.told tInt, k8.told tInt]) ?_
    rintro v rfl
    simp only [h0, h1, h5, w1, RX, VOp.fresh, bxC, bsC, un, most, callsOf, seval, Int.reducePow, ↓reduceIte, Nat.reduceEqDiff, reduceCtorEq]
    refine ih (i + 1) _ _ k Q (by omega) ?_ ?_ ?_ hK
    · simp only [h0, sg_set, Nat.reduceEqDiff, ↓reduceIte]
    · simp only [h1, sg_set, Nat.reduceEqDiff, ↓reduceIte]
    · simp only [sg_set, Nat.reduceEqDiff, ↓reduceIte]
theorem sOps_pu (g : Pg P tab) {l : List Op} {a b : AV} (ha : IsL 112 ROp a l) (hb : IsL 112 ROp b l) : Pu P 16 [a, b] (fun v => v = .bool true) := by
  refine g.pu (vf := v16) rfl rfl ?_
  simp only [v16, ha.len, hb.len, RX, VOp.fresh, bxC, bsC, un, most, callsOf, seval, Int.reducePow, ↓reduceIte, Nat.reduceEqDiff, reduceCtorEq]
  refine sOps_loop g ha hb l.length 0 _ _ _ _ (by omega) ?_ ?_ ?_ fun s' h' => ?_
  · simp only [sg_set, Nat.reduceEqDiff, ↓reduceIte]
  · simp only [sg_set, Nat.reduceEqDiff, ↓reduceIte]
  · simp only [sg_set, Nat.reduceEqDiff, ↓reduceIte]
    rfl
  simp only [RX, VOp.fresh, bxC, bsC, un, most, callsOf, seval, Int.reducePow, ↓reduceIte, Nat.reduceEqDiff, reduceCtorEq]
end
end Go.Proofs.Ythmkenkjfmbkiaa.VM
namespace Go.Proofs.Ythmkenkjfmbkiaa.VM
attribute [local irreducible] Af Nx EvO Ev Un Gd Cd EvR EvQ EvC Nc Gc Lp EvM NxM AfM GdM EvMR EvMQ EvMD EvMC Nm Gm
def At (h : Heap) (b j : Nat) (x : AV) : Prop := ∃ l e ver, h.get b = some (.cells l e ver) ∧ l[j]? = some x
def AtI (h : Heap) (b j : Nat) : Prop := ∃ m, At h b j (.int .i64 m)
def AtE (h : Heap) (b j : Nat) : Prop := ∃ x, At h b j x ∧ x.one = true
def NoI (x : AV) : Prop := ∀ m, x ≠ .int .i64 m
theorem At.ld {h : Heap} {b j : Nat} {x : AV} (a : At h b j x) : ldB false j 1 h (h.get b) = .val x h := by
  obtain ⟨l, e, ver, hg, hx⟩ := a
  obtain ⟨hj, rfl⟩ := List.getElem?_eq_some_iff.1 hx
  rw [hg, ldB_at hj]
theorem At.ld3 {h : Heap} {b j : Nat} {x y z : AV} (a : At h b j x) (a1 : At h b (j + 1) y) (a2 : At h b (j + 2) z) : ldB true j 3 h (h.get b) = .val (.agg [x, y, z]) h := by
  obtain ⟨l, e, ver, hg, hx⟩ := a
  obtain ⟨l1, e1, ver1, hg1, hy⟩ := a1
  obtain ⟨l2, e2, ver2, hg2, hz⟩ := a2
  rw [hg] at hg1 hg2
  cases hg1
  cases hg2
  obtain ⟨i0, rfl⟩ := List.getElem?_eq_some_iff.1 hx
  obtain ⟨i1, rfl⟩ := List.getElem?_eq_some_iff.1 hy
  obtain ⟨i2, rfl⟩ := List.getElem?_eq_some_iff.1 hz
  have e : (l.drop j).take 3 = [l[j], l[j + 1], l[j + 2]] := by
    rw [List.drop_eq_getElem_cons i0, List.drop_eq_getElem_cons i1, List.drop_eq_getElem_cons i2]
    rfl
  rw [hg, ldB_some, part_eq, e]
  rfl
def Sims (l k : List AV) : Prop := k.length = l.length ∧ ∀ j : Nat, k[j]? = l[j]? ∨ ((∃ m, l[j]? = some (AV.int .i64 m)) ∧ ∃ m, k[j]? = some (AV.int .i64 m))
theorem Sims.refl (l : List AV) : Sims l l := ⟨rfl, fun _ => .inl rfl⟩
theorem Sims.trans {a b c : List AV} (x : Sims a b) (y : Sims b c) : Sims a c := ⟨y.1.trans x.1, fun j => by
  rcases x.2 j with p | ⟨⟨m, p⟩, m', p'⟩
  · rcases y.2 j with q | ⟨q, q'⟩
    · exact .inl (q.trans p)
    · exact .inr ⟨by rw [← p]; exact q, q'⟩
  · rcases y.2 j with q | ⟨q, q'⟩
    · exact .inr ⟨⟨m, p⟩, m', q.trans p'⟩
    · exact .inr ⟨⟨m, p⟩, q'⟩⟩
theorem Sims.set {l : List AV} {j : Nat} {m n : Int} (h : l[j]? = some (.int .i64 m)) : Sims l (l.set j (.int .i64 n)) := ⟨List.length_set, fun i => by
  by_cases e : i = j
  · subst e
    obtain ⟨hi, _⟩ := List.getElem?_eq_some_iff.1 h
    exact .inr ⟨⟨m, h⟩, n, by rw [List.getElem?_set_self hi]⟩
  · exact .inl (List.getElem?_set_ne (fun c => e c.symm))⟩
/-- the blocks of B have numbers written over, the others stand -/
def Sim (B : Nat → Prop) (h h' : Heap) : Prop := h.next ≤ h'.next ∧ ∀ b, b < h.next → (¬ B b → h'.get b = h.get b) ∧ ∀ l e ver, h.get b = some (.cells l e ver) → ∃ l' ver', h'.get b = some (.cells l' e ver') ∧ Sims l l'
section
variable {B : Nat → Prop} {h h' h'' : Heap}
theorem Sim.refl : Sim B h h := ⟨Nat.le_refl _, fun b _ => ⟨fun _ => rfl, fun l e ver hg => ⟨l, ver, hg, Sims.refl l⟩⟩⟩
theorem Sim.trans (x : Sim B h h') (y : Sim B h' h'') : Sim B h h'' := ⟨Nat.le_trans x.1 y.1, fun b hb => by
  obtain ⟨a1, a2⟩ := x.2 b hb
  obtain ⟨c1, c2⟩ := y.2 b (Nat.lt_of_lt_of_le hb x.1)
  refine ⟨fun n => (c1 n).trans (a1 n), fun l e ver hg => ?_⟩
  obtain ⟨l', ver', g', s'⟩ := a2 l e ver hg
  obtain ⟨l'', ver'', g'', s''⟩ := c2 l' e ver' g'
  exact ⟨l'', ver'', g'', s'.trans s''⟩⟩
theorem Sim.ext (x : Ext h h') : Sim B h h' := ⟨x.1, fun b hb => ⟨fun _ => x.2 b hb, fun l e ver hg => ⟨l, ver, (x.2 b hb).trans hg, Sims.refl l⟩⟩⟩
theorem Sim.cut {B' : Nat → Prop} (x : Sim B' h h') (k : ∀ b, B' b → b < h.next → B b) : Sim B h h' := ⟨x.1, fun b hb => ⟨fun n => (x.2 b hb).1 fun c => n (k b c hb), (x.2 b hb).2⟩⟩
theorem At.sim {b j : Nat} {x : AV} (a : At h b j x) (hb : b < h.next) (hx : NoI x) (s : Sim B h h') : At h' b j x := by
  obtain ⟨l, e, ver, hg, h1⟩ := a
  obtain ⟨l', ver', g', _, s'⟩ := (s.2 b hb).2 l e ver hg
  rcases s' j with c | ⟨⟨m, c⟩, _⟩
  · exact ⟨l', e, ver', g', c.trans h1⟩
  · rw [h1] at c; cases c; exact absurd rfl (hx m)
theorem AtI.sim {b j : Nat} (a : AtI h b j) (hb : b < h.next) (s : Sim B h h') : AtI h' b j := by
  obtain ⟨m, l, e, ver, hg, h1⟩ := a
  obtain ⟨l', ver', g', _, s'⟩ := (s.2 b hb).2 l e ver hg
  rcases s' j with c | ⟨_, m', c⟩
  · exact ⟨m, l', e, ver', g', c.trans h1⟩
  · exact ⟨m', l', e, ver', g', c⟩
theorem AtE.sim {b j : Nat} (a : AtE h b j) (hb : b < h.next) (s : Sim B h h') : AtE h' b j := by
  obtain ⟨x, ⟨l, e, ver, hg, h1⟩, ho⟩ := a
  obtain ⟨l', ver', g', hl, s'⟩ := (s.2 b hb).2 l e ver hg
  rcases s' j with c | ⟨_, m', c⟩
  · exact ⟨x, ⟨l', e, ver', g', c.trans h1⟩, ho⟩
  · exact ⟨_, ⟨l', e, ver', g', c⟩, rfl⟩
/-- a number is written over -/
theorem AtI.st {b j : Nat} (a : AtI h b j) (hB : B b) (n : Int) : ∃ h', writeAt h b j [.int .i64 n] = some h' ∧ Sim B h h' := by
  obtain ⟨m, l, e, ver, hg, h1⟩ := a
  obtain ⟨hj, _⟩ := List.getElem?_eq_some_iff.1 h1
  refine ⟨h.put b (.cells (l.set j (.int .i64 n)) e (ver + 1)), ?_, by rw [put_next]; exact Nat.le_refl _, fun c hc => ⟨fun hn => by rw [Heap.get_put, if_neg (show ¬ c = b from fun ec => hn (ec ▸ hB))], fun l2 e2 v2 hg2 => ?_⟩⟩
  · unfold writeAt
    rw [hg]
    have : Nat.ble (j + 1) l.length = true := by rw [Nat.ble_eq]; exact hj
    simp only [List.length_cons, List.length_nil, Nat.zero_add, this, List.all_cons, one_int, List.all_nil, Bool.and_self, cond_true, lsets_one hj]
  · by_cases hc' : c = b
    · subst hc'
      rw [hg] at hg2
      cases hg2
      exact ⟨_, _, by rw [Heap.get_put, if_pos rfl], Sims.set h1⟩
    · exact ⟨l2, v2, by rw [Heap.get_put, if_neg hc']; exact hg2, Sims.refl _⟩
end
def most3 : Nat := 1000000
def LInts (h : Heap) (B : Nat → Prop) (v : AV) : Prop := v = .nils ∨ ∃ b off n cap, v = .sl b off n cap 1 ∧ n ≤ most3 ∧ B b ∧ b < h.next ∧ ∀ i, i < n → AtI h b (off + i)
def LPts (h : Heap) (B : Nat → Prop) (v : AV) : Prop := v = .nils ∨ ∃ b off n cap, v = .sl b off n cap 2 ∧ n ≤ most3 ∧ B b ∧ b < h.next ∧ ∀ i, i < n → AtI h b (off + i * 2)
def LRings (h : Heap) (B : Nat → Prop) (v : AV) : Prop := v = .nils ∨ ∃ b off n cap, v = .sl b off n cap 1 ∧ n ≤ most3 ∧ B b ∧ b < h.next ∧ ∀ i, i < n → ∃ x, At h b (off + i) x ∧ LPts h B x
def LFeats (h : Heap) (B : Nat → Prop) (v : AV) : Prop := v = .nils ∨ ∃ b off n cap, v = .sl b off n cap 3 ∧ n ≤ most3 ∧ B b ∧ b < h.next ∧ ∀ i, i < n → AtI h b (off + i * 3) ∧ ∃ x, At h b (off + i * 3 + 2) x ∧ LRings h B x
def LOps (h : Heap) (B : Nat → Prop) (v : AV) : Prop := v = .nils ∨ ∃ b off n cap, v = .sl b off n cap 8 ∧ n ≤ most3 ∧ B b ∧ b < h.next ∧ ∀ i, i < n → AtI h b (off + i * 8 + 1) ∧ AtE h b (off + i * 8 + 2) ∧ (∃ x, At h b (off + i * 8 + 3) x ∧ LRings h B x) ∧
  AtI h b (off + i * 8 + 4) ∧ AtE h b (off + i * 8 + 5) ∧ (∃ x, At h b (off + i * 8 + 6) x ∧ LInts h B x) ∧ ∃ x, At h b (off + i * 8 + 7) x ∧ LInts h B x
section
variable {B B' : Nat → Prop} {h h' : Heap}
theorem LInts.noI {v : AV} (l : LInts h B v) : NoI v := by rintro m rfl; rcases l with e | ⟨_, _, _, _, e, _⟩ <;> cases e
theorem LPts.noI {v : AV} (l : LPts h B v) : NoI v := by rintro m rfl; rcases l with e | ⟨_, _, _, _, e, _⟩ <;> cases e
theorem LRings.noI {v : AV} (l : LRings h B v) : NoI v := by rintro m rfl; rcases l with e | ⟨_, _, _, _, e, _⟩ <;> cases e
theorem LInts.one {v : AV} (l : LInts h B v) : v.one = true := by rcases l with rfl | ⟨_, _, _, _, rfl, _⟩ <;> rfl
theorem LRings.one {v : AV} (l : LRings h B v) : v.one = true := by rcases l with rfl | ⟨_, _, _, _, rfl, _⟩ <;> rfl
theorem LInts.sim {v : AV} (l : LInts h B v) (s : Sim B' h h') : LInts h' B v := by
  rcases l with rfl | ⟨b, off, n, cap, rfl, a1, a2, a3, a4⟩
  · exact .inl rfl
  · exact .inr ⟨b, off, n, cap, rfl, a1, a2, Nat.lt_of_lt_of_le a3 s.1, fun i hi => (a4 i hi).sim a3 s⟩
theorem LPts.sim {v : AV} (l : LPts h B v) (s : Sim B' h h') : LPts h' B v := by
  rcases l with rfl | ⟨b, off, n, cap, rfl, a1, a2, a3, a4⟩
  · exact .inl rfl
  · exact .inr ⟨b, off, n, cap, rfl, a1, a2, Nat.lt_of_lt_of_le a3 s.1, fun i hi => (a4 i hi).sim a3 s⟩
theorem LRings.sim {v : AV} (l : LRings h B v) (s : Sim B' h h') : LRings h' B v := by
  rcases l with rfl | ⟨b, off, n, cap, rfl, a1, a2, a3, a4⟩
  · exact .inl rfl
  · refine .inr ⟨b, off, n, cap, rfl, a1, a2, Nat.lt_of_lt_of_le a3 s.1, fun i hi => ?_⟩
    obtain ⟨x, c1, c2⟩ := a4 i hi
    exact ⟨x, c1.sim a3 c2.noI s, c2.sim s⟩
theorem LFeats.sim {v : AV} (l : LFeats h B v) (s : Sim B' h h') : LFeats h' B v := by
  rcases l with rfl | ⟨b, off, n, cap, rfl, a1, a2, a3, a4⟩
  · exact .inl rfl
  · refine .inr ⟨b, off, n, cap, rfl, a1, a2, Nat.lt_of_lt_of_le a3 s.1, fun i hi => ?_⟩
    obtain ⟨c0, x, c1, c2⟩ := a4 i hi
    exact ⟨c0.sim a3 s, x, c1.sim a3 c2.noI s, c2.sim s⟩
theorem LOps.sim {v : AV} (l : LOps h B v) (s : Sim B' h h') : LOps h' B v := by
  rcases l with rfl | ⟨b, off, n, cap, rfl, a1, a2, a3, a4⟩
  · exact .inl rfl
  · refine .inr ⟨b, off, n, cap, rfl, a1, a2, Nat.lt_of_lt_of_le a3 s.1, fun i hi => ?_⟩
    obtain ⟨c1, c2, ⟨x, c3, c4⟩, c5, c6, ⟨y, c7, c8⟩, z, c9, c10⟩ := a4 i hi
    exact ⟨c1.sim a3 s, c2.sim a3 s, ⟨x, c3.sim a3 c4.noI s, c4.sim s⟩, c5.sim a3 s, c6.sim a3 s, ⟨y, c7.sim a3 c8.noI s, c8.sim s⟩, z, c9.sim a3 c10.noI s, c10.sim s⟩
theorem LPts.weak {v : AV} (l : LPts h B v) (k : ∀ b, B b → B' b) : LPts h B' v := by
  rcases l with rfl | ⟨b, off, n, cap, rfl, a1, a2, a3, a4⟩
  · exact .inl rfl
  · exact .inr ⟨b, off, n, cap, rfl, a1, k _ a2, a3, a4⟩
theorem LRings.weak {v : AV} (l : LRings h B v) (k : ∀ b, B b → B' b) : LRings h B' v := by
  rcases l with rfl | ⟨b, off, n, cap, rfl, a1, a2, a3, a4⟩
  · exact .inl rfl
  · refine .inr ⟨b, off, n, cap, rfl, a1, k _ a2, a3, fun i hi => ?_⟩
    obtain ⟨x, c1, c2⟩ := a4 i hi
    exact ⟨x, c1, c2.weak k⟩
end
section
variable {P : Program}
theorem spInts_loop (g : Pg P tab) {B : Nat → Prop} {h0 : Heap} {b off N cap : Nat} (hN : N ≤ most3) (hB : B b) (hb : b < h0.next) (ha : ∀ i, i < N → AtI h0 b (off + i)) (n : Nat) :
    ∀ (i : Nat) (s : T AV) (h : Heap) (k : List Fr) (Q : Ex → T AV → Heap → Prop), i + n = N → Sim B h0 h → sg s 0 = .sl b off N cap 1 → sg s 2 = .int .i64 i → (∀ s' h', Sim B h0 h' → Un P k Q (.exit 0) s' h') → Lp P b67_0 s h (Un P k Q) := by
  unfold most3 at hN
  induction n with
  | zero =>
    intro i s h k Q hi hs h1 h2 hK
    refine g.lpe b67_0.eq_1 ?_
    have c1 : ¬ ((i : Int) < (N : Int)) := by omega
    simp only [h1, h2, c1, RX, VOp.fresh, bxC, bsC, un, most, callsOf, seval, Int.reducePow, ↓reduceIte, Nat.reduceEqDiff, reduceCtorEq]
    exact hK _ _ hs
  | succ n ih =>
    intro i s h k Q hi hs h1 h2 hK
    refine g.lpe b67_0.eq_1 ?_
    have c1 : ((i : Int) < (N : Int)) := by omega
    have c2 : 0 ≤ (i : Int) ∧ (i : Int) < (N : Int) ∧ 1 = 1 := ⟨by omega, by omega, rfl⟩
    have w1 : IntKind.i64.wrap ((i : Int) + 1) = ((i + 1 : Nat) : Int) := by rw [w64 (by omega) (by omega)]; push_cast; rfl
    have a := (ha i (by omega)).sim hb hs
    have a' := a
    obtain ⟨m, am⟩ := a'
    have ld := am.ld
    obtain ⟨h', hw, hs'⟩ := a.st hB (IntKind.i64.wrap (-9 - m))
    simp only [h1, h2, c1, c2, ld, hw, w1, Int.toNat_natCast, Nat.mul_one, RX, VOp.fresh, bxC, bsC, un, most, callsOf, seval, Int.reducePow, ↓reduceIte, Nat.reduceEqDiff, reduceCtorEq]
    refine ih (i + 1) _ h' k Q (by omega) (hs.trans hs') ?_ ?_ hK
    · simp only [h1, sg_set, Nat.reduceEqDiff, ↓reduceIte]
    · simp only [sg_set, Nat.reduceEqDiff, ↓reduceIte]
theorem spInts_cl (g : Pg P tab) {B : Nat → Prop} {h : Heap} {v : AV} (l : LInts h B v) {Q : AV → Heap → Prop} (q : ∀ v h', Sim B h h' → Q v h') : Cl P 67 [v] h Q := by
  refine g.cl (vf := v67) rfl rfl ?_
  rcases l with rfl | ⟨b, off, n, cap, rfl, a1, a2, a3, a4⟩
  · simp only [v67, RX, VOp.fresh, bxC, bsC, un, most, callsOf, seval, Int.reducePow, ↓reduceIte, Nat.reduceEqDiff, reduceCtorEq]
    refine g.lpe b67_0.eq_1 ?_
    simp only [RX, VOp.fresh, bxC, bsC, un, most, callsOf, seval, Int.reducePow, ↓reduceIte, Nat.reduceEqDiff, reduceCtorEq]
    exact q _ _ Sim.refl
  · simp only [v67, RX, VOp.fresh, bxC, bsC, un, most, callsOf, seval, Int.reducePow, ↓reduceIte, Nat.reduceEqDiff, reduceCtorEq]
    refine spInts_loop g (cap := cap) a1 a2 a3 a4 n 0 _ _ _ _ (by omega) Sim.refl ?_ ?_ fun s' h' hs => ?_
    · simp only [sg_set, Nat.reduceEqDiff, ↓reduceIte]
    · simp only [sg_set, Nat.reduceEqDiff, ↓reduceIte]
      rfl
    simp only [RX, VOp.fresh, bxC, bsC, un, most, callsOf, seval, Int.reducePow, ↓reduceIte, Nat.reduceEqDiff, reduceCtorEq]
    exact q _ _ hs
theorem spMap_cl (g : Pg P tab) {B : Nat → Prop} {h : Heap} {e u v : AV} (lu : LInts h B u) (lv : LInts h B v) (ho : e.one = true ∧ u.one = true ∧ v.one = true) {Q : AV → Heap → Prop} (q : ∀ v h', Sim B h h' → Q v h') : Cl P 41 [.agg [e, u, v]] h Q := by
  refine g.cl (vf := v41) rfl rfl ?_
  obtain ⟨o1, o2, o3⟩ := ho
  have x0 := Ext.mk (h := h) (.cells [e, u, v] 24 0)
  have a1 : At (h.mk' h.next (.cells [e, u, v] 24 0)) h.next 1 u := ⟨_, _, _, by rw [Heap.get_mk, if_pos rfl], rfl⟩
  have a2 : At (h.mk' h.next (.cells [e, u, v] 24 0)) h.next 2 v := ⟨_, _, _, by rw [Heap.get_mk, if_pos rfl], rfl⟩
  have n0 : (h.mk' h.next (.cells [e, u, v] 24 0)).next = h.next + 1 := by rw [mk_next]; omega
  simp only [v41, RW, o1, o2, o3, RX, VOp.fresh, bxC, bsC, un, most, callsOf, seval, Int.reducePow, ↓reduceIte, Nat.reduceEqDiff, reduceCtorEq]
  refine spInts_cl g (lu.sim (B' := B) (Sim.ext x0)) fun _ h1 s1 => ?_
  have l1 := (a2.sim (by omega) lv.noI s1).ld
  simp only [l1, RX, VOp.fresh, bxC, bsC, un, most, callsOf, seval, Int.reducePow, ↓reduceIte, Nat.reduceEqDiff, reduceCtorEq]
  refine spInts_cl g ((lv.sim (B' := B) (Sim.ext x0)).sim s1) fun _ h2 s2 => ?_
  simp only [RX, VOp.fresh, bxC, bsC, un, most, callsOf, seval, Int.reducePow, ↓reduceIte, Nat.reduceEqDiff, reduceCtorEq]
  exact q _ _ (((Sim.ext x0).trans s1).trans s2)
end
end Go.Proofs.Ythmkenkjfmbkiaa.VM
namespace Go.Proofs.Ythmkenkjfmbkiaa.VM
attribute [local irreducible] Af Nx EvO Ev Un Gd Cd EvR EvQ EvC Nc Gc Lp EvM NxM AfM GdM EvMR EvMQ EvMD EvMC Nm Gm
section
variable {P : Program}
/-- the points of one ring -/
theorem spPts_loop (g : Pg P tab) {B : Nat → Prop} {h0 : Heap} {b off N cap b1 off1 N1 cap1 i0 b2 off2 N2 cap2 j0 : Nat} (hb : b < h0.next) (hi0 : i0 < N) (hN : N ≤ most3) (a0 : At h0 b (off + i0 * 3 + 2) (.sl b1 off1 N1 cap1 1))
    (hb1 : b1 < h0.next) (hj0 : j0 < N1) (a1 : At h0 b1 (off1 + j0) (.sl b2 off2 N2 cap2 2)) (hN2 : N2 ≤ most3) (hB : B b2) (hb2 : b2 < h0.next) (ha : ∀ i, i < N2 → AtI h0 b2 (off2 + i * 2)) (n : Nat) :
    ∀ (i : Nat) (s : T AV) (h : Heap) (k : List Fr) (Q : Ex → T AV → Heap → Prop), i + n = N2 → Sim B h0 h → sg s 0 = .sl b off N cap 3 → sg s 2 = .int .i64 i0 → sg s 3 = .int .i64 j0 → sg s 4 = .int .i64 i →
      (∀ s' h', Sim B h0 h' → (∀ j, j = 0 ∨ j = 2 ∨ j = 3 → sg s' j = sg s j) → Un P k Q (.exit 4) s' h') → Lp P b49_0 s h (Un P k Q) := by
  unfold most3 at hN2
  have d0 : 0 ≤ (i0 : Int) ∧ (i0 : Int) < (N : Int) ∧ 3 = 3 := ⟨by omega, by omega, rfl⟩
  have d1 : 0 ≤ (j0 : Int) ∧ (j0 : Int) < (N1 : Int) ∧ 1 = 1 := ⟨by omega, by omega, rfl⟩
  have no1 : NoI (.sl b1 off1 N1 cap1 1) := fun m e => by cases e
  have no2 : NoI (.sl b2 off2 N2 cap2 2) := fun m e => by cases e
  induction n with
  | zero =>
    intro i s h k Q hi hs h1 h2 h3 h4 hK
    refine g.lpe b49_0.eq_1 ?_
    have c1 : ¬ ((i : Int) < (N2 : Int)) := by omega
    have l0 := (a0.sim hb no1 hs).ld
    have l1 := (a1.sim hb1 no2 hs).ld
    simp only [h1, h2, h3, h4, d0, d1, c1, l0, l1, Int.toNat_natCast, Nat.mul_one, RX, VOp.fresh, bxC, bsC, un, most, callsOf, seval, Int.reducePow, ↓reduceIte, Nat.reduceEqDiff, reduceCtorEq]
    refine hK _ _ hs ?_
    rintro j (rfl | rfl | rfl) <;> simp only [sg_set, Nat.reduceEqDiff, ↓reduceIte]
  | succ n ih =>
    intro i s h k Q hi hs h1 h2 h3 h4 hK
    refine g.lpe b49_0.eq_1 ?_
    have c1 : ((i : Int) < (N2 : Int)) := by omega
    have d2 : 0 ≤ (i : Int) ∧ (i : Int) < (N2 : Int) ∧ 2 = 2 := ⟨by omega, by omega, rfl⟩
    have w1 : IntKind.i64.wrap ((i : Int) + 1) = ((i + 1 : Nat) : Int) := by rw [w64 (by omega) (by omega)]; push_cast; rfl
    have l0 := (a0.sim hb no1 hs).ld
    have l1 := (a1.sim hb1 no2 hs).ld
    have a := (ha i (by omega)).sim hb2 hs
    have a' := a
    obtain ⟨m, am⟩ := a'
    have ld := am.ld
    obtain ⟨h', hw, hs'⟩ := a.st hB (bitsOf .xor .i64 m 90)
    simp only [h1, h2, h3, h4, d0, d1, d2, c1, l0, l1, ld, hw, w1, Int.toNat_natCast, Nat.mul_one, Nat.add_zero, RX, VOp.fresh, bxC, bsC, un, most, callsOf, seval, Int.reducePow, ↓reduceIte, Nat.reduceEqDiff, reduceCtorEq]
    refine ih (i + 1) _ h' k Q (by omega) (hs.trans hs') ?_ ?_ ?_ ?_ ?_
    · simp only [h1, sg_set, Nat.reduceEqDiff, ↓reduceIte]
    · simp only [h2, sg_set, Nat.reduceEqDiff, ↓reduceIte]
    · simp only [h3, sg_set, Nat.reduceEqDiff, ↓reduceIte]
    · simp only [sg_set, Nat.reduceEqDiff, ↓reduceIte]
    · intro s' h'' q1 q2
      refine hK s' h'' q1 fun j hj => (q2 j hj).trans ?_
      rcases hj with rfl | rfl | rfl <;> simp only [sg_set, Nat.reduceEqDiff, ↓reduceIte]
/-- the rings of one feature -/
theorem spRings_loop (g : Pg P tab) {B : Nat → Prop} {h0 : Heap} {b off N cap b1 off1 N1 cap1 i0 : Nat} (hb : b < h0.next) (hi0 : i0 < N) (hN : N ≤ most3) (a0 : At h0 b (off + i0 * 3 + 2) (.sl b1 off1 N1 cap1 1))
    (hb1 : b1 < h0.next) (hN1 : N1 ≤ most3) (ha : ∀ i, i < N1 → ∃ x, At h0 b1 (off1 + i) x ∧ LPts h0 B x) (n : Nat) :
    ∀ (i : Nat) (s : T AV) (h : Heap) (k : List Fr) (Q : Ex → T AV → Heap → Prop), i + n = N1 → Sim B h0 h → sg s 0 = .sl b off N cap 3 → sg s 2 = .int .i64 i0 → sg s 3 = .int .i64 i →
      (∀ s' h', Sim B h0 h' → (∀ j, j = 0 ∨ j = 2 → sg s' j = sg s j) → Un P k Q (.exit 2) s' h') → Lp P b49_1 s h (Un P k Q) := by
  have d0 : 0 ≤ (i0 : Int) ∧ (i0 : Int) < (N : Int) ∧ 3 = 3 := ⟨by omega, by omega, rfl⟩
  have no1 : NoI (.sl b1 off1 N1 cap1 1) := fun m e => by cases e
  unfold most3 at hN1
  induction n with
  | zero =>
    intro i s h k Q hi hs h1 h2 h3 hK
    refine g.lpe b49_1.eq_1 ?_
    have c1 : ¬ ((i : Int) < (N1 : Int)) := by omega
    have l0 := (a0.sim hb no1 hs).ld
    simp only [h1, h2, h3, d0, c1, l0, Int.toNat_natCast, Nat.mul_one, RX, VOp.fresh, bxC, bsC, un, most, callsOf, seval, Int.reducePow, ↓reduceIte, Nat.reduceEqDiff, reduceCtorEq]
    refine hK _ _ hs ?_
    rintro j (rfl | rfl) <;> simp only [sg_set, Nat.reduceEqDiff, ↓reduceIte]
  | succ n ih =>
    intro i s h k Q hi hs h1 h2 h3 hK
    refine g.lpe b49_1.eq_1 ?_
    have c1 : ((i : Int) < (N1 : Int)) := by omega
    have d1 : 0 ≤ (i : Int) ∧ (i : Int) < (N1 : Int) ∧ 1 = 1 := ⟨by omega, by omega, rfl⟩
    have w1 : IntKind.i64.wrap ((i : Int) + 1) = ((i + 1 : Nat) : Int) := by rw [w64 (by omega) (by omega)]; push_cast; rfl
    have l0 := (a0.sim hb no1 hs).ld
    obtain ⟨x, ax, lx⟩ := ha i (by omega)
    have step : ∀ s' h', Sim B h0 h' → sg s' 0 = .sl b off N cap 3 → sg s' 2 = .int .i64 i0 → sg s' 3 = .int .i64 (i + 1 : Nat) → Lp P b49_1 s' h' (Un P k Q) := fun s' h' e0 e1 e2 e3 =>
      ih (i + 1) _ _ k Q (by omega) e0 e1 e2 e3 fun s'' h'' q1 q2 => hK s'' h'' q1 fun j hj => (q2 j hj).trans (by rcases hj with rfl | rfl; exact e1.trans h1.symm; exact e2.trans h2.symm)
    simp only [h1, h2, h3, d0, c1, l0, Int.toNat_natCast, Nat.mul_one, RX, VOp.fresh, bxC, bsC, un, most, callsOf, seval, Int.reducePow, ↓reduceIte, Nat.reduceEqDiff, reduceCtorEq]
    rcases lx with rfl | ⟨b2, off2, N2, cap2, rfl, p1, p2, p3, p4⟩
    · refine g.lpe b49_0.eq_1 ?_
      have l1 := (ax.sim hb1 (fun m e => by cases e) hs).ld
      simp only [h1, h2, h3, d0, d1, c1, l0, l1, w1, Int.toNat_natCast, Nat.mul_one, RX, VOp.fresh, bxC, bsC, un, most, callsOf, seval, Int.reducePow, ↓reduceIte, Nat.reduceEqDiff, reduceCtorEq]
      refine step _ _ hs ?_ ?_ ?_
      · simp only [h1, sg_set, Nat.reduceEqDiff, ↓reduceIte]
      · simp only [h2, sg_set, Nat.reduceEqDiff, ↓reduceIte]
      · simp only [sg_set, Nat.reduceEqDiff, ↓reduceIte]
    · refine spPts_loop g (cap := cap) hb hi0 hN a0 hb1 (by omega) ax p1 p2 p3 p4 N2 0 _ _ _ _ (by omega) hs ?_ ?_ ?_ ?_ ?_
      · simp only [h1, sg_set, Nat.reduceEqDiff, ↓reduceIte]
      · simp only [h2, sg_set, Nat.reduceEqDiff, ↓reduceIte]
      · simp only [h3, sg_set, Nat.reduceEqDiff, ↓reduceIte]
      · simp only [sg_set, Nat.reduceEqDiff, ↓reduceIte]
        rfl
      intro s' h' hs' q
      have q0 := q 0 (by simp)
      have q2 := q 2 (by simp)
      have q3 := q 3 (by simp)
      simp only [sg_set, Nat.reduceEqDiff, ↓reduceIte, h1, h2, h3] at q0 q2 q3
      simp only [q3, w1, RX, VOp.fresh, bxC, bsC, un, most, callsOf, seval, Int.reducePow, ↓reduceIte, Nat.reduceEqDiff, reduceCtorEq]
      refine step _ _ hs' ?_ ?_ ?_
      · simp only [q0, sg_set, Nat.reduceEqDiff, ↓reduceIte]
      · simp only [q2, sg_set, Nat.reduceEqDiff, ↓reduceIte]
      · simp only [sg_set, Nat.reduceEqDiff, ↓reduceIte]
theorem spFeats_loop (g : Pg P tab) {B : Nat → Prop} {h0 : Heap} {b off N cap : Nat} (hb : b < h0.next) (hB : B b) (hN : N ≤ most3) (ha : ∀ i, i < N → AtI h0 b (off + i * 3) ∧ ∃ x, At h0 b (off + i * 3 + 2) x ∧ LRings h0 B x) (n : Nat) :
    ∀ (i : Nat) (s : T AV) (h : Heap) (k : List Fr) (Q : Ex → T AV → Heap → Prop), i + n = N → Sim B h0 h → sg s 0 = .sl b off N cap 3 → sg s 2 = .int .i64 i →
      (∀ s' h', Sim B h0 h' → Un P k Q (.exit 0) s' h') → Lp P b49_2 s h (Un P k Q) := by
  have hN' := hN
  unfold most3 at hN'
  induction n with
  | zero =>
    intro i s h k Q hi hs h1 h2 hK
    refine g.lpe b49_2.eq_1 ?_
    have c1 : ¬ ((i : Int) < (N : Int)) := by omega
    simp only [h1, h2, c1, RX, VOp.fresh, bxC, bsC, un, most, callsOf, seval, Int.reducePow, ↓reduceIte, Nat.reduceEqDiff, reduceCtorEq]
    exact hK _ _ hs
  | succ n ih =>
    intro i s h k Q hi hs h1 h2 hK
    refine g.lpe b49_2.eq_1 ?_
    have c1 : ((i : Int) < (N : Int)) := by omega
    have d0 : 0 ≤ (i : Int) ∧ (i : Int) < (N : Int) ∧ 3 = 3 := ⟨by omega, by omega, rfl⟩
    have w1 : IntKind.i64.wrap ((i : Int) + 1) = ((i + 1 : Nat) : Int) := by rw [w64 (by omega) (by omega)]; push_cast; rfl
    obtain ⟨ai, x, ax, lx⟩ := ha i (by omega)
    simp only [h1, h2, c1, RX, VOp.fresh, bxC, bsC, un, most, callsOf, seval, Int.reducePow, ↓reduceIte, Nat.reduceEqDiff, reduceCtorEq]
    have l0 := (ax.sim hb lx.noI hs).ld
    rcases lx with rfl | ⟨b1, off1, N1, cap1, rfl, p1, p2, p3, p4⟩
    · refine g.lpe b49_1.eq_1 ?_
      obtain ⟨m, am⟩ := ai.sim hb hs
      have ld := am.ld
      obtain ⟨h', hw, hs'⟩ := (ai.sim hb hs).st hB (bitsOf .xor .i64 m 90)
      simp only [h1, h2, d0, l0, ld, hw, w1, Int.toNat_natCast, Nat.add_zero, RX, VOp.fresh, bxC, bsC, un, most, callsOf, seval, Int.reducePow, ↓reduceIte, Nat.reduceEqDiff, reduceCtorEq]
      refine ih (i + 1) _ h' k Q (by omega) (hs.trans hs') ?_ ?_ hK
      · simp only [h1, sg_set, Nat.reduceEqDiff, ↓reduceIte]
      · simp only [sg_set, Nat.reduceEqDiff, ↓reduceIte]
    · refine spRings_loop g (cap := cap) hb (by omega) hN ax p3 p1 p4 N1 0 _ _ _ _ (by omega) hs ?_ ?_ ?_ ?_
      · simp only [h1, sg_set, Nat.reduceEqDiff, ↓reduceIte]
      · simp only [h2, sg_set, Nat.reduceEqDiff, ↓reduceIte]
      · simp only [sg_set, Nat.reduceEqDiff, ↓reduceIte]
        rfl
      intro s' h2' hs2 q
      have q0 := q 0 (by simp)
      have q2 := q 2 (by simp)
      simp only [sg_set, Nat.reduceEqDiff, ↓reduceIte, h1, h2] at q0 q2
      obtain ⟨m, am⟩ := ai.sim hb hs2
      have ld := am.ld
      obtain ⟨h', hw, hs'⟩ := (ai.sim hb hs2).st hB (bitsOf .xor .i64 m 90)
      simp only [q0, q2, d0, ld, hw, w1, Int.toNat_natCast, Nat.add_zero, RX, VOp.fresh, bxC, bsC, un, most, callsOf, seval, Int.reducePow, ↓reduceIte, Nat.reduceEqDiff, reduceCtorEq]
      refine ih (i + 1) _ h' k Q (by omega) (hs2.trans hs') ?_ ?_ hK
      · simp only [q0, sg_set, Nat.reduceEqDiff, ↓reduceIte]
      · simp only [sg_set, Nat.reduceEqDiff, ↓reduceIte]
theorem spFeats_cl (g : Pg P tab) {B : Nat → Prop} {h : Heap} {v : AV} (l : LFeats h B v) {Q : AV → Heap → Prop} (q : ∀ v h', Sim B h h' → Q v h') : Cl P 49 [v] h Q := by
  refine g.cl (vf := v49) rfl rfl ?_
  rcases l with rfl | ⟨b, off, n, cap, rfl, a1, a2, a3, a4⟩
  · simp only [v49, RX, VOp.fresh, bxC, bsC, un, most, callsOf, seval, Int.reducePow, ↓reduceIte, Nat.reduceEqDiff, reduceCtorEq]
    refine g.lpe b49_2.eq_1 ?_
    simp only [RX, VOp.fresh, bxC, bsC, un, most, callsOf, seval, Int.reducePow, ↓reduceIte, Nat.reduceEqDiff, reduceCtorEq]
    exact q _ _ Sim.refl
  · simp only [v49, RX, VOp.fresh, bxC, bsC, un, most, callsOf, seval, Int.reducePow, ↓reduceIte, Nat.reduceEqDiff, reduceCtorEq]
    refine spFeats_loop g (cap := cap) a3 a2 a1 a4 n 0 _ _ _ _ (by omega) Sim.refl ?_ ?_ fun s' h' hs => ?_
    · simp only [sg_set, Nat.reduceEqDiff, ↓reduceIte]
    · simp only [sg_set, Nat.reduceEqDiff, ↓reduceIte]
      rfl
    simp only [RX, VOp.fresh, bxC, bsC, un, most, callsOf, seval, Int.reducePow, ↓reduceIte, Nat.reduceEqDiff, reduceCtorEq]
    exact q _ _ hs
theorem spOps_loop (g : Pg P tab) {B : Nat → Prop} {h0 : Heap} {b off N cap : Nat} (hb : b < h0.next) (hB : B b) (hN : N ≤ most3)
    (ha : ∀ i, i < N → AtI h0 b (off + i * 8 + 1) ∧ AtE h0 b (off + i * 8 + 2) ∧ (∃ x, At h0 b (off + i * 8 + 3) x ∧ LRings h0 B x) ∧ AtI h0 b (off + i * 8 + 4) ∧ AtE h0 b (off + i * 8 + 5) ∧ (∃ x, At h0 b (off + i * 8 + 6) x ∧ LInts h0 B x) ∧ ∃ x, At h0 b (off + i * 8 + 7) x ∧ LInts h0 B x) (n : Nat) :
    ∀ (i : Nat) (s : T AV) (h : Heap) (k : List Fr) (Q : Ex → T AV → Heap → Prop), i + n = N → Sim B h0 h → sg s 0 = .sl b off N cap 8 → sg s 2 = .int .i64 i →
      (∀ s' h', Sim B h0 h' → Un P k Q (.exit 0) s' h') → Lp P b18_0 s h (Un P k Q) := by
  have hN' := hN
  unfold most3 at hN'
  induction n with
  | zero =>
    intro i s h k Q hi hs h1 h2 hK
    refine g.lpe b18_0.eq_1 ?_
    have c1 : ¬ ((i : Int) < (N : Int)) := by omega
    simp only [h1, h2, c1, RX, VOp.fresh, bxC, bsC, un, most, callsOf, seval, Int.reducePow, ↓reduceIte, Nat.reduceEqDiff, reduceCtorEq]
    exact hK _ _ hs
  | succ n ih =>
    intro i s h k Q hi hs h1 h2 hK
    refine g.lpe b18_0.eq_1 ?_
    have c1 : ((i : Int) < (N : Int)) := by omega
    have d0 : 0 ≤ (i : Int) ∧ (i : Int) < (N : Int) ∧ 8 = 8 := ⟨by omega, by omega, rfl⟩
    have w1 : IntKind.i64.wrap ((i : Int) + 1) = ((i + 1 : Nat) : Int) := by rw [w64 (by omega) (by omega)]; push_cast; rfl
    obtain ⟨p1, p2, ⟨r, p3, lr⟩, p4, p5, ⟨u, p6, lu⟩, v, p7, lv⟩ := ha i (by omega)
    obtain ⟨fi, q1⟩ := p1.sim hb hs
    obtain ⟨fs, q2, of⟩ := p2.sim hb hs
    have q3 := p3.sim hb lr.noI hs
    have l0 := q1.ld3 q2 q3
    have orr := lr.one
    have x0 := Ext.mk (h := h) (.cells [.int .i64 fi, fs, r] 50 0)
    have n0 : (h.mk' h.next (.cells [.int .i64 fi, fs, r] 50 0)).next = h.next + 1 := by rw [mk_next]; omega
    have g0 : (h.mk' h.next (.cells [.int .i64 fi, fs, r] 50 0)).get h.next = some (.cells [.int .i64 fi, fs, r] 50 0) := by rw [Heap.get_mk, if_pos rfl]
    simp only [h1, h2, d0, c1, l0, of, orr, RW, Int.toNat_natCast, RX, VOp.fresh, bxC, bsC, un, most, callsOf, seval, Int.reducePow, ↓reduceIte, Nat.reduceEqDiff, reduceCtorEq]
    refine spFeats_cl g (B := fun c => B c ∨ c = h.next) (.inr ⟨h.next, 0, 1, 1, rfl, by unfold most3; omega, .inr rfl, by omega, fun j hj => ?_⟩) fun _ h3 s3 => ?_
    · obtain rfl : j = 0 := by omega
      exact ⟨⟨fi, _, _, _, g0, rfl⟩, r, ⟨_, _, _, g0, rfl⟩, ((lr.sim hs).sim (B' := B) (Sim.ext x0)).weak fun c hc => .inl hc⟩
    have hs3 : Sim B h0 h3 := hs.trans (((Sim.ext x0).trans s3).cut fun c hc hl => by rcases hc with hc | hc; exact hc; omega)
    obtain ⟨ep, q5, o5⟩ := p5.sim hb hs3
    have q6 := p6.sim hb lu.noI hs3
    have q7 := p7.sim hb lv.noI hs3
    have l1 := q5.ld3 q6 q7
    simp only [h1, h2, d0, l1, Int.toNat_natCast, RX, VOp.fresh, bxC, bsC, un, most, callsOf, seval, Int.reducePow, ↓reduceIte, Nat.reduceEqDiff, reduceCtorEq]
    refine spMap_cl g (B := B) (lu.sim hs3) (lv.sim hs3) ⟨o5, lu.one, lv.one⟩ fun _ h4 s4 => ?_
    have hs4 := hs3.trans s4
    obtain ⟨m, am⟩ := p4.sim hb hs4
    have ld := am.ld
    obtain ⟨h', hw, hs'⟩ := (p4.sim hb hs4).st hB (bitsOf .xor .i64 m 90)
    simp only [h1, h2, d0, ld, hw, w1, Int.toNat_natCast, RX, VOp.fresh, bxC, bsC, un, most, callsOf, seval, Int.reducePow, ↓reduceIte, Nat.reduceEqDiff, reduceCtorEq]
    refine ih (i + 1) _ h' k Q (by omega) (hs4.trans hs') ?_ ?_ hK
    · simp only [h1, sg_set, Nat.reduceEqDiff, ↓reduceIte]
    · simp only [sg_set, Nat.reduceEqDiff, ↓reduceIte]
theorem spOps_cl (g : Pg P tab) {B : Nat → Prop} {h : Heap} {v : AV} (l : LOps h B v) {Q : AV → Heap → Prop} (q : ∀ v h', Sim B h h' → Q v h') : Cl P 18 [v] h Q := by
  refine g.cl (vf := v18) rfl rfl ?_
  rcases l with rfl | ⟨b, off, n, cap, rfl, a1, a2, a3, a4⟩
  · simp only [v18, RX, VOp.fresh, bxC, bsC, un, most, callsOf, seval, Int.reducePow, ↓reduceIte, Nat.reduceEqDiff, reduceCtorEq]
    refine g.lpe b18_0.eq_1 ?_
    simp only [RX, VOp.fresh, bxC, bsC, un, most, callsOf, seval, Int.reducePow, ↓reduceIte, Nat.reduceEqDiff, reduceCtorEq]
    exact q _ _ Sim.refl
  · simp only [v18, RX, VOp.fresh, bxC, bsC, un, most, callsOf, seval, Int.reducePow, ↓reduceIte, Nat.reduceEqDiff, reduceCtorEq]
    refine spOps_loop g (cap := cap) a3 a2 a1 a4 n 0 _ _ _ _ (by omega) Sim.refl ?_ ?_ fun s' h' hs => ?_
    · simp only [sg_set, Nat.reduceEqDiff, ↓reduceIte]
    · simp only [sg_set, Nat.reduceEqDiff, ↓reduceIte]
      rfl
    simp only [RX, VOp.fresh, bxC, bsC, un, most, callsOf, seval, Int.reducePow, ↓reduceIte, Nat.reduceEqDiff, reduceCtorEq]
    exact q _ _ hs
end
end Go.Proofs.Ythmkenkjfmbkiaa.VM
namespace Go.Proofs.Ythmkenkjfmbkiaa.VM
attribute [local irreducible] Af Nx EvO Ev Un Gd Cd EvR EvQ EvC Nc Gc Lp EvM NxM AfM GdM EvMR EvMQ EvMD EvMC Nm Gm
theorem bares_mem : ∀ {l : List AV} {x : AV}, AV.bares l = true → x ∈ l → x.bare = true
  | y :: l, x, h, hx => by
    simp only [AV.bares, Bool.and_eq_true] at h
    rcases List.mem_cons.1 hx with rfl | hx
    · exact h.1
    · exact bares_mem h.2 hx
theorem bares_of : ∀ {l : List AV}, (∀ x ∈ l, AV.bare x = true) → AV.bares l = true
  | [], _ => rfl
  | y :: l, h => by simp only [AV.bares, h y List.mem_cons_self, bares_of fun x hx => h x (List.mem_cons_of_mem _ hx), Bool.and_self]
theorem bares_cut {l cs : List AV} {i n : Nat} (h : AV.bares l = true) (hc : cut l i n = some cs) : AV.bares cs = true := by
  rw [cut_eq] at hc
  split at hc
  · cases hc
    exact bares_of fun x hx => bares_mem h (List.mem_of_mem_drop (List.mem_of_mem_take hx))
  · cases hc
theorem cut_get {l cs : List AV} {i n : Nat} (hc : cut l i n = some cs) : cs.length = n ∧ ∀ j, j < n → l[i + j]? = cs[j]? := by
  rw [cut_eq] at hc
  split at hc
  · rename_i e
    cases hc
    exact ⟨e, fun j hj => by rw [List.getElem?_take, if_pos hj, List.getElem?_drop]⟩
  · cases hc
section
variable {h : Heap} {B : Nat → Prop}
theorem Lv.int_inv {x : AV} {k : IntKind} {m : Int} (l : Lv h B x (.int k m)) : x = .int k m := by
  obtain ⟨D, f, _⟩ := l
  cases f
  rfl
theorem Lv.nils_inv {x : AV} (l : Lv h B x .nils) : x = .nils := by
  obtain ⟨D, f, _⟩ := l
  cases f
  rfl
theorem Fds.get : ∀ {x y : List AV} {D : List Nat}, Fds h x y D → ∀ {j : Nat} {b : AV}, y[j]? = some b → ∃ a E, x[j]? = some a ∧ a ∈ x ∧ Fd h a b E ∧ ∀ c ∈ E, c ∈ D
  | _, _, _, .nil, j, b, e => by simp at e
  | _, _, _, .cons (x := x) (D := D) f t, 0, b, e => by
    simp only [List.getElem?_cons_zero, Option.some.injEq] at e
    subst e
    exact ⟨x, D, rfl, List.mem_cons_self, f, fun c hc => List.mem_append_left _ hc⟩
  | _, _, _, .cons f t, j + 1, b, e => by
    simp only [List.getElem?_cons_succ] at e
    obtain ⟨a, E, h1, h2, h3, h4⟩ := t.get e
    exact ⟨a, E, by simpa using h1, List.mem_cons_of_mem _ h2, h3, fun c hc => List.mem_append_right _ (h4 c hc)⟩
theorem Lvs.get {x y : List AV} (l : Lvs h B x y) {j : Nat} {b : AV} (e : y[j]? = some b) : ∃ a, x[j]? = some a ∧ Lv h B a b := by
  obtain ⟨D, f, hb, o, i⟩ := l
  obtain ⟨a, E, h1, h2, h3, h4⟩ := f.get e
  exact ⟨a, h1, E, h3, bares_mem hb h2, fun c hc => o c (h4 c hc), fun c hc => i c (h4 c hc)⟩
theorem Lv.row_inv {x : AV} {cs : List AV} {n z : Nat} (l : Lv h B x (cRow cs n)) (hn : 0 < n) (hl : cs.length = n * z) : ∃ b off cap, x = .sl b off n cap z ∧ B b ∧ b < h.next ∧ ∀ j y, cs[j]? = some y → ∃ a, At h b (off + j) a ∧ Lv h B a y := by
  rw [cRow_s _ hn] at l
  obtain ⟨D, f, hb, o, i⟩ := l
  cases f with
  | told hx => cases hb
  | sl0 => omega
  | @sl b off len cap sz l c0 _ e ver D hl0 hnx hg hc t =>
    have hz : sz = z := by
      have := t.length
      obtain ⟨h1, _⟩ := cut_get hc
      rw [hl, h1] at this
      exact (Nat.eq_of_mul_eq_mul_left hn this).symm
    subst hz
    obtain ⟨l', e', ver', hg', hb'⟩ := o b List.mem_cons_self
    rw [hg] at hg'
    cases hg'
    have ls : Lvs h B c0 cs := ⟨D, t, bares_cut hb' hc, fun c hc => o c (List.mem_cons_of_mem _ hc), fun c hc => i c (List.mem_cons_of_mem _ hc)⟩
    refine ⟨b, off, cap, rfl, i b List.mem_cons_self, hnx, fun j y hy => ?_⟩
    obtain ⟨a, ha, la⟩ := ls.get hy
    obtain ⟨h1, h2⟩ := cut_get hc
    obtain ⟨hj, _⟩ := List.getElem?_eq_some_iff.1 ha
    exact ⟨a, ⟨l, e, ver, hg, by rw [h2 j (by omega)]; exact ha⟩, la⟩
theorem flat_get {α : Type} {F : α → List AV} {z : Nat} (hF : ∀ x, (F x).length = z) : ∀ {l : List α} {i j : Nat} (hi : i < l.length), j < z → ((l.map F).flatten)[i * z + j]? = (F l[i])[j]?
  | x :: l, 0, j, _, hj => by
    rw [List.map_cons, List.flatten_cons, Nat.zero_mul, Nat.zero_add, List.getElem?_append_left (by rw [hF]; exact hj)]
    rfl
  | x :: l, i + 1, j, hi, hj => by
    rw [List.map_cons, List.flatten_cons, List.getElem?_append_right (by rw [hF, Nat.add_mul]; omega), hF, show (i + 1) * z + j - z = i * z + j by rw [Nat.add_mul]; omega, flat_get hF (by simpa using hi) hj]
    rfl
theorem flat_len8 {α : Type} {F : α → List AV} {z : Nat} (hF : ∀ x, (F x).length = z) : ∀ {l : List α}, ((l.map F).flatten).length = l.length * z
  | [] => by simp
  | x :: l => by rw [List.map_cons, List.flatten_cons, List.length_append, hF, flat_len8 hF, List.length_cons, Nat.add_mul]; omega
theorem LInts.of {v : AV} {l : List Int} (a : Lv h B v (cInts l)) (hs : intsSm l) : LInts h B v := by
  by_cases h0 : l.length = 0
  · have : l = [] := List.eq_nil_of_length_eq_zero h0
    subst this
    exact .inl a.nils_inv
  · obtain ⟨b, off, cap, rfl, hB, hb, hg⟩ := a.row_inv (z := 1) (by omega) (by rw [List.length_map, Nat.mul_one])
    refine .inr ⟨b, off, l.length, cap, rfl, hs.1, hB, hb, fun i hi => ?_⟩
    obtain ⟨x, ax, lx⟩ := hg i (.int .i64 l[i]) (by rw [List.getElem?_map, List.getElem?_eq_getElem hi]; rfl)
    rw [lx.int_inv] at ax
    exact ⟨_, ax⟩
theorem LPts.of {v : AV} {l : List Pt} (a : Lv h B v (cRing l)) (hs : ringSm l) : LPts h B v := by
  by_cases h0 : l.length = 0
  · have : l = [] := List.eq_nil_of_length_eq_zero h0
    subst this
    exact .inl a.nils_inv
  · obtain ⟨b, off, cap, rfl, hB, hb, hg⟩ := a.row_inv (z := 2) (by omega) (flat_len8 (F := cPt) fun _ => rfl)
    refine .inr ⟨b, off, l.length, cap, rfl, hs.1, hB, hb, fun i hi => ?_⟩
    obtain ⟨x, ax, lx⟩ := hg (i * 2 + 0) (.int .i64 l[i].x) (by rw [flat_get (F := cPt) (z := 2) (fun _ => rfl) hi (by decide)]; rfl)
    rw [lx.int_inv] at ax
    exact ⟨_, ax⟩
theorem LRings.of {v : AV} {l : List (List Pt)} (a : Lv h B v (cRings l)) (h1 : l.length ≤ 1000000) (hs : ∀ r ∈ l, ringSm r) : LRings h B v := by
  by_cases h0 : l.length = 0
  · have : l = [] := List.eq_nil_of_length_eq_zero h0
    subst this
    exact .inl a.nils_inv
  · obtain ⟨b, off, cap, rfl, hB, hb, hg⟩ := a.row_inv (z := 1) (by omega) (by rw [List.length_map, Nat.mul_one])
    refine .inr ⟨b, off, l.length, cap, rfl, h1, hB, hb, fun i hi => ?_⟩
    obtain ⟨x, ax, lx⟩ := hg i (cRing l[i]) (by rw [List.getElem?_map, List.getElem?_eq_getElem hi]; rfl)
    exact ⟨x, ax, LPts.of lx (hs _ (List.getElem_mem hi))⟩
theorem LOps.of {v : AV} {l : List Op} (a : Lv h B v (cOpsL l)) (hs : opsSm l) : LOps h B v := by
  by_cases h0 : l.length = 0
  · have : l = [] := List.eq_nil_of_length_eq_zero h0
    subst this
    exact .inl a.nils_inv
  · obtain ⟨b, off, cap, rfl, hB, hb, hg⟩ := a.row_inv (z := 8) (by omega) (flat_len8 (F := cOpL) fun _ => rfl)
    refine .inr ⟨b, off, l.length, cap, rfl, hs.1, hB, hb, fun i hi => ?_⟩
    obtain ⟨s1, s2, s3, s4⟩ := hs.2 _ (List.getElem_mem hi)
    have get : ∀ j (y : AV), j < 8 → (cOpL l[i])[j]? = some y → ∃ a, At h b (off + i * 8 + j) a ∧ Lv h B a y := fun j y hj hy => by
      rw [Nat.add_assoc]
      exact hg (i * 8 + j) y (by rw [flat_get (F := cOpL) (z := 8) (fun _ => rfl) hi hj]; exact hy)
    have num : ∀ j (m : Int), j < 8 → (cOpL l[i])[j]? = some (.int .i64 m) → AtI h b (off + i * 8 + j) := fun j m hj hy => by
      obtain ⟨x, ax, lx⟩ := get j _ hj hy
      rw [lx.int_inv] at ax
      exact ⟨_, ax⟩
    have any : ∀ {j}, AtI h b j → AtE h b j := fun ⟨m, hm⟩ => ⟨_, hm, rfl⟩
    obtain ⟨x3, a3, l3⟩ := get 3 _ (by decide) rfl
    obtain ⟨x6, a6, l6⟩ := get 6 _ (by decide) rfl
    obtain ⟨x7, a7, l7⟩ := get 7 _ (by decide) rfl
    exact ⟨num 1 _ (by decide) rfl, any (num 2 _ (by decide) rfl), ⟨x3, a3, LRings.of l3 s2.2.2.1 s2.2.2.2⟩, num 4 _ (by decide) rfl, any (num 5 _ (by decide) rfl), ⟨x6, a6, LInts.of l6 s4.2.1⟩, x7, a7, LInts.of l7 s4.2.2⟩
end
end Go.Proofs.Ythmkenkjfmbkiaa.VM
namespace Go.Proofs.Ythmkenkjfmbkiaa.VM
attribute [local irreducible] Af Nx EvO Ev Un Gd Cd EvR EvQ EvC Nc Gc Lp EvM NxM AfM GdM EvMR EvMQ EvMD EvMC Nm Gm
structure Bx where
  x0 : Int
  y0 : Int
  x1 : Int
  y1 : Int
def boxOk (b : Bx) : Prop := coordOk b.x0 ∧ coordOk b.y0 ∧ coordOk b.x1 ∧ coordOk b.y1 ∧ b.x0 ≤ b.x1 ∧ b.y0 ≤ b.y1
instance (b : Bx) : Decidable (boxOk b) := by unfold boxOk; infer_instance
def nodeOk (x : Int) : Prop := 0 ≤ x ∧ x < 8
instance (x : Int) : Decidable (nodeOk x) := by unfold nodeOk; infer_instance
def feat0 : Feat := ⟨0, 0, []⟩
section
variable {P : Program}
theorem isL_one {b : Nat} {α : Type} {R : α → List AV → Prop} {v : AV} {l : List α} (h : IsL b R v l) : v.one = true := by
  rcases h.2 with ⟨rfl, _⟩ | ⟨c, rfl, _⟩ <;> rfl
theorem zFeat (a : Feat) (c : List AV) (h : RFeat a c) : c.length = 3 := by obtain ⟨v, rfl, _⟩ := h; rfl
theorem getFeat {v : AV} {l : List Feat} (h : IsL 40 RFeat v l) (i : Nat) (hi : i < l.length) : ∃ rv r, IsL 24 RRing rv (l.getD i feat0).rings ∧ I64 (l.getD i feat0).id ∧ I64 (l.getD i feat0).shape ∧ AV.tolds r = true ∧
    ∀ (hh : Heap) (kk : IntKind), iaV hh 3 none v (.int kk (i : Int)) = .val (.rp (.int .i64 (l.getD i feat0).id :: .int .i64 (l.getD i feat0).shape :: rv :: r)) hh := by
  obtain ⟨ci, r, ⟨rv, e, i1, i2, hr⟩, ht, hia⟩ := h.get zFeat tFeat i hi
  have : l.getD i feat0 = l[i] := by simp [List.getD_eq_getElem?_getD, List.getElem?_eq_getElem hi]
  refine ⟨rv, r, by rw [this]; exact hr, by rw [this]; exact i1, by rw [this]; exact i2, ?_, fun hh kk => ?_⟩
  · rw [e] at ht
    simp only [AV.tolds, List.cons_append, List.nil_append, Bool.and_eq_true] at ht
    exact ht.2.2.2
  · rw [hia, e, this]; rfl
end
def zeroBox (b : Bx) : Prop := b.x0 = 0 ∧ b.y0 = 0 ∧ b.x1 = 0 ∧ b.y1 = 0
instance (b : Bx) : Decidable (zeroBox b) := by unfold zeroBox; infer_instance
end Go.Proofs.Ythmkenkjfmbkiaa.VM
namespace Go.Proofs.Ythmkenkjfmbkiaa.VM
attribute [local irreducible] Af Nx EvO Ev Un Gd Cd EvR EvQ EvC Nc Gc Lp EvM NxM AfM GdM EvMR EvMQ EvMD EvMC Nm Gm
section
variable {P : Program}
theorem cp_feats (g : Pg P tab) {os : List Feat} {w : AV} (hw : IsL 40 RFeat w os) {N0 : Nat} (n : Nat) :
    ∀ (i : Nat) (tc : List AV) (s : T AV) (h : Heap) (k : List Fr) (Q : Ex → T AV → Heap → Prop), i + n = os.length → N0 ≤ h.next → LR h (N0 ≤ ·) (sg s 3) 3 tc i → Cat RFeat (os.take i) tc →
    sg s 0 = w → sg s 4 = .int .i64 i →
    (∀ s' h' tc', LR h' (N0 ≤ ·) (sg s' 3) 3 tc' os.length → Cat RFeat os tc' → (∀ b, b < N0 → h'.get b = h.get b) → N0 ≤ h'.next → Un P k Q (.exit 0) s' h') → Lp P b13_0 s h (Un P k Q) := by
  have hbd := hw.bound (by decide)
  induction n with
  | zero =>
    intro i tc s h k Q hi hh r hc h0 h4 hQ
    refine g.lpe b13_0.eq_1 ?_
    have c1 : ¬ ((i : Int) < (os.length : Int)) := by omega
    simp only [h0, h4, hw.len, c1, RX, VOp.fresh, bxC, bsC, un, most, callsOf, seval, Int.reducePow, ↓reduceIte, Nat.reduceEqDiff, reduceCtorEq]
    have hi' : i = os.length := by omega
    subst hi'
    rw [List.take_length] at hc
    refine hQ _ _ _ ?_ hc (fun _ _ => rfl) hh
    simp only [sg_set, Nat.reduceEqDiff, ↓reduceIte]
    exact r
  | succ n ih =>
    intro i tc s h k Q hi hh r hc h0 h4 hQ
    refine g.lpe b13_0.eq_1 ?_
    have c1 : ((i : Int) < (os.length : Int)) := by omega
    have w1 : IntKind.i64.wrap ((i : Int) + 1) = ((i + 1 : Nat) : Int) := by rw [w64 (by omega) (by omega)]; push_cast; rfl
    have hm40 : (i + 1) * 40 ≤ most2 := by have := hw.1; rw [reach_eq] at this; unfold most2; omega
    obtain ⟨ci, rr, ⟨va, rfl, i1, i2, i3⟩, hat⟩ := hw.at zFeat i (by omega)
    simp only [h0, h4, hw.len, c1, hat, RX, VOp.fresh, bxC, bsC, un, most, callsOf, seval, Int.reducePow, ↓reduceIte, Nat.reduceEqDiff, reduceCtorEq]
    refine copyFeat_cl g (f := os[i]) ⟨_, rfl, i1, i2, i3⟩ fun c1' t1 h1 lv1 is1 ln1 on1 e1 => ?_
    obtain ⟨x1, x2, x3, rfl⟩ := len3 ln1
    have on1' := on1
    simp only [List.all_cons, List.all_nil, Bool.and_true, Bool.and_eq_true] at on1'
    obtain ⟨o1, o2, o3⟩ := on1'
    have em := Ext.mk (h := h1) (.cells [x1, x2, x3] 50 0)
    have nb : (h1.mk' h1.next (.cells [x1, x2, x3] 50 0)).next = h1.next + 1 := by rw [mk_next]; omega
    have hlt := r.lt
    have e11 := e1.1
    have r2 : LR h1 (N0 ≤ ·) (sg s 3) 3 tc i := r.frame e1.1 fun b _ hb => e1.2 b hb
    have a1 : Lvs (h1.mk' h1.next (.cells [x1, x2, x3] 50 0)) (fun b => N0 ≤ b ∧ b ∉ blkOf (sg s 3)) [x1, x2, x3] t1 :=
      (lv1.frame em.1 fun b _ hb => em.2 b hb).weak fun b hb _ => ⟨by omega, fun hc => by have := hlt b hc; omega⟩
    obtain ⟨H3, p3, r3, n3, k3⟩ := (r2.frame em.1 fun b _ hb => em.2 b hb).push (nb := h1.next) (eb := 50) (vb := 0) (c := [x1, x2, x3]) (by rw [Heap.get_mk, if_pos rfl]) rfl on1 a1 (by rw [nb]; omega) (bytes := 40) hm40 50
    rw [nb] at p3 r3 n3 k3
    have hv := r2.inB
    have kk3 : ∀ b, b < N0 → H3.get b = h.get b := fun b hb => (k3 b (fun hc => by have := hv b hc; omega) (by omega)).trans ((em.2 b (by omega)).trans (e1.2 b (by omega)))
    simp only [h0, h4, o1, o2, o3, p3, w1, RW, RX, VOp.fresh, bxC, bsC, un, most, callsOf, seval, Int.reducePow, ↓reduceIte, Nat.reduceEqDiff, reduceCtorEq]
    refine ih (i + 1) (tc ++ _) _ H3 k Q (by omega) (by omega) ?_ (hc.take (by omega) is1) ?_ ?_ ?_
    · simp only [sg_set, Nat.reduceEqDiff, ↓reduceIte]
      exact r3
    · simp only [h0, sg_set, Nat.reduceEqDiff, ↓reduceIte]
    · simp only [sg_set, Nat.reduceEqDiff, ↓reduceIte]
    · intro s' h' tc' q1 q2 q3 q4
      exact hQ s' h' tc' q1 q2 (fun b hb => (q3 b hb).trans (kk3 b hb)) q4
theorem copyFeats_cl (g : Pg P tab) {os : List Feat} {w : AV} (hw : IsL 40 RFeat w os) {h : Heap} {Q : AV → Heap → Prop}
    (q : ∀ v t h', Lv h' (h.next ≤ ·) v t → IsL 40 RFeat t os → v.cells = some [v] → v.one = true → Ext h h' → Q v h') : Cl P 13 [w] h Q := by
  refine g.cl (vf := v13) rfl rfl ?_
  simp only [v13, RX, VOp.fresh, bxC, bsC, un, most, callsOf, seval, Int.reducePow, ↓reduceIte, Nat.reduceEqDiff, reduceCtorEq]
  refine cp_feats g hw (N0 := h.next) os.length 0 [] _ h _ _ (by omega) (Nat.le_refl _) ?_ .nil ?_ ?_ ?_
  · simp only [sg_set, Nat.reduceEqDiff, ↓reduceIte]
    exact .nil _ _ _
  · simp only [sg_set, Nat.reduceEqDiff, ↓reduceIte]
  · simp only [sg_set, Nat.reduceEqDiff, ↓reduceIte]
    rfl
  intro s' h' tc r hc hk hn
  simp only [RX, VOp.fresh, bxC, bsC, un, most, callsOf, seval, Int.reducePow, ↓reduceIte, Nat.reduceEqDiff, reduceCtorEq]
  exact q _ (cRow tc os.length) _ r.lv (row_isL hw.1 hc) r.cells r.one ⟨hn, hk⟩
theorem sFeats_loop (g : Pg P tab) {l : List Feat} {a b : AV} (ha : IsL 40 RFeat a l) (hb : IsL 40 RFeat b l) (n : Nat) :
    ∀ (i : Nat) (s : T AV) (hh : Heap) (k : List Fr) (Q : Ex → T AV → Heap → Prop), i + n = l.length → sg s 0 = a → sg s 1 = b → sg s 5 = .int .i64 i → (∀ s' h', Un P k Q (.exit 0) s' h') → Lp P b20_0 s hh (Un P k Q) := by
  have hbd := ha.bound (by decide)
  induction n with
  | zero =>
    intro i s hh k Q hi h0 h1 h5 hK
    refine g.lpe b20_0.eq_1 ?_
    have c1 : ¬ ((i : Int) < (l.length : Int)) := by omega
    simp only [h0, h5, ha.len, c1, RX, VOp.fresh, bxC, bsC, un, most, callsOf, seval, Int.reducePow, ↓reduceIte, Nat.reduceEqDiff, reduceCtorEq]
    exact hK _ _
  | succ n ih =>
    intro i s hh k Q hi h0 h1 h5 hK
    refine g.lpe b20_0.eq_1 ?_
    have c1 : (i : Int) < (l.length : Int) := by omega
    obtain ⟨x1, r1, i4, i2, i3, _, g1⟩ := getFeat ha i (by omega)
    obtain ⟨y1, r2, k4, k2, k3, _, g2⟩ := getFeat hb i (by omega)
    have w1 : IntKind.i64.wrap ((i : Int) + 1) = ((i + 1 : Nat) : Int) := by rw [w64 (by omega) (by omega)]; push_cast; rfl
    simp only [h0, h1, h5, ha.len, c1, g1, g2, Bool.or_self, RX, VOp.fresh, bxC, bsC, un, most, callsOf, seval, Int.reducePow, ↓reduceIte, Nat.reduceEqDiff, reduceCtorEq]
    refine (sFeat_pu g (f := l.getD i feat0) ⟨_, rfl, i2, i3, i4⟩ ⟨_, rfl, k2, k3, k4⟩).go (by simp [AV.tolds, AV.told, i4.told tRing, k4.told tRing]) ?_
    rintro v rfl
    simp only [h0, h1, h5, w1, RX, VOp.fresh, bxC, bsC, un, most, callsOf, seval, Int.reducePow, ↓reduceIte, Nat.reduceEqDiff, reduceCtorEq]
    refine ih (i + 1) _ _ k Q (by omega) ?_ ?_ ?_ hK
    · simp only [h0, sg_set, Nat.reduceEqDiff, ↓reduceIte]
    · simp only [h1, sg_set, Nat.reduceEqDiff, ↓reduceIte]
    · simp only [sg_set, Nat.reduceEqDiff, ↓reduceIte]
theorem sFeats_pu (g : Pg P tab) {l : List Feat} {a b : AV} (ha : IsL 40 RFeat a l) (hb : IsL 40 RFeat b l) : Pu P 20 [a, b] (fun v => v = .bool true) := by
  refine g.pu (vf := v20) rfl rfl ?_
  simp only [v20, ha.len, hb.len, RX, VOp.fresh, bxC, bsC, un, most, callsOf, seval, Int.reducePow, ↓reduceIte, Nat.reduceEqDiff, reduceCtorEq]
  refine sFeats_loop g ha hb l.length 0 _ _ _ _ (by omega) ?_ ?_ ?_ fun s' h' => ?_
  · simp only [sg_set, Nat.reduceEqDiff, ↓reduceIte]
  · simp only [sg_set, Nat.reduceEqDiff, ↓reduceIte]
  · simp only [sg_set, Nat.reduceEqDiff, ↓reduceIte]
    rfl
  simp only [RX, VOp.fresh, bxC, bsC, un, most, callsOf, seval, Int.reducePow, ↓reduceIte, Nat.reduceEqDiff, reduceCtorEq]
end
end Go.Proofs.Ythmkenkjfmbkiaa.VM
namespace Go.Proofs.Ythmkenkjfmbkiaa.VM
attribute [local irreducible] Af Nx EvO Ev Un Gd Cd EvR EvQ EvC Nc Gc Lp EvM NxM AfM GdM EvMR EvMQ EvMD EvMC Nm Gm
def cFeats (l : List Feat) : AV := cRow ((l.map cFeat).flatten) l.length
def featsSm (l : List Feat) : Prop := l.length ≤ 1000000 ∧ ∀ f ∈ l, featSm f
end Go.Proofs.Ythmkenkjfmbkiaa.VM
namespace Go.Proofs.Ythmkenkjfmbkiaa.VM
attribute [local irreducible] Af Nx EvO Ev Un Gd Cd EvR EvQ EvC Nc Gc Lp EvM NxM AfM GdM EvMR EvMQ EvMD EvMC Nm Gm
theorem Has.sim {h h' : Heap} {L : List (Nat × List AV)} {B : Nat → Prop} (H : Has h L) (hB : ∀ p ∈ L, ¬ B p.1) (s : Sim B h h') : Has h' L := fun p hp => ⟨Nat.lt_of_lt_of_le (H p hp).1 s.1, let ⟨e, ver, g⟩ := (H p hp).2; ⟨e, ver, ((s.2 _ (H p hp).1).1 (hB p hp)).trans g⟩⟩
section
variable {h : Heap} {B : Nat → Prop}
theorem LFeats.of {v : AV} {l : List Feat} (a : Lv h B v (cFeats l)) (hs : featsSm l) : LFeats h B v := by
  by_cases h0 : l.length = 0
  · have : l = [] := List.eq_nil_of_length_eq_zero h0
    subst this
    exact .inl a.nils_inv
  · obtain ⟨b, off, cap, rfl, hB, hb, hg⟩ := a.row_inv (z := 3) (by omega) (flat_len8 (F := cFeat) fun _ => rfl)
    refine .inr ⟨b, off, l.length, cap, rfl, hs.1, hB, hb, fun i hi => ?_⟩
    have s2 := hs.2 _ (List.getElem_mem hi)
    have get : ∀ j (y : AV), j < 3 → (cFeat l[i])[j]? = some y → ∃ a, At h b (off + i * 3 + j) a ∧ Lv h B a y := fun j y hj hy => by
      rw [Nat.add_assoc]
      exact hg (i * 3 + j) y (by rw [flat_get (F := cFeat) (z := 3) (fun _ => rfl) hi hj]; exact hy)
    obtain ⟨x0, a0, l0⟩ := get 0 _ (by decide) rfl
    rw [l0.int_inv] at a0
    obtain ⟨x2, a2, l2⟩ := get 2 _ (by decide) rfl
    exact ⟨⟨_, a0⟩, x2, a2, LRings.of l2 s2.2.2.1 s2.2.2.2⟩
end
end Go.Proofs.Ythmkenkjfmbkiaa.VM
namespace Go.Proofs.Ythmkenkjfmbkiaa.VM
open Go.RowKit
section
variable {φ φ' : Env} {w : World}
mutual
theorem VR.down (hx : ∀ b p, φ b = some p → φ' b = some p) : ∀ {x : AV} {u : Value}, x.told = true → VR φ' w x u → VR φ w x u
  | _, _, _, .undef => .undef
  | _, _, _, .bool b => .bool b
  | _, _, _, .int k n => .int k n
  | _, _, _, .str s => .str s
  | _, _, e, .ptr _ => by simp [AV.told] at e
  | _, _, _, .nilp => .nilp
  | _, _, e, .sl .. => by simp [AV.told] at e
  | _, _, e, .sl0 _ => by simp [AV.told] at e
  | _, _, _, .nils => .nils
  | _, _, e, .map _ => by simp [AV.told] at e
  | _, _, _, .nilm => .nilm
  | _, _, e, .fn hf h => .fn hf (VRs.down hx (by simpa [AV.told] using e) h)
  | _, _, _, .nilf => .nilf
  | _, _, e, .agg h => .agg (VRs.down hx (by simpa [AV.told] using e) h)
  | _, _, e, .tup h => .tup (VRs.down hx (by simpa [AV.told] using e) h)
  | _, _, e, .rs hl hB hlt h => .rs hl (fun b p hb => hB b p (hx b p hb)) hlt (VRm.down hx (by simpa [AV.told] using e) h)
  | _, _, _, .rs0 a c => .rs0 a c
  | _, _, e, .yld _ => by simp [AV.told] at e
  | _, _, e, .rp hB hlt h => .rp (fun b p hb => hB b p (hx b p hb)) hlt (VRm.down hx (by simpa [AV.told] using e) h)
theorem VRs.down (hx : ∀ b p, φ b = some p → φ' b = some p) : ∀ {x : List AV} {u : List Value}, AV.tolds x = true → VRs φ' w x u → VRs φ w x u
  | _, _, _, .nil => .nil
  | _, _, e, .cons h t => by
    simp only [AV.tolds, Bool.and_eq_true] at e
    exact .cons (VR.down hx e.1 h) (VRs.down hx e.2 t)
theorem VRm.down (hx : ∀ b p, φ b = some p → φ' b = some p) : ∀ {x : List AV} {B o : Nat}, AV.tolds x = true → VRm φ' w x B o → VRm φ w x B o
  | _, _, _, _, .nil => .nil
  | _, _, _, e, .cons hc h t => by
    simp only [AV.tolds, Bool.and_eq_true] at e
    exact .cons hc (VR.down hx e.1 h) (VRm.down hx e.2 t)
end
variable {h : Heap}
mutual
theorem Fd.vrD (hr : HR φ' w h) (hx : ∀ b p, φ b = some p → φ' b = some p) (hn : ∀ b B o, live (h.get b) = true → φ' b = some (B, o) → ∀ c p, φ c = some p → p.1 ≠ B) : ∀ {x y : AV} {D : List Nat} {u : Value}, Fd h x y D → VR φ' w x u → VR φ w y u
  | _, _, _, _, .told e, v => v.down hx e
  | _, _, _, _, .sl hl _ hg hc t, .sl hb hcap hlen hs hsz => by
    obtain ⟨B', o', e', n, q1, q2, q3, q4, q5⟩ := hr.cells hg
    rw [hb] at q1
    cases q1
    exact .rs (by omega) (hn _ _ _ (by rw [hg]; rfl) hb) (hr.lt _ _ hb) (Fds.vrmD hr hx hn t (q3.cut hc))
  | _, _, _, _, .sl hl _ _ _ _, .sl0 a => absurd hl (by omega)
  | _, _, _, _, .sl0, .sl _ _ _ _ _ => .rs0 _ _
  | _, _, _, _, .sl0, .sl0 a => .rs0 _ _
  | _, _, _, _, .ptr _ hg t, .ptr hb => by
    obtain ⟨B', o', e', n, q1, q2, q3, q4, q5⟩ := hr.cells hg
    rw [hb] at q1
    cases q1
    exact .rp (hn _ _ _ (by rw [hg]; rfl) hb) (hr.lt _ _ hb) (Fds.vrmD hr hx hn t (q3.drop _))
  | _, _, _, _, .agg t, .agg hv => .agg (Fds.vrsD hr hx hn t hv)
  | _, _, _, _, .tup t, .tup hv => .tup (Fds.vrsD hr hx hn t hv)
theorem Fds.vrsD (hr : HR φ' w h) (hx : ∀ b p, φ b = some p → φ' b = some p) (hn : ∀ b B o, live (h.get b) = true → φ' b = some (B, o) → ∀ c p, φ c = some p → p.1 ≠ B) : ∀ {x y : List AV} {D : List Nat} {u : List Value}, Fds h x y D → VRs φ' w x u → VRs φ w y u
  | _, _, _, _, .nil, .nil => .nil
  | _, _, _, _, .cons f t, .cons hv tv => .cons (Fd.vrD hr hx hn f hv) (Fds.vrsD hr hx hn t tv)
theorem Fds.vrmD (hr : HR φ' w h) (hx : ∀ b p, φ b = some p → φ' b = some p) (hn : ∀ b B o, live (h.get b) = true → φ' b = some (B, o) → ∀ c p, φ c = some p → p.1 ≠ B) : ∀ {x y : List AV} {D : List Nat} {B o : Nat}, Fds h x y D → VRm φ' w x B o → VRm φ w y B o
  | _, _, _, _, _, .nil, .nil => .nil
  | _, _, _, _, _, .cons f t, .cons hc hv tv => .cons hc (Fd.vrD hr hx hn f hv) (Fds.vrmD hr hx hn t tv)
end
end
/-- memory of which nothing is known -/
def deadT : Nat → T Blk
  | 0 => .e
  | n + 1 => (deadT n).set n .dead
theorem deadT_get (b : Nat) : ∀ n, (deadT n).get b = if b < n then some .dead else none
  | 0 => by rw [if_neg (by omega)]; rfl
  | n + 1 => by
    rw [deadT, T.get_set, deadT_get b n]
    by_cases e : b = n
    · rw [if_pos e, if_pos (by omega)]
    · rw [if_neg e]
      by_cases l : b < n
      · rw [if_pos l, if_pos (by omega)]
      · rw [if_neg l, if_neg (by omega)]
def deadH (n : Nat) : Heap := ⟨n, deadT n⟩
theorem deadH_get (n b : Nat) : (deadH n).get b = if b < n then some .dead else none := deadT_get b n
theorem deadH_not (n b : Nat) : live ((deadH n).get b) = false := by
  rw [deadH_get]
  split <;> rfl
section
variable {P : Program} {φ : Env} {w : World} {h : Heap}
theorem hr_dead (hr : HR φ w h) : HR φ w (deadH h.next) := by
  refine ⟨fun b => ?_, hr.lt, fun b b' p p' hl => ?_, fun b hb => ?_⟩
  · rw [deadH_get]
    by_cases l : b < h.next
    · rw [if_pos l]; trivial
    · rw [if_neg l]
      have := hr.blk b
      rw [hr.next b (by omega)] at this
      exact this
  · rw [deadH_not] at hl; cases hl
  · rw [deadH_get, if_neg (by have : (deadH h.next).next = h.next := rfl; omega)]
theorem OK.freeze {f : Nat} {args : List AV} {v v' : AV} {h2 : Heap} {D : List Nat} (o : OK P f args (deadH h.next) v h2) (fd : Fd h2 v v' D) : OK P f args h v' h := by
  obtain ⟨hly, he, o⟩ := o.old (.inl fun r e => by rw [deadH_get] at e; split at e <;> cases e)
  refine .inl ⟨hly, he, fun φ w us hr hus => ?_⟩
  refine Calls.mono (o φ w us (hr_dead hr) hus) ?_
  rintro e w' ⟨φ', u, rfl, hvu, hr', hu⟩
  have keep : ∀ B, B < w.heap.size → w'.heap[B]? = w.heap[B]? := fun B hB => hu.keepL B hB fun b p hl => by rw [deadH_not] at hl; cases hl
  have hU : Upd φ w φ w' := ⟨hu.os, hu.tape, hu.output, hu.size, fun _ _ e => e, fun _ _ _ e => .inl ⟨_, _, e⟩, fun B hB _ => keep B hB, hu.shape, hu.drawn⟩
  refine ⟨φ, u, rfl, fd.vrD hr' hu.ext (fun b B o hl hb c p hc e => ?_) hvu, ⟨fun b => ?_, fun b p e => Nat.lt_of_lt_of_le (hr.lt b p e) hu.size, hr.inj, hr.next⟩, UpdH.same _ _ hU keep⟩
  · rcases hu.newL b B o hl hb with ⟨b0, o0, h0, _⟩ | h0
    · rw [deadH_not] at h0; cases h0
    · have := hr.lt c p hc
      omega
  · cases hl : live (h.get b) with
    | true => exact BR.upd hr hU hl fun p hp => keep _ (hr.lt _ _ hp)
    | false =>
      have := hr.blk b
      cases hg : h.get b with
      | none => rw [hg] at this; exact this
      | some o =>
        cases o with
        | dead => trivial
        | _ => rw [hg] at hl; cases hl
/-- what a call makes, told; it may hand on what was told -/
def Ft (P : Program) (f : Nat) (args : List AV) (Q : AV → Prop) : Prop := ∀ n, Cl P f args (deadH n) fun v h' => ∃ v' D, Fd h' v v' D ∧ Q v'
theorem Ft.cl {f : Nat} {args : List AV} {h : Heap} {Q : AV → Prop} (p : Ft P f args Q) {R : AV → Heap → Prop} (k : ∀ v, Q v → R v h) : Cl P f args h R := by
  obtain ⟨v, h2, o, v', D, fd, q⟩ := p h.next
  exact ⟨v', h, o.freeze fd, k v' q⟩
theorem Ft.mono {f : Nat} {args : List AV} {Q R : AV → Prop} (p : Ft P f args Q) (k : ∀ v, Q v → R v) : Ft P f args R := fun n => (p n).mono fun v h' ⟨v', D, fd, q⟩ => ⟨v', D, fd, k v' q⟩
theorem Ft.of {f : Nat} {args : List AV} {Q : AV → Prop} (c : ∀ h, Cl P f args h fun v h' => ∃ v' D, Fd h' v v' D ∧ Q v') : Ft P f args Q := fun n => c _
end
end Go.Proofs.Ythmkenkjfmbkiaa.VM
namespace Go.Proofs.Ythmkenkjfmbkiaa.VM
section
variable {α : Type} {R : α → List AV → Prop} {z : Nat} {h h' : Heap} {v : AV} {l : List α}
/-- elements of so many cells, told -/
structure Tr (R : α → List AV → Prop) (z : Nat) : Prop where
  len : ∀ a c, R a c → c.length = z
  one : ∀ a c, R a c → c.all AV.one = true
  told : ∀ a c, R a c → AV.tolds c = true
def RowT (R : α → List AV → Prop) (z : Nat) (h : Heap) (v : AV) (l : List α) : Prop := ∃ cs, Row h v z cs l.length ∧ Cat R l cs
theorem RowT.nil (h : Heap) : RowT R z h .nils [] := ⟨[], .nil _ _, .nil⟩
theorem RowT.len (r : RowT R z h v l) (hh : Heap) : lnV hh v = .val (.int .i64 l.length) hh := let ⟨_, r, _⟩ := r; r.len hh
theorem RowT.one (r : RowT R z h v l) : v.one = true := let ⟨_, r, _⟩ := r; r.one
theorem RowT.cells (r : RowT R z h v l) : v.cells = some [v] := by
  obtain ⟨cs, ⟨rfl, _⟩ | ⟨b, e, ver, rfl, _⟩, _⟩ := r <;> rfl
theorem RowT.lt (r : RowT R z h v l) : ∀ b ∈ blkOf v, b < h.next := let ⟨_, r, _⟩ := r; r.lt
theorem RowT.frame (r : RowT R z h v l) (hn : h.next ≤ h'.next) (hg : ∀ b ∈ blkOf v, h'.get b = h.get b) : RowT R z h' v l := let ⟨cs, r, c⟩ := r; ⟨cs, r.frame hn hg, c⟩
theorem RowT.ext (r : RowT R z h v l) (x : Ext h h') : RowT R z h' v l := let ⟨cs, r, c⟩ := r; ⟨cs, r.ext x, c⟩
/-- one more, in a new block -/
theorem RowT.push (tr : Tr R z) (r : RowT R z h v l) {a : α} {c : List AV} (ha : R a c) {nb eb vb : Nat} (hg : h.get nb = some (.cells c eb vb)) {bytes : Nat} (hb : (l.length + 1) * bytes ≤ most2) (e : TypeId) :
    ∃ h', appendV h z bytes e v (.sl nb 0 1 1 z) = some (.sl h.next 0 (l.length + 1) (l.length + 1) z, h') ∧ RowT R z h' (.sl h.next 0 (l.length + 1) (l.length + 1) z) (l ++ [a]) ∧ h'.next = h.next + 1 ∧ ∀ b, b ∉ blkOf v → b ≠ h.next → h'.get b = h.get b := by
  obtain ⟨cs, r, hc⟩ := r
  obtain ⟨h', e1, r', hn, k⟩ := r.push hg (tr.len _ _ ha) (tr.one _ _ ha) hb e
  refine ⟨h', e1, ⟨cs ++ c, by rw [List.length_append, List.length_singleton]; exact r', ?_⟩, hn, k⟩
  have := hc.append (Cat.cons ha .nil)
  rwa [List.append_nil] at this
/-- told as a whole -/
theorem RowT.fd (tr : Tr R z) (r : RowT R z h v l) {b : Nat} (hb : l.length * b ≤ reachBytes) : ∃ v' D, Fd h v v' D ∧ IsL b R v' l := by
  obtain ⟨cs, r, hc⟩ := r
  obtain ⟨v', f, h1⟩ := r.fd (Fds.tolds (hc.told tr.told))
  refine ⟨v', _, f, ?_⟩
  rcases h1 with ⟨rfl, h0⟩ | rfl
  · have : l = [] := List.eq_nil_of_length_eq_zero h0
    subst this
    exact isL_nil _ _
  · exact isL_rs hc hb
end
end Go.Proofs.Ythmkenkjfmbkiaa.VM
namespace Go.Proofs.Ythmkenkjfmbkiaa.VM
attribute [local irreducible] Af Nx EvO Ev Un Gd Cd EvR EvQ EvC Nc Gc Lp EvM NxM AfM GdM EvMR EvMQ EvMD EvMC Nm Gm
/-- the stretch that has a place -/
def IxAt (l : List Int) (d : Int) (k : Nat) : Prop := k < l.length ∧ l.getD k 0 ≤ d ∧ (k + 1 < l.length → d < l.getD (k + 1) 0)
def Rise (l : List Int) : Prop := ∀ i, i + 1 < l.length → l.getD i 0 < l.getD (i + 1) 0
theorem Rise.lt {l : List Int} (h : Rise l) : ∀ {j i : Nat}, i < j → j < l.length → l.getD i 0 < l.getD j 0
  | 0, i, h1, _ => by omega
  | j + 1, i, h1, h2 => by
    have h3 := h j h2
    rcases Nat.lt_or_ge i j with h4 | h4
    · exact Int.lt_trans (Rise.lt h h4 (by omega)) h3
    · rw [show i = j by omega]; exact h3
theorem IxAt.uniq {l : List Int} {d : Int} {a b : Nat} (h : Rise l) (x : IxAt l d a) (y : IxAt l d b) : a = b := by
  obtain ⟨x1, x2, x3⟩ := x
  obtain ⟨y1, y2, y3⟩ := y
  rcases Nat.lt_trichotomy a b with c | c | c
  · have h1 := x3 (by omega)
    rcases Nat.lt_or_ge (a + 1) b with e | e
    · have := h.lt e y1; omega
    · have : a + 1 = b := by omega
      rw [this] at h1; omega
  · exact c
  · have h1 := y3 (by omega)
    rcases Nat.lt_or_ge (b + 1) a with e | e
    · have := h.lt e x1; omega
    · have : b + 1 = a := by omega
      rw [this] at h1; omega
section
variable {P : Program}
theorem nan121 (g : Pg P tab) (a : Int) : Pu P 121 [.int .i64 a] (fun v => v = .bool false) := by
  refine g.pu (vf := v121) rfl rfl ?_
  simp only [v121, RX, VOp.fresh, bxC, bsC, un, most, callsOf, seval, Int.reducePow, ↓reduceIte, Nat.reduceEqDiff, reduceCtorEq]
theorem nan102 (g : Pg P tab) (a : Int) : Pu P 102 [.int .i64 a] (fun v => v = .bool false) := by
  refine g.pu (vf := v102) rfl rfl ?_
  simp only [v102, RX, VOp.fresh, bxC, bsC, un, most, callsOf, seval, Int.reducePow, ↓reduceIte, Nat.reduceEqDiff, reduceCtorEq]
theorem less_pu (g : Pg P tab) (a b : Int) : Pu P 101 [.int .i64 a, .int .i64 b] (fun v => v = .bool (decide (a < b))) := by
  refine g.pu (vf := v101) rfl rfl ?_
  simp only [v101, RX, VOp.fresh, bxC, bsC, un, most, callsOf, seval, Int.reducePow, ↓reduceIte, Nat.reduceEqDiff, reduceCtorEq]
  refine (nan121 g _).go rfl ?_
  rintro v rfl
  simp only [RX, VOp.fresh, bxC, bsC, un, most, callsOf, seval, Int.reducePow, ↓reduceIte, Nat.reduceEqDiff, reduceCtorEq]
theorem bs_loop (g : Pg P tab) {l : List Int} {w : AV} (hw : IsL 8 RInt w l) (hr : Rise l) {d : Int} (n : Nat) : ∀ (i j : Nat) (s : T AV) (h : Heap) (k : List Fr) (Q : Ex → T AV → Heap → Prop), j ≤ i + n → i ≤ j → j ≤ l.length → (∀ a, a < i → l.getD a 0 < d) → (∀ a, j ≤ a → a < l.length → d ≤ l.getD a 0) →
    sg s 0 = w → sg s 1 = .int .i64 d → sg s 6 = .int .i64 l.length → sg s 7 = .int .i64 i → sg s 8 = .int .i64 j →
    (∀ s' m, m ≤ l.length → (∀ a, a < m → l.getD a 0 < d) → (∀ a, m ≤ a → a < l.length → d ≤ l.getD a 0) → sg s' 0 = w → sg s' 1 = .int .i64 d → sg s' 6 = .int .i64 l.length → sg s' 7 = .int .i64 m → Un P k Q (.exit 0) s' h) → Lp P b82_0 s h (Un P k Q) := by
  have hbd := hw.bound (by decide)
  induction n with
  | zero =>
    intro i j s h k Q hn hij hj hlo hhi t0 t1 t6 t7 t8 hQ
    refine g.lpe b82_0.eq_1 ?_
    obtain rfl : i = j := by omega
    have c1 : ¬ (i : Int) < (i : Int) := by omega
    simp only [t7, t8, c1, RX, VOp.fresh, bxC, bsC, un, most, callsOf, seval, Int.reducePow, ↓reduceIte, Nat.reduceEqDiff, reduceCtorEq]
    refine hQ _ i hj hlo hhi ?_ ?_ ?_ ?_
    · simp only [t0, sg_set, Nat.reduceEqDiff, ↓reduceIte]
    · simp only [t1, sg_set, Nat.reduceEqDiff, ↓reduceIte]
    · simp only [t6, sg_set, Nat.reduceEqDiff, ↓reduceIte]
    · simp only [t7, sg_set, Nat.reduceEqDiff, ↓reduceIte]
  | succ n ih =>
    intro i j s h k Q hn hij hj hlo hhi t0 t1 t6 t7 t8 hQ
    by_cases hlt : i < j
    · refine g.lpe b82_0.eq_1 ?_
      have c1 : (i : Int) < (j : Int) := by omega
      obtain ⟨m, hm⟩ : ∃ m : Nat, m = (i + j) / 2 := ⟨_, rfl⟩
      have w1 : IntKind.i64.wrap ((i : Int) + (j : Int)) = ((i + j : Nat) : Int) := by rw [w64 (by omega) (by omega)]; push_cast; rfl
      have w2 : IntKind.u64.wrap ((i + j : Nat) : Int) = ((i + j : Nat) : Int) := wu64 (by omega) (by omega)
      have w3 : ((i + j : Nat) : Int) / 2 = (m : Int) := by omega
      have w4 : IntKind.i64.wrap (m : Int) = (m : Int) := w64 (by omega) (by omega)
      have w5 : IntKind.i64.wrap ((m : Int) + 1) = ((m + 1 : Nat) : Int) := by rw [w64 (by omega) (by omega)]; push_cast; rfl
      obtain ⟨r, ht, hia⟩ := getInt hw m (by omega)
      simp only [t0, t1, t7, t8, c1, w1, w2, w3, w4, hia, RX, VOp.fresh, bxC, bsC, un, most, callsOf, seval, Int.reducePow, ↓reduceIte, Nat.reduceEqDiff, reduceCtorEq]
      refine (less_pu g _ _).go rfl ?_
      rintro v rfl
      by_cases hc : l.getD m 0 < d
      · simp only [hc, w5, RX, VOp.fresh, bxC, bsC, un, most, callsOf, seval, Int.reducePow, ↓reduceIte, Nat.reduceEqDiff, reduceCtorEq]
        refine ih (m + 1) j _ h k Q (by omega) (by omega) hj (fun a ha => ?_) hhi ?_ ?_ ?_ ?_ ?_ hQ
        · rcases Nat.lt_or_ge a m with e | e
          · exact Int.lt_trans (hr.lt e (by omega)) hc
          · rw [show a = m by omega]; exact hc
        · simp only [t0, sg_set, Nat.reduceEqDiff, ↓reduceIte]
        · simp only [t1, sg_set, Nat.reduceEqDiff, ↓reduceIte]
        · simp only [t6, sg_set, Nat.reduceEqDiff, ↓reduceIte]
        · simp only [sg_set, Nat.reduceEqDiff, ↓reduceIte]
        · simp only [t8, sg_set, Nat.reduceEqDiff, ↓reduceIte]
      · simp only [hc, RX, VOp.fresh, bxC, bsC, un, most, callsOf, seval, Int.reducePow, ↓reduceIte, Nat.reduceEqDiff, reduceCtorEq]
        refine ih i m _ h k Q (by omega) (by omega) (by omega) hlo (fun a ha hb => ?_) ?_ ?_ ?_ ?_ ?_ hQ
        · rcases Nat.lt_or_ge m a with e | e
          · have := hr.lt e hb; omega
          · rw [show a = m by omega]; omega
        · simp only [t0, sg_set, Nat.reduceEqDiff, ↓reduceIte]
        · simp only [t1, sg_set, Nat.reduceEqDiff, ↓reduceIte]
        · simp only [t6, sg_set, Nat.reduceEqDiff, ↓reduceIte]
        · simp only [t7, sg_set, Nat.reduceEqDiff, ↓reduceIte]
        · simp only [sg_set, Nat.reduceEqDiff, ↓reduceIte]
    · refine g.lpe b82_0.eq_1 ?_
      obtain rfl : i = j := by omega
      have c1 : ¬ (i : Int) < (i : Int) := by omega
      simp only [t7, t8, c1, RX, VOp.fresh, bxC, bsC, un, most, callsOf, seval, Int.reducePow, ↓reduceIte, Nat.reduceEqDiff, reduceCtorEq]
      refine hQ _ i hj hlo hhi ?_ ?_ ?_ ?_
      · simp only [t0, sg_set, Nat.reduceEqDiff, ↓reduceIte]
      · simp only [t1, sg_set, Nat.reduceEqDiff, ↓reduceIte]
      · simp only [t6, sg_set, Nat.reduceEqDiff, ↓reduceIte]
      · simp only [t7, sg_set, Nat.reduceEqDiff, ↓reduceIte]
theorem bs_pu (g : Pg P tab) {l : List Int} {w : AV} (hw : IsL 8 RInt w l) (hr : Rise l) (d : Int) : Pu P 82 [w, .int .i64 d] (fun v => ∃ (m : Nat) (f : Bool), v = .tup [.int .i64 m, .bool f] ∧ m ≤ l.length ∧ (∀ a, a < m → l.getD a 0 < d) ∧ (∀ a, m ≤ a → a < l.length → d ≤ l.getD a 0) ∧ (f = true ↔ m < l.length ∧ l.getD m 0 = d)) := by
  refine g.pu (vf := v82) rfl rfl ?_
  simp only [v82, hw.len, RX, VOp.fresh, bxC, bsC, un, most, callsOf, seval, Int.reducePow, ↓reduceIte, Nat.reduceEqDiff, reduceCtorEq]
  refine bs_loop g hw hr (d := d) l.length 0 l.length _ _ _ _ (by omega) (by omega) (Nat.le_refl _) (fun a ha => by omega) (fun a h1 h2 => by omega) ?_ ?_ ?_ ?_ ?_ ?_
  · simp only [sg_set, Nat.reduceEqDiff, ↓reduceIte]
  · simp only [sg_set, Nat.reduceEqDiff, ↓reduceIte]
  · simp only [sg_set, Nat.reduceEqDiff, ↓reduceIte]
  · simp only [sg_set, Nat.reduceEqDiff, ↓reduceIte]
    rfl
  · simp only [sg_set, Nat.reduceEqDiff, ↓reduceIte]
  intro s' m hm hlo hhi t0 t1 t6 t7
  have told : ∀ (m : Nat) (f : Bool) (hh : Heap) {R : AV → Prop}, R (.tup [.int .i64 m, .bool f]) → Tl hh (.tup [.int .i64 m, .bool f]) R := fun m f hh R r => ⟨_, .tup (.cons (.int _ _) (.cons (.bool _) .nil)), r⟩
  by_cases hml : m < l.length
  · have c1 : (m : Int) < (l.length : Int) := by omega
    obtain ⟨r, ht, hia⟩ := getInt hw m hml
    by_cases he : l.getD m 0 = d
    · simp only [t0, t1, t6, t7, c1, hia, he, RX, VOp.fresh, bxC, bsC, un, most, callsOf, seval, Int.reducePow, ↓reduceIte, Nat.reduceEqDiff, reduceCtorEq]
      exact told m true _ ⟨m, true, rfl, hm, hlo, hhi, ⟨fun _ => ⟨hml, he⟩, fun _ => rfl⟩⟩
    · simp only [t0, t1, t6, t7, c1, hia, he, RX, VOp.fresh, bxC, bsC, un, most, callsOf, seval, Int.reducePow, ↓reduceIte, Nat.reduceEqDiff, reduceCtorEq]
      refine (nan102 g _).go rfl ?_
      rintro v rfl
      simp only [RX, VOp.fresh, bxC, bsC, un, most, callsOf, seval, Int.reducePow, ↓reduceIte, Nat.reduceEqDiff, reduceCtorEq]
      exact told m false _ ⟨m, false, rfl, hm, hlo, hhi, ⟨fun c => (by cases c), fun c => absurd c.2 he⟩⟩
  · have c1 : ¬ (m : Int) < (l.length : Int) := by omega
    simp only [t0, t1, t6, t7, c1, RX, VOp.fresh, bxC, bsC, un, most, callsOf, seval, Int.reducePow, ↓reduceIte, Nat.reduceEqDiff, reduceCtorEq]
    exact told m false _ ⟨m, false, rfl, hm, hlo, hhi, ⟨fun c => (by cases c), fun c => absurd c.1 hml⟩⟩
theorem Cl.exact {f : Nat} {args : List AV} {h h2 : Heap} {a : AV} (c : Cl P f args h fun v h' => v = a ∧ h' = h2) : OK P f args h a h2 := by
  obtain ⟨v, h', o, rfl, rfl⟩ := c
  exact o
theorem at_ok (g : Pg P tab) {l : List Int} {w ep u : AV} (hw : IsL 8 RInt w l) (hr : Rise l) {d : Int} {k : Nat} (hk : IxAt l d k) {h : Heap} {b e ver : Nat} (hg : h.get b = some (.cells [ep, w, u] e ver)) : OK P 58 [.ptr b 0, .int .i64 d] h (.int .i64 k) h := by
  have hbd := hw.bound (by decide)
  refine Cl.exact ?_
  refine g.cl (vf := v58) rfl rfl ?_
  simp only [v58, hg, RX, VOp.fresh, bxC, bsC, un, most, callsOf, seval, Int.reducePow, ↓reduceIte, Nat.reduceEqDiff, reduceCtorEq]
  refine (bs_pu g hw hr d).go (by simp [AV.tolds, AV.told, hw.told tInt]) ?_
  rintro v ⟨m, f, rfl, hm, hlo, hhi, hf⟩
  obtain ⟨k1, k2, k3⟩ := hk
  cases f with
  | true =>
    obtain ⟨f1, f2⟩ := hf.1 rfl
    have : m = k := IxAt.uniq hr (d := d) ⟨f1, by omega, fun h => by have := hr m h; omega⟩ ⟨k1, k2, k3⟩
    subst this
    simp only [RX, VOp.fresh, bxC, bsC, un, most, callsOf, seval, Int.reducePow, ↓reduceIte, Nat.reduceEqDiff, reduceCtorEq]
  | false =>
    have hkm : k < m := by
      rcases Nat.lt_or_ge k m with e | e
      · exact e
      · exfalso
        have h1 := hhi k e k1
        have h2 : l.getD k 0 = d := by omega
        rcases Nat.lt_or_ge m k with e2 | e2
        · have := hhi m (Nat.le_refl _) (by omega)
          have := hr.lt e2 k1
          omega
        · have : m = k := by omega
          subst this
          have := hf.2 ⟨k1, h2⟩
          cases this
    have hmk : m = k + 1 := by
      rcases Nat.lt_or_ge (k + 1) m with e | e
      · have := hlo (k + 1) e
        have := k3 (by omega)
        omega
      · omega
    have w1 : IntKind.i64.wrap ((m : Int) - 1) = (k : Int) := by rw [w64 (by omega) (by omega)]; omega
    simp only [w1, RX, VOp.fresh, bxC, bsC, un, most, callsOf, seval, Int.reducePow, ↓reduceIte, Nat.reduceEqDiff, reduceCtorEq]
theorem ixAt_ex {l : List Int} (hr : Rise l) {d : Int} (h0 : 0 < l.length) (h1 : l.getD 0 0 ≤ d) : ∃ k, IxAt l d k := by
  have go : ∀ n i, i + n = l.length → i < l.length → l.getD i 0 ≤ d → ∃ k, IxAt l d k := by
    intro n
    induction n with
    | zero => intro i hi hl; omega
    | succ n ih =>
      intro i hi hl hd
      by_cases hc : i + 1 < l.length ∧ l.getD (i + 1) 0 ≤ d
      · exact ih (i + 1) (by omega) hc.1 hc.2
      · exact ⟨i, hl, hd, fun h => by
          rcases Int.lt_or_le d (l.getD (i + 1) 0) with e | e
          · exact e
          · exact absurd ⟨h, e⟩ hc⟩
  exact go l.length 0 (by omega) h0 h1
theorem mpOk.rise {nodes : Int} {m : Mp} (h : mpOk nodes m) : Rise m.starts := fun i hi => by
  have := h.2.2.2.2.2.2.2.2 (i + 1) hi
  unfold mpAt at this
  rcases this.2.1 with h | h
  · omega
  · exact h
end
end Go.Proofs.Ythmkenkjfmbkiaa.VM
namespace Go.Proofs.Ythmkenkjfmbkiaa.VM
attribute [local irreducible] Af Nx EvO Ev Un Gd Cd EvR EvQ EvC Nc Gc Lp EvM NxM AfM GdM EvMR EvMQ EvMD EvMC Nm Gm
abbrev ic (l : List Int) : List AV := l.map (.int .i64)
theorem ic_len (l : List Int) : (ic l).length = l.length := List.length_map _
theorem ic_one (l : List Int) : (ic l).all AV.one = true := by simp [ic, AV.one]
section
variable {P : Program}
theorem cat_int {l : List Int} {c : List AV} (h : Cat RInt l c) : c = ic l := by
  induction h with
  | nil => rfl
  | cons h t ih => rw [h.1, ih]; rfl
/-- a row of numbers, told, as cells -/
theorem isL_cells {l : List Int} {w : AV} (hw : IsL 8 RInt w l) (hh : Heap) : lenV w = some l.length ∧ cellsOf hh 1 l.length w = some (ic l) := by
  rcases hw.2 with ⟨rfl, rfl⟩ | ⟨c, rfl, hc⟩
  · exact ⟨rfl, rfl⟩
  · refine ⟨rfl, ?_⟩
    rw [cat_int hc]
    simp only [cellsOf, Nat.mul_one]
    rw [cut_eq, List.drop_zero, List.take_of_length_le (by rw [ic_len]; exact Nat.le_refl _), if_pos (ic_len l)]
theorem clone_cl (g : Pg P tab) {l : List Int} {w : AV} (hw : IsL 8 RInt w l) (h0 : 0 < l.length) {h : Heap} {Q : AV → Heap → Prop} (q : ∀ h' b, h.next ≤ b → b < h'.next → (∃ e ver, h'.get b = some (.cells (ic l) e ver)) → Ext h h' → Q (.sl b 0 l.length l.length 1) h') : Cl P 83 [w] h Q := by
  refine g.cl (vf := v83) rfl rfl ?_
  have hne : eqv .sl w .nils = some false := by
    rcases hw.2 with ⟨rfl, rfl⟩ | ⟨c, rfl, hc⟩
    · simp at h0
    · rfl
  have x1 := Ext.mk (h := h) (.cells [] 3 0)
  have n1 : (h.mk' h.next (.cells [] 3 0)).next = h.next + 1 := by rw [mk_next]; omega
  obtain ⟨hl, hc⟩ := isL_cells hw (h.mk' h.next (.cells [] 3 0))
  have hm : l.length * 8 ≤ most2 := by have := hw.1; rw [reach_eq] at this; unfold most2; omega
  have hm0 : ¬ l.length ≤ 0 := by omega
  have hold : cellsOf (h.mk' h.next (.cells [] 3 0)) 1 0 (.sl h.next 0 0 0 1) = some [] := cells_of (by rw [Heap.get_mk, if_pos rfl]) rfl 0
  have ha : appendV (h.mk' h.next (.cells [] 3 0)) 1 8 3 (.sl h.next 0 0 0 1) w = some (.sl (h.next + 1) 0 l.length l.length 1, ((h.mk' h.next (.cells [] 3 0)).put h.next .dead).mk' (h.next + 1) (.cells (ic l) 3 0)) := by
    have o1 := ic_one l
    have il := ic_len l
    simp only [appendV, hl, hc, il, Nat.mul_one, o1, and_self, if_true, Nat.beq_refl, cond_true, hm0, if_false, hm, hold, n1, Nat.zero_add, List.nil_append]
  simp only [v83, HE, hne, ha, RX, VOp.fresh, bxC, bsC, un, most, callsOf, seval, Int.reducePow, ↓reduceIte, Nat.reduceEqDiff, reduceCtorEq]
  refine q _ _ (Nat.le_succ _) ?_ ⟨3, 0, ?_⟩ ⟨?_, fun b hb => ?_⟩
  · rw [mk_next, put_next, n1]; omega
  · rw [Heap.get_mk, if_pos rfl]
  · rw [mk_next, put_next, n1]; omega
  · rw [Heap.get_mk, if_neg (by omega), Heap.get_put, if_neg (by omega)]; exact x1.2 b hb
/-- a map of one's own -/
structure OMap (h : Heap) (N : Nat) (m : Mp) (sv ov : AV) : Prop where
  s : ∃ b e ver, sv = .sl b 0 m.starts.length m.starts.length 1 ∧ N ≤ b ∧ b < h.next ∧ h.get b = some (.cells (ic m.starts) e ver)
  o : ∃ b e ver, ov = .sl b 0 m.owners.length m.owners.length 1 ∧ N ≤ b ∧ b < h.next ∧ h.get b = some (.cells (ic m.owners) e ver)
  ne : blkOf sv ≠ blkOf ov
theorem mapCopy_cl (g : Pg P tab) {m : Mp} {v u : AV} (hv : IsL 8 RInt v m.starts) (hu : IsL 8 RInt u m.owners) (h0 : 0 < m.starts.length) (h1 : 0 < m.owners.length) {h : Heap} {Q : AV → Heap → Prop} (q : ∀ h' sv ov, OMap h' h.next m sv ov → Ext h h' → Q (.agg [.int .i64 m.epoch, sv, ov]) h') : Cl P 59 [.agg [.int .i64 m.epoch, v, u]] h Q := by
  refine g.cl (vf := v59) rfl rfl ?_
  have ov := isL_one hv
  have ou := isL_one hu
  simp only [v59, RX, VOp.fresh, bxC, bsC, un, most, callsOf, seval, Int.reducePow, ↓reduceIte, Nat.reduceEqDiff, reduceCtorEq]
  obtain ⟨_, h2, ok1, b1, rfl, p1, p2, ⟨e1, ver1, p3⟩, x1⟩ := clone_cl g hv h0 (h := (h.mk' h.next (.cells [.int .i64 m.epoch, v, u] 24 0)).mk' (h.next + 1) (.cells [.int .i64 0, .nils, .nils] 24 0)) (Q := fun v h' => ∃ b, v = .sl b 0 m.starts.length m.starts.length 1 ∧ _ ≤ b ∧ b < h'.next ∧ (∃ e ver, h'.get b = some (.cells (ic m.starts) e ver)) ∧ Ext _ h') (fun h' b a c d e => ⟨b, rfl, a, c, d, e⟩)
  obtain ⟨_, h3, ok2, b2, rfl, r1, r2, ⟨e2, ver2, r3⟩, x2⟩ := clone_cl g hu h1 (h := h2) (Q := fun v h' => ∃ b, v = .sl b 0 m.owners.length m.owners.length 1 ∧ _ ≤ b ∧ b < h'.next ∧ (∃ e ver, h'.get b = some (.cells (ic m.owners) e ver)) ∧ Ext _ h') (fun h' b a c d e => ⟨b, rfl, a, c, d, e⟩)
  have nH : ((h.mk' h.next (.cells [.int .i64 m.epoch, v, u] 24 0)).mk' (h.next + 1) (.cells [.int .i64 0, .nils, .nils] 24 0)).next = h.next + 2 := by rw [mk_next, mk_next]; omega
  rw [nH] at p1
  have x1n := x1.1
  rw [nH] at x1n
  have x2n := x2.1
  have n2 : ¬ h2.next = h.next + 2 := by omega
  have g0 : h2.get h.next = some (.cells [.int .i64 m.epoch, v, u] 24 0) := (x1.2 _ (by omega)).trans (by rw [Heap.get_mk, if_neg (by omega), Heap.get_mk, if_pos rfl])
  have g1 : h2.get (h.next + 1) = some (.cells [.int .i64 0, .nils, .nils] 24 0) := (x1.2 _ (by omega)).trans (by rw [Heap.get_mk, if_pos rfl])
  have g03 := (x2.2 h.next (by omega)).trans g0
  have g13 := (x2.2 (h.next + 1) (by omega)).trans g1
  have k3 : ∀ b, b < h.next → h3.get b = h.get b := fun b hb => by rw [x2.2 b (by omega), x1.2 b (by omega), Heap.get_mk, if_neg (by omega), Heap.get_mk, if_neg (by omega)]
  have pb1 := (x2.2 b1 (by omega)).trans p3
  refine EvD.lk (fun _ _ hh => if hh.next = h.next + 2 then (.sl b1 0 m.starts.length m.starts.length 1, h2) else (.sl b2 0 m.owners.length m.owners.length 1, h3)) ?_
  simp only [nH, n2, ok1, ok2, g0, g1, g03, g13, HN, RW, RX, VOp.fresh, bxC, bsC, un, most, callsOf, seval, Int.reducePow, ↓reduceIte, Nat.reduceEqDiff, reduceCtorEq]
  refine ⟨⟨⟨?_, trivial⟩, trivial⟩, ?_⟩
  · show Lk _ _ _ _
    simp only [Lk, wanted, HN, RX, VOp.fresh, bxC, bsC, un, most, callsOf, seval, Int.reducePow, ↓reduceIte, Nat.reduceEqDiff, reduceCtorEq]
  refine q _ _ _ ⟨⟨b1, e1, ver1, rfl, by omega, by rw [put_next, put_next, put_next]; omega, ?_⟩, ⟨b2, e2, ver2, rfl, by omega, by rw [put_next, put_next, put_next]; omega, ?_⟩, ?_⟩ ⟨by rw [put_next, put_next, put_next]; omega, fun b hb => ?_⟩
  · rw [Heap.get_put, if_neg (by omega), Heap.get_put, if_neg (by omega), Heap.get_put, if_neg (by omega)]; exact pb1
  · rw [Heap.get_put, if_neg (by omega), Heap.get_put, if_neg (by omega), Heap.get_put, if_neg (by omega)]; exact r3
  · simp only [blkOf, ne_eq, List.cons.injEq, and_true]; omega
  · rw [Heap.get_put, if_neg (by omega), Heap.get_put, if_neg (by omega), Heap.get_put, if_neg (by omega)]; exact k3 b hb
/-- a part of a row goes to the front -/
theorem del_cells {A B C z y : List AV} (hb : B.length = y.length) : (((A ++ B ++ C ++ z).take A.length ++ C ++ (A ++ B ++ C ++ z).drop (A.length + C.length)).take (A.length + C.length) ++ y ++ ((A ++ B ++ C ++ z).take A.length ++ C ++ (A ++ B ++ C ++ z).drop (A.length + C.length)).drop (A.length + C.length + y.length)) = A ++ C ++ (y ++ z) := by
  have e1 : (A ++ B ++ C ++ z).take A.length = A := by rw [List.append_assoc, List.append_assoc, List.take_left' rfl]
  rw [e1]
  have e2 : (A ++ C ++ (A ++ B ++ C ++ z).drop (A.length + C.length)).take (A.length + C.length) = A ++ C := List.take_left' (by rw [List.length_append])
  rw [e2]
  have e3 : (A ++ C ++ (A ++ B ++ C ++ z).drop (A.length + C.length)).drop (A.length + C.length + y.length) = z := by
    rw [← List.drop_drop, List.drop_left' (by rw [List.length_append]), List.drop_drop, show A.length + C.length + y.length = (A ++ B ++ C).length by simp only [List.length_append]; omega, List.drop_left' rfl]
  rw [e3, List.append_assoc]
theorem delI_cl (g : Pg P tab) {h : Heap} {b e ver : Nat} {l : List Int} {i : Nat} (hi : i < l.length) (hx : l.length ≤ 1000) (hb : b < h.next) (hg : h.get b = some (.cells (ic l) e ver)) {Q : AV → Heap → Prop}
    (q : ∀ h' ver', h'.next = h.next → (∀ c, c ≠ b → h'.get c = h.get c) → h'.get b = some (.cells (ic (l.eraseIdx i) ++ [AV.int .i64 0]) e ver') → Q (.sl b 0 (l.length - 1) l.length 1) h') : Cl P 61 [.sl b 0 l.length l.length 1, .int .i64 i, .int .i64 ((i + 1 : Nat) : Int)] h Q := by
  refine g.cl (vf := v61) rfl rfl ?_
  obtain ⟨n, hn⟩ : ∃ n, n = l.length := ⟨_, rfl⟩
  have s1 := slV3 (b := b) (off := 0) (len := l.length) (cap := l.length) (sz := 1) (k1 := .i64) (k2 := .i64) (k3 := .i64) (show i ≤ i + 1 by omega) (show i + 1 ≤ l.length by omega) (Nat.le_refl _)
  have s2 := slVhi (b := b) (off := 0) (len := l.length) (cap := l.length) (sz := 1) (k2 := .i64) (hi := i) (by omega)
  have s3 := slVlo (b := b) (off := 0) (len := l.length) (cap := l.length) (sz := 1) (k1 := .i64) (lo := i + 1) (by omega)
  have s4 := slV2 (b := b) (off := 0) (len := l.length - 1) (cap := l.length) (sz := 1) (k1 := .i64) (k2 := .i64) (lo := l.length - 1) (hi := l.length) (by omega) (by omega)
  have n1 : ¬ ((i : Int) = ((i + 1 : Nat) : Int)) := by omega
  obtain ⟨A, x, C, hl, hA⟩ : ∃ A x C, l = A ++ x :: C ∧ A.length = i := ⟨l.take i, l[i], l.drop (i + 1), by rw [List.getElem_cons_drop, List.take_append_drop], by rw [List.length_take]; omega⟩
  have er : l.eraseIdx i = A ++ C := by rw [hl, ← hA, List.eraseIdx_append_of_length_le (Nat.le_refl _)]; simp
  have eR : ic l = ic A ++ [AV.int .i64 x] ++ ic C ++ [] := by rw [hl]; simp
  have lA := ic_len A
  have lC := ic_len C
  have ll : l.length = A.length + C.length + 1 := by rw [hl]; simp; omega
  have oC := ic_one C
  rw [eR] at hg
  have hc : cellsOf h 1 (l.length - (i + 1)) (.sl b (i + 1) (l.length - (i + 1)) (l.length - (i + 1)) 1) = some (ic C) := by
    have h1 := cells_part (sz := 1) (lo := i + 1) (k := l.length - (i + 1)) (cap := l.length - (i + 1)) hg (by simp only [List.length_append, lA, lC, List.length_singleton, List.length_nil]; omega)
    simp only [Nat.mul_one] at h1
    rw [h1, List.append_nil, List.drop_left' (by rw [List.length_append, lA, List.length_singleton]; omega), List.take_of_length_le (by omega)]
  have hw : writeAt h b i (ic C) = some (h.put b (.cells ((ic A ++ [AV.int .i64 x] ++ ic C ++ []).take (ic A).length ++ ic C ++ (ic A ++ [AV.int .i64 x] ++ ic C ++ []).drop ((ic A).length + (ic C).length)) e (ver + 1))) := by
    rw [writeAt_go, hg, wrB_some, if_pos ⟨by simp only [List.length_append, lA, lC, List.length_singleton, List.length_nil]; omega, oC⟩, show i = (ic A).length by omega]
  have ha : appendV h 1 8 3 (.sl b 0 i l.length 1) (.sl b (i + 1) (l.length - (i + 1)) (l.length - (i + 1)) 1) = some (.sl b 0 (l.length - 1) l.length 1, h.put b (.cells ((ic A ++ [AV.int .i64 x] ++ ic C ++ []).take (ic A).length ++ ic C ++ (ic A ++ [AV.int .i64 x] ++ ic C ++ []).drop ((ic A).length + (ic C).length)) e (ver + 1))) := by
    have e1 : (ic C).length = l.length - (i + 1) := by omega
    have e2 : l.length - 1 ≤ l.length := by omega
    have e3 : i + (l.length - (i + 1)) = l.length - 1 := by omega
    simp only [appendV, lenV, hc, e1, oC, Nat.mul_one, and_self, if_true, Nat.beq_refl, cond_true, Nat.zero_add, hw, e3, e2]
  have hw2 : writeAt (h.put b (.cells ((ic A ++ [AV.int .i64 x] ++ ic C ++ []).take (ic A).length ++ ic C ++ (ic A ++ [AV.int .i64 x] ++ ic C ++ []).drop ((ic A).length + (ic C).length)) e (ver + 1))) b (l.length - 1) [AV.int .i64 0] = some ((h.put b (.cells ((ic A ++ [AV.int .i64 x] ++ ic C ++ []).take (ic A).length ++ ic C ++ (ic A ++ [AV.int .i64 x] ++ ic C ++ []).drop ((ic A).length + (ic C).length)) e (ver + 1))).put b (.cells (ic A ++ ic C ++ ([AV.int .i64 0] ++ [])) e (ver + 1 + 1))) := by
    rw [writeAt_go, Heap.get_put, if_pos rfl, wrB_some, if_pos ⟨by simp only [List.length_append, List.length_take, List.length_drop, lA, lC, List.length_singleton, List.length_nil]; omega, by rfl⟩, show l.length - 1 = (ic A).length + (ic C).length by omega, del_cells (A := ic A) (B := [AV.int .i64 x]) (C := ic C) (z := []) (y := [AV.int .i64 0]) rfl]
  have hcl : l.length - (l.length - 1) = 1 := by omega
  simp only [Nat.zero_add, Nat.mul_one] at s1 s2 s3 s4
  rw [hcl] at s4
  have hcs := clS_go (z := [AV.int .i64 0]) (b := b) (off := l.length - 1) (len := 1) (cap := l.length - (l.length - 1)) (sz := 1) (by decide) ((by rw [List.replicate_one, List.flatten_singleton]; exact hw2 : writeAt _ b (l.length - 1) (List.replicate 1 [AV.int .i64 0]).flatten = _))
  rw [hcl] at hcs
  simp only [v61, s1, s2, s3, s4, n1, ha, vop_clearS, hcs, RX, VOp.fresh, bxC, bsC, un, most, callsOf, seval, Int.reducePow, ↓reduceIte, Nat.reduceEqDiff, reduceCtorEq]
  refine q _ (ver + 1 + 1) rfl (fun c hc => by rw [Heap.get_put, if_neg hc, Heap.get_put, if_neg hc]) ?_
  rw [Heap.get_put, if_pos rfl, er]
  simp
end
end Go.Proofs.Ythmkenkjfmbkiaa.VM
namespace Go.Proofs.Ythmkenkjfmbkiaa.VM
attribute [local irreducible] Af Nx EvO Ev Un Gd Cd EvR EvQ EvC Nc Gc Lp EvM NxM AfM GdM EvMR EvMQ EvMD EvMC Nm Gm
def ins (l : List Int) (i : Nat) (x : Int) : List Int := l.take i ++ x :: l.drop i
theorem ins_len {l : List Int} {i : Nat} (h : i ≤ l.length) (x : Int) : (ins l i x).length = l.length + 1 := by
  simp [ins]; omega
theorem ins_ic {l : List Int} {i : Nat} {x : Int} : (ic l).take i ++ .int .i64 x :: (ic l).drop i = ic (ins l i x) := by
  simp [ins, ic]
/-- what a change makes, at the stretch i -/
def chgR (m : Mp) (k a t : Int) (i : Nat) : Mp :=
  if k = 0 then ⟨m.epoch + 1, ins m.starts (i + 1) a, ins m.owners (i + 1) (m.owners.getD i 0)⟩
  else if k = 1 then ⟨m.epoch + 1, m.starts, m.owners.set i t⟩
  else ⟨m.epoch + 1, m.starts.eraseIdx (i + 1), m.owners.eraseIdx (i + 1)⟩
/-- what slices.Insert does -/
def InsOk (P : Program) : Prop := ∀ {H : Heap} {b n cap i vb e e2 ver ver2 : Nat} {cs : List AV} {x : AV}, H.get b = some (.cells cs e ver) → cs.length = n → cs.all AV.one = true → x.one = true → i ≤ n → H.get vb = some (.cells [x] e2 ver2) → vb ≠ b → n < 1000000 →
  OK P 60 [.sl b 0 n cap 1, .int .i64 i, .sl vb 0 1 1 1] H (.sl H.next 0 (n + 1) (n + 1) 1) ((H.put b .dead).mk' H.next (.cells (cs.take i ++ x :: cs.drop i) 3 0))
/-- a row of one's own, there may be more behind -/
def WRow (h : Heap) (N : Nat) (l : List Int) (v : AV) (b : Nat) : Prop := ∃ cap e ver z, v = .sl b 0 l.length cap 1 ∧ N ≤ b ∧ b < h.next ∧ h.get b = some (.cells (ic l ++ z) e ver) ∧ AV.bares z = true
def tI (l : List Int) : AV := .rs (ic l) l.length
theorem tI_is {l : List Int} (h64 : ∀ x ∈ l, I64 x) (hl : l.length ≤ 1000000) : IsL 8 RInt (tI l) l := by
  refine isL_rs ?_ (by rw [reach_eq]; omega)
  clear hl
  induction l with
  | nil => exact .nil
  | cons x l ih => exact .cons (l := l) (c := [.int .i64 x]) ⟨rfl, h64 x (.head _)⟩ (ih fun y hy => h64 y (.tail _ hy))
section
variable {P : Program} {h h' : Heap} {N : Nat} {l : List Int} {v : AV} {b : Nat}
theorem ic_told (l : List Int) : AV.tolds (ic l) = true := by
  induction l with
  | nil => rfl
  | cons x l ih => simpa [ic, AV.tolds, AV.told] using ih
theorem WRow.frame (r : WRow h N l v b) (hn : h.next ≤ h'.next) (k : h'.get b = h.get b) : WRow h' N l v b := by
  obtain ⟨cap, e, ver, z, h1, h2, h3, h4, h5⟩ := r
  exact ⟨cap, e, ver, z, h1, h2, by omega, k.trans h4, h5⟩
theorem WRow.ext (r : WRow h N l v b) (x : Ext h h') : WRow h' N l v b := by
  obtain ⟨cap, e, ver, z, h1, h2, h3, h4, h5⟩ := r
  exact ⟨cap, e, ver, z, h1, h2, Nat.lt_of_lt_of_le h3 x.1, (x.2 _ h3).trans h4, h5⟩
theorem WRow.fz {r : Bool} (w : WRow h N l v b) (h0 : 0 < l.length) (hr : r = true) : Fz r h v (tI l) := by
  obtain ⟨cap, e, ver, z, rfl, h2, h3, h4, _⟩ := w
  refine .sl (cs := ic l) h0 h4 ?_ (by subst hr; exact Fzs.refl (ic_told l))
  rw [cut_eq, List.drop_zero, Nat.mul_one, List.take_left' (ic_len l), if_pos (ic_len l)]
theorem WRow.one (w : WRow h N l v b) : v.one = true := by obtain ⟨cap, e, ver, z, rfl, _⟩ := w; rfl
theorem WRow.cells (w : WRow h N l v b) : v.cells = some [v] := by obtain ⟨cap, e, ver, z, rfl, _⟩ := w; rfl
/-- what goes before -/
def ChP (nodes : Int) (m : Mp) (k a : Int) : Prop := mpOk nodes m ∧ 0 ≤ k ∧ k ≤ 2 ∧ 0 ≤ a ∧ a < 4294967296
abbrev z3 : List AV := [.int .i64 0, .nils, .nils]
def blkC (n : Nat) : VCode := blk n v32.body
theorem chg_a (g : Pg P tab) {m : Mp} {v u : AV} (hv : IsL 8 RInt v m.starts) (hu : IsL 8 RInt u m.owners) {nodes k a t : Int} {Q : AV → Heap → Prop} {B : VCode}
    (q7 : ∀ h' e, Ext h h' → ((¬ ChP nodes m k a ∧ e = 700) ∨ (ChP nodes m k a ∧ m.epoch = 65535 ∧ e = 701)) → Q (.tup [.agg z3, .int .i64 e]) h')
    (hK : ChP nodes m k a → m.epoch ≠ 65535 → ∀ s' h' i sv ov, IxAt m.starts a i → sg s' 1 = .int .i64 nodes → sg s' 3 = .ptr h.next 0 → sg s' 5 = .ptr (h.next + 1) 0 → sg s' 6 = .ptr (h.next + 2) 0 → sg s' 8 = .int .i64 i → (∃ d, sg s' 9 = .ptr d 0 ∧ h.next + 2 < d ∧ Has h' [(d, [.int .i64 (m.epoch + 1), sv, ov]), (h.next, [.int .i64 m.epoch, v, u]), (h.next + 1, [.int .i64 k, .int .i64 a, .int .i64 t]), (h.next + 2, z3)] ∧
      (∃ b b', WRow h' (h.next + 3) m.starts sv b ∧ WRow h' (h.next + 3) m.owners ov b' ∧ b ≠ b' ∧ b ≠ d ∧ b' ≠ d ∧ ∃ e ver e' ver', h'.get b = some (.cells (ic m.starts) e ver) ∧ h'.get b' = some (.cells (ic m.owners) e' ver') ∧ sv = .sl b 0 m.starts.length m.starts.length 1 ∧ ov = .sl b' 0 m.owners.length m.owners.length 1)) → Ext h h' → Ev P B s' h' (Un P [] (Fin v32.res Q))) :
    Ev P (.seq (blkC 0) (.seq (blkC 1) (.seq (blkC 2) (.seq (blkC 3) (.seq (blkC 4) B))))) (argsT [.agg [.int .i64 m.epoch, v, u], .int .i64 nodes, .agg [.int .i64 k, .int .i64 a, .int .i64 t]] 0 .e) h (Un P [] (Fin v32.res Q)) := by
  have ov := isL_one hv
  have ou := isL_one hu
  have ht : AV.tolds [.agg [.int .i64 m.epoch, v, u], .int .i64 nodes] = true := by simp [AV.tolds, AV.told, hv.told tInt, hu.told tInt]
  simp only [blkC, v32, blk, HN, RW, RX, VOp.fresh, bxC, bsC, un, most, callsOf, seval, Int.reducePow, ↓reduceIte, Nat.reduceEqDiff, reduceCtorEq]
  refine (mapMay_pu g hv hu).go ht ?_
  rintro x ⟨b, rfl, hb⟩
  have bad : ∀ H : Heap, Ext h H → ∀ c e ver, Ext h (H.put (h.next + 2) (.cells c e ver)) := fun H x c e ver => x.putn (by omega) _
  have x3 : Ext h (((h.mk' h.next (.cells [.int .i64 m.epoch, v, u] 24 0)).mk' (h.next + 1) (.cells [.int .i64 k, .int .i64 a, .int .i64 t] 26 0)).mk' (h.next + 2) (.cells z3 24 0)) := (((Ext.refl h).mkn (Nat.le_refl _) _).mkn (by omega) _).mkn (by omega) _
  by_cases pre : ChP nodes m k a
  · have hb1 : b = true := hb.2 pre.1
    subst hb1
    obtain ⟨p1, p2, p3, p4, p5⟩ := id pre
    have c1 : ¬ k < 0 := by omega
    have c2 : ¬ 2 < k := by omega
    have c3 : ¬ a < 0 := by omega
    have c4 : ¬ 4294967296 ≤ a := by omega
    by_cases he : m.epoch = 65535
    · simp only [c1, c2, c3, c4, he, HN, RW, RX, VOp.fresh, bxC, bsC, un, most, callsOf, seval, Int.reducePow, ↓reduceIte, Nat.reduceEqDiff, reduceCtorEq]
      exact q7 _ _ (bad _ (he ▸ x3) _ _ _) (.inr ⟨pre, he, rfl⟩)
    · simp only [c1, c2, c3, c4, he, HN, RW, RX, VOp.fresh, bxC, bsC, un, most, callsOf, seval, Int.reducePow, ↓reduceIte, Nat.reduceEqDiff, reduceCtorEq]
      have h0 : 0 < m.starts.length := p1.2.2.2.2.1
      have h1 : 0 < m.owners.length := by rw [p1.2.2.2.2.2.2.1]; exact h0
      have he2 := p1.2.2.2.1
      have he1 := p1.2.2.1
      have w1 : IntKind.i64.wrap (m.epoch + 1) = m.epoch + 1 := w64 (by omega) (by omega)
      obtain ⟨i, hi⟩ := ixAt_ex p1.rise h0 (d := a) (by have := p1.2.2.2.2.2.2.2.1; omega)
      have H3 : Has (((h.mk' h.next (.cells [.int .i64 m.epoch, v, u] 24 0)).mk' (h.next + 1) (.cells [.int .i64 k, .int .i64 a, .int .i64 t] 26 0)).mk' (h.next + 2) (.cells z3 24 0)) [(h.next + 2, z3), (h.next + 1, [.int .i64 k, .int .i64 a, .int .i64 t]), (h.next, [.int .i64 m.epoch, v, u])] :=
        ((Has.nil.mk (Nat.le_refl _)).mk (by rw [mk_next]; omega)).mk (by rw [mk_next, mk_next]; omega)
      have n3 : (((h.mk' h.next (.cells [.int .i64 m.epoch, v, u] 24 0)).mk' (h.next + 1) (.cells [.int .i64 k, .int .i64 a, .int .i64 t] 26 0)).mk' (h.next + 2) (.cells z3 24 0)).next = h.next + 3 := by rw [mk_next, mk_next, mk_next]; omega
      generalize ((h.mk' h.next (.cells [.int .i64 m.epoch, v, u] 24 0)).mk' (h.next + 1) (.cells [.int .i64 k, .int .i64 a, .int .i64 t] 26 0)).mk' (h.next + 2) (.cells z3 24 0) = h3 at *
      obtain ⟨e0, v0, g0⟩ := H3.get (b := h.next) (.tail _ (.tail _ (.head _)))
      refine (at_ok g hv p1.rise hi g0).cl ?_
      simp only [g0, RX, VOp.fresh, bxC, bsC, un, most, callsOf, seval, Int.reducePow, ↓reduceIte, Nat.reduceEqDiff, reduceCtorEq]
      refine mapCopy_cl g hv hu h0 h1 fun h4 sv ov om x4 => ?_
      obtain ⟨⟨b1, e1, r1, rfl, o1, o2, o3⟩, ⟨b2, e2, r2, rfl, s1, s2, s3⟩, hne⟩ := om
      have x4n := x4.1
      have H4 := H3.ext x4
      have n5 : ((h4.mk' h4.next (.cells z3 24 0)).put h4.next (.cells [.int .i64 m.epoch, .sl b1 0 m.starts.length m.starts.length 1, .sl b2 0 m.owners.length m.owners.length 1] 24 1)).next = h4.next + 1 := new_next
      have z0 : ¬ h.next = h4.next := by omega
      simp only [w1, RW, RX, VOp.fresh, bxC, bsC, un, most, callsOf, seval, Int.reducePow, ↓reduceIte, Nat.reduceEqDiff, reduceCtorEq]
      have ne12 : b1 ≠ b2 := fun e => hne (by simp [blkOf, e])
      have kk : ∀ c X Y, c < h4.next → (((h4.mk' h4.next (.cells z3 24 0)).put h4.next X).put h4.next Y).get c = h4.get c := fun c X Y hc => by rw [Heap.get_put, if_neg (by omega), Heap.get_put, if_neg (by omega), Heap.get_mk, if_neg (by omega)]
      have nn : ∀ X Y, (((h4.mk' h4.next (.cells z3 24 0)).put h4.next X).put h4.next Y).next = h4.next + 1 := fun X Y => by rw [put_next, new_next]
      have xh : Ext h h4 := x3.trans x4
      refine hK pre he _ _ i _ _ hi ?_ ?_ ?_ ?_ ?_ ⟨h4.next, ?_, by omega, ?_, b1, b2, ⟨_, e1, r1, [], rfl, by omega, by rw [nn]; omega, by rw [kk _ _ _ o2, o3, List.append_nil], rfl⟩, ⟨_, e2, r2, [], rfl, by omega, by rw [nn]; omega, by rw [kk _ _ _ s2, s3, List.append_nil], rfl⟩, ne12, by omega, by omega, e1, r1, e2, r2, by rw [kk _ _ _ o2, o3], by rw [kk _ _ _ s2, s3], rfl, rfl⟩ ⟨by rw [nn]; have := xh.1; omega, fun c hc => by rw [kk _ _ _ (by have := xh.1; omega)]; exact xh.2 c hc⟩
      · simp only [sg_set, Nat.reduceEqDiff, ↓reduceIte]
      · simp only [sg_set, Nat.reduceEqDiff, ↓reduceIte]
      · simp only [sg_set, Nat.reduceEqDiff, ↓reduceIte]
      · simp only [sg_set, Nat.reduceEqDiff, ↓reduceIte]
      · simp only [sg_set, Nat.reduceEqDiff, ↓reduceIte]
      · simp only [sg_set, Nat.reduceEqDiff, ↓reduceIte]
      · refine (H4.new.put ?_).sub ?_
        · intro p hp
          have := (H4 p hp).1
          omega
        · intro p hp
          simp only [List.mem_cons, List.not_mem_nil, or_false] at hp ⊢
          rcases hp with rfl | rfl | rfl | rfl <;> simp
  · have go : ∀ H : Heap, Ext h H → ∀ c e ver, Q (.tup [.agg z3, .int .i64 700]) (H.put (h.next + 2) (.cells c e ver)) := fun H x c e ver => q7 _ _ (bad H x c e ver) (.inl ⟨pre, rfl⟩)
    cases b with
    | false =>
      simp only [HN, RW, RX, VOp.fresh, bxC, bsC, un, most, callsOf, seval, Int.reducePow, ↓reduceIte, Nat.reduceEqDiff, reduceCtorEq]
      exact go _ x3 _ _ _
    | true =>
      have p1 := hb.1 rfl
      by_cases c1 : k < 0
      · simp only [c1, HN, RW, RX, VOp.fresh, bxC, bsC, un, most, callsOf, seval, Int.reducePow, ↓reduceIte, Nat.reduceEqDiff, reduceCtorEq]
        exact go _ x3 _ _ _
      by_cases c2 : 2 < k
      · simp only [c1, c2, HN, RW, RX, VOp.fresh, bxC, bsC, un, most, callsOf, seval, Int.reducePow, ↓reduceIte, Nat.reduceEqDiff, reduceCtorEq]
        exact go _ x3 _ _ _
      by_cases c3 : a < 0
      · simp only [c1, c2, c3, HN, RW, RX, VOp.fresh, bxC, bsC, un, most, callsOf, seval, Int.reducePow, ↓reduceIte, Nat.reduceEqDiff, reduceCtorEq]
        exact go _ x3 _ _ _
      by_cases c4 : 4294967296 ≤ a
      · simp only [c1, c2, c3, c4, HN, RW, RX, VOp.fresh, bxC, bsC, un, most, callsOf, seval, Int.reducePow, ↓reduceIte, Nat.reduceEqDiff, reduceCtorEq]
        exact go _ x3 _ _ _
      · exact absurd ⟨p1, by omega, by omega, by omega, by omega⟩ pre
end
end Go.Proofs.Ythmkenkjfmbkiaa.VM
namespace Go.Proofs.Ythmkenkjfmbkiaa.VM
attribute [local irreducible] Af Nx EvO Ev Un Gd Cd EvR EvQ EvC Nc Gc Lp EvM NxM AfM GdM EvMR EvMQ EvMD EvMC Nm Gm
/-- what stands while a map is changed: N: names from here on are one's own -/
structure CS (h : Heap) (N d : Nat) (m : Mp) (x : Mp) (v u : AV) (k a t : Int) : Prop where
  r : ∃ sv ov b b', Has h [(d, [.int .i64 x.epoch, sv, ov]), (N, [.int .i64 m.epoch, v, u]), (N + 1, [.int .i64 k, .int .i64 a, .int .i64 t]), (N + 2, z3)] ∧ WRow h (N + 3) x.starts sv b ∧ WRow h (N + 3) x.owners ov b' ∧ b ≠ b' ∧ b ≠ d ∧ b' ≠ d
  d : N + 2 < d
section
variable {P : Program} {h : Heap} {s : T AV} {N d i : Nat} {m : Mp} {v u sv ov : AV} {k a t nodes : Int} {kk : List Fr} {Q : Ex → T AV → Heap → Prop} {b b' e ver e' ver' : Nat}
theorem chg_give (g : Pg P tab) (t5 : sg s 5 = .ptr (N + 1) 0) (t8 : sg s 8 = .int .i64 i) (t9 : sg s 9 = .ptr d 0) (hd : N + 2 < d) (H : Has h [(d, [.int .i64 (m.epoch + 1), sv, ov]), (N, [.int .i64 m.epoch, v, u]), (N + 1, [.int .i64 1, .int .i64 a, .int .i64 t]), (N + 2, z3)])
    (ws : WRow h (N + 3) m.starts sv b) (wo : WRow h (N + 3) m.owners ov b') (hne : b ≠ b') (hbd : b ≠ d) (hbd' : b' ≠ d) (hg : h.get b' = some (.cells (ic m.owners) e' ver')) (hov : ov = .sl b' 0 m.owners.length m.owners.length 1) (hi : i < m.owners.length)
    (hK : ∀ s' h', (∀ j, j < 10 → sg s' j = sg s j) → CS h' N d m (chgR m 1 a t i) v u 1 a t → h.next ≤ h'.next → (∀ c, c < N → h'.get c = h.get c) → Un P kk Q .normal s' h') : Ev P (blkC 5) s h (Un P kk Q) := by
  obtain ⟨ed, vd, gd⟩ := H.get (b := d) (.head _)
  obtain ⟨ec, vc, gc⟩ := H.get (b := N + 1) (.tail _ (.tail _ (.head _)))
  have o1 := wo
  obtain ⟨cap, eo, vo, z, rfl, p2, p3, p4⟩ := o1
  cases hov
  have hia : ∀ (hh : Heap) (q : IntKind), iaV hh 1 none (.sl b' 0 m.owners.length m.owners.length 1) (.int q (i : Int)) = .val (.ptr b' i) hh := fun hh q => by
    have : 0 ≤ (i : Int) ∧ (i : Int) < (m.owners.length : Int) ∧ 1 = 1 := ⟨by omega, by omega, rfl⟩
    simp only [iaV, this, and_self, if_true, Int.toNat_natCast, Nat.zero_add, Nat.mul_one]
  have hw := wr_at hg (show i < (ic m.owners).length by rw [ic_len]; exact hi) (x := .int .i64 t) rfl
  simp only [blkC, v32, blk, t5, t8, t9, gd, gc, hia, hw, RX, VOp.fresh, bxC, bsC, un, most, callsOf, seval, Int.reducePow, ↓reduceIte, Nat.reduceEqDiff, reduceCtorEq]
  have hset : (ic m.owners).set i (.int .i64 t) = ic (m.owners.set i t) := by simp [ic]
  have kp : ∀ c, c ≠ b' → (h.put b' (.cells ((ic m.owners).set i (.int .i64 t)) e' (ver' + 1))).get c = h.get c := fun c hc => by rw [Heap.get_put, if_neg hc]
  refine hK _ _ (fun j hj => by simp only [sg_set]; repeat rw [if_neg (by omega)]) ⟨⟨sv, .sl b' 0 m.owners.length m.owners.length 1, b, b', ?_, ?_, ?_, hne, hbd, hbd'⟩, hd⟩ (by rw [put_next]; exact Nat.le_refl _) fun c hc => kp c (by omega)
  · exact fun p hp => ⟨by rw [put_next]; exact (H p hp).1, let ⟨e1, v1, g1⟩ := (H p hp).2; ⟨e1, v1, (kp _ (by
      simp only [List.mem_cons, List.not_mem_nil, or_false] at hp
      rcases hp with rfl | rfl | rfl | rfl <;> simp only <;> omega)).trans g1⟩⟩
  · exact ws.frame (by rw [put_next]; exact Nat.le_refl _) (kp b hne)
  · refine ⟨m.owners.length, e', ver' + 1, [], ?_, p2, by rw [put_next]; exact p3, ?_, rfl⟩
    · simp [chgR]
    · rw [Heap.get_put, if_pos rfl, List.append_nil, hset]; rfl
theorem chg_join (g : Pg P tab) (t3 : sg s 3 = .ptr N 0) (t5 : sg s 5 = .ptr (N + 1) 0) (t8 : sg s 8 = .int .i64 i) (t9 : sg s 9 = .ptr d 0) (hd : N + 2 < d) (H : Has h [(d, [.int .i64 (m.epoch + 1), sv, ov]), (N, [.int .i64 m.epoch, v, u]), (N + 1, [.int .i64 2, .int .i64 a, .int .i64 t]), (N + 2, z3)])
    (hv : IsL 8 RInt v m.starts) (hls : m.starts.length ≤ 32) (hlo : m.owners.length = m.starts.length)
    (ws : WRow h (N + 3) m.starts sv b) (wo : WRow h (N + 3) m.owners ov b') (hne : b ≠ b') (hbd : b ≠ d) (hbd' : b' ≠ d) (hgs : h.get b = some (.cells (ic m.starts) e ver)) (hgo : h.get b' = some (.cells (ic m.owners) e' ver')) (hsv : sv = .sl b 0 m.starts.length m.starts.length 1) (hov : ov = .sl b' 0 m.owners.length m.owners.length 1) (hi : i + 1 < m.starts.length)
    (hK : ∀ s' h', (∀ j, j < 10 → sg s' j = sg s j) → CS h' N d m (chgR m 2 a t i) v u 2 a t → h.next ≤ h'.next → (∀ c, c < N → h'.get c = h.get c) → Un P kk Q .normal s' h') : Ev P (blkC 5) s h (Un P kk Q) := by
  obtain ⟨ed, vd, gd⟩ := H.get (b := d) (.head _)
  obtain ⟨em, vm, gm⟩ := H.get (b := N) (.tail _ (.head _))
  obtain ⟨ec, vc, gc⟩ := H.get (b := N + 1) (.tail _ (.tail _ (.head _)))
  obtain ⟨cs, es, vs, zs, _, q2, q3, _⟩ := id ws
  obtain ⟨co, eo, vo, zo, _, p2, p3, _⟩ := id wo
  subst hsv hov
  have w1 : IntKind.i64.wrap ((i : Int) + 1) = ((i + 1 : Nat) : Int) := by rw [w64 (by omega) (by omega)]; push_cast; rfl
  have w2 : IntKind.i64.wrap ((i : Int) + 2) = ((i + 1 + 1 : Nat) : Int) := by rw [w64 (by omega) (by omega)]; push_cast; omega
  have c1 : ¬ ((i + 1 : Nat) : Int) = ((m.starts.length : Nat) : Int) := by omega
  simp only [blkC, v32, blk, t3, t5, t8, t9, gd, gc, gm, hv.len, w1, w2, c1, RX, VOp.fresh, bxC, bsC, un, most, callsOf, seval, Int.reducePow, ↓reduceIte, Nat.reduceEqDiff, reduceCtorEq]
  refine delI_cl g (i := i + 1) hi (by omega) q3 hgs fun h1 v1 n1 k1 g1 => ?_
  have gd1 := (k1 d (Ne.symm hbd)).trans gd
  have hgo1 := (k1 b' (Ne.symm hne)).trans hgo
  have gn1 := (k1 N (by omega)).trans gm
  have gc1 := (k1 (N + 1) (by omega)).trans gc
  have hdN : ¬ d = N := by omega
  have hdC : ¬ d = N + 1 := by omega
  simp only [t8, t9, gd1, hgo1, w1, w2, RW, RX, VOp.fresh, bxC, bsC, un, most, callsOf, seval, Int.reducePow, ↓reduceIte, Nat.reduceEqDiff, reduceCtorEq]
  have g2 : (h1.put d (.cells [.int .i64 (m.epoch + 1), .sl b 0 (m.starts.length - 1) m.starts.length 1, .sl b' 0 m.owners.length m.owners.length 1] ed (vd + 1))).get b' = some (.cells (ic m.owners) e' ver') := by rw [Heap.get_put, if_neg hbd']; exact hgo1
  refine delI_cl g (i := i + 1) (by omega) (by omega) (by rw [put_next, n1]; exact p3) g2 fun h2 v2 n2 k2 g22 => ?_
  have gd2 := (k2 d (Ne.symm hbd')).trans ((by rw [Heap.get_put, if_pos rfl]) : (h1.put d (.cells [.int .i64 (m.epoch + 1), .sl b 0 (m.starts.length - 1) m.starts.length 1, .sl b' 0 m.owners.length m.owners.length 1] ed (vd + 1))).get d = some (.cells [.int .i64 (m.epoch + 1), .sl b 0 (m.starts.length - 1) m.starts.length 1, .sl b' 0 m.owners.length m.owners.length 1] ed (vd + 1)))
  simp only [t9, gd2, RW, RX, VOp.fresh, bxC, bsC, un, most, callsOf, seval, Int.reducePow, ↓reduceIte, Nat.reduceEqDiff, reduceCtorEq]
  rw [put_next, n1] at n2
  have kp : ∀ c, c ≠ b → c ≠ b' → c ≠ d → ∀ X, (h2.put d X).get c = h.get c := fun c c1 c2 c3 X => by rw [Heap.get_put, if_neg c3, k2 c c2, Heap.get_put, if_neg c3, k1 c c1]
  have ls : (m.starts.eraseIdx (i + 1)).length = m.starts.length - 1 := List.length_eraseIdx_of_lt hi
  have lo : (m.owners.eraseIdx (i + 1)).length = m.owners.length - 1 := List.length_eraseIdx_of_lt (by omega)
  refine hK _ _ (fun j hj => by simp only [sg_set]; repeat rw [if_neg (by omega)]) ⟨⟨.sl b 0 (m.starts.length - 1) m.starts.length 1, .sl b' 0 (m.owners.length - 1) m.owners.length 1, b, b', ?_, ?_, ?_, hne, hbd, hbd'⟩, hd⟩ (by rw [put_next, n2]; exact Nat.le_refl _) fun c hc => kp c (by omega) (by omega) (by omega) _
  rotate_left
  · refine ⟨m.starts.length, e, v1, [.int .i64 0], ?_, q2, by rw [put_next, n2]; exact q3, ?_, rfl⟩
    rotate_left
    · rw [Heap.get_put, if_neg hbd, k2 b hne, Heap.get_put, if_neg hbd, g1]; rfl
    · rw [show chgR m 2 a t i = ⟨m.epoch + 1, m.starts.eraseIdx (i + 1), m.owners.eraseIdx (i + 1)⟩ from rfl, ls]
  · refine ⟨m.owners.length, e', v2, [.int .i64 0], ?_, p2, by rw [put_next, n2]; exact p3, ?_, rfl⟩
    rotate_left
    · rw [Heap.get_put, if_neg hbd', g22]; rfl
    · rw [show chgR m 2 a t i = ⟨m.epoch + 1, m.starts.eraseIdx (i + 1), m.owners.eraseIdx (i + 1)⟩ from rfl, lo]
  · intro p hp
    simp only [List.mem_cons, List.not_mem_nil, or_false] at hp
    rcases hp with rfl | rfl | rfl | rfl
    · exact ⟨by rw [put_next, n2]; exact H.lt (.head _), ed, vd + 1 + 1, by rw [Heap.get_put, if_pos rfl]; rfl⟩
    · exact ⟨by rw [put_next, n2]; exact H.lt (.tail _ (.head _)), _, _, (kp _ (by omega) (by omega) (by omega) _).trans gm⟩
    · exact ⟨by rw [put_next, n2]; exact H.lt (.tail _ (.tail _ (.head _))), _, _, (kp _ (by omega) (by omega) (by omega) _).trans gc⟩
    · obtain ⟨ez, vz, gz⟩ := H.get (b := N + 2) (.tail _ (.tail _ (.tail _ (.head _))))
      exact ⟨by rw [put_next, n2]; exact H.lt (.tail _ (.tail _ (.tail _ (.head _)))), _, _, (kp _ (by omega) (by omega) (by omega) _).trans gz⟩
theorem chg_split (g : Pg P tab) (hins : InsOk P) (t3 : sg s 3 = .ptr N 0) (t5 : sg s 5 = .ptr (N + 1) 0) (t8 : sg s 8 = .int .i64 i) (t9 : sg s 9 = .ptr d 0) (hd : N + 2 < d) (H : Has h [(d, [.int .i64 (m.epoch + 1), sv, ov]), (N, [.int .i64 m.epoch, v, u]), (N + 1, [.int .i64 0, .int .i64 a, .int .i64 t]), (N + 2, z3)])
    (hu : IsL 8 RInt u m.owners) (hls : m.starts.length ≤ 32) (hlo : m.owners.length = m.starts.length)
    (ws : WRow h (N + 3) m.starts sv b) (wo : WRow h (N + 3) m.owners ov b') (hne : b ≠ b') (hbd : b ≠ d) (hbd' : b' ≠ d) (hgs : h.get b = some (.cells (ic m.starts) e ver)) (hgo : h.get b' = some (.cells (ic m.owners) e' ver')) (hsv : sv = .sl b 0 m.starts.length m.starts.length 1) (hov : ov = .sl b' 0 m.owners.length m.owners.length 1) (hi : i < m.starts.length)
    (hK : ∀ s' h', (∀ j, j < 10 → sg s' j = sg s j) → CS h' N d m (chgR m 0 a t i) v u 0 a t → h.next ≤ h'.next → (∀ c, c < N → h'.get c = h.get c) → Un P kk Q .normal s' h') : Ev P (blkC 5) s h (Un P kk Q) := by
  obtain ⟨ed, vd, gd⟩ := H.get (b := d) (.head _)
  obtain ⟨em, vm, gm⟩ := H.get (b := N) (.tail _ (.head _))
  obtain ⟨ec, vc, gc⟩ := H.get (b := N + 1) (.tail _ (.tail _ (.head _)))
  obtain ⟨ez, vz, gz⟩ := H.get (b := N + 2) (.tail _ (.tail _ (.tail _ (.head _))))
  have ld := H.lt (b := d) (.head _)
  obtain ⟨cs, es, vs, zs, _, q2, q3, _⟩ := id ws
  obtain ⟨co, eo, vo, zo, _, p2, p3, _⟩ := id wo
  subst hsv hov
  have w1 : IntKind.i64.wrap ((i : Int) + 1) = ((i + 1 : Nat) : Int) := by rw [w64 (by omega) (by omega)]; push_cast; rfl
  -- the starts
  have x1 := Ext.mk (h := h) (.cells [.int .i64 a] 3 0)
  have n1 : (h.mk' h.next (.cells [.int .i64 a] 3 0)).next = h.next + 1 := by rw [mk_next]; omega
  have ok1 := hins (H := h.mk' h.next (.cells [.int .i64 a] 3 0)) (b := b) (n := m.starts.length) (cap := m.starts.length) (i := i + 1) (vb := h.next) ((x1.2 b q3).trans hgs) (ic_len _) (ic_one _) rfl (by omega) (by rw [Heap.get_mk, if_pos rfl]) (by omega) (by omega)
  rw [n1, ins_ic] at ok1
  have k2 : ∀ c, c < h.next → c ≠ b → (((h.mk' h.next (.cells [.int .i64 a] 3 0)).put b .dead).mk' (h.next + 1) (.cells (ic (ins m.starts (i + 1) a)) 3 0)).get c = h.get c := fun c hc hb => by rw [Heap.get_mk, if_neg (by omega), Heap.get_put, if_neg hb, Heap.get_mk, if_neg (by omega)]
  have g2 : (((h.mk' h.next (.cells [.int .i64 a] 3 0)).put b .dead).mk' (h.next + 1) (.cells (ic (ins m.starts (i + 1) a)) 3 0)).get (h.next + 1) = some (.cells (ic (ins m.starts (i + 1) a)) 3 0) := by rw [Heap.get_mk, if_pos rfl]
  have n2 : (((h.mk' h.next (.cells [.int .i64 a] 3 0)).put b .dead).mk' (h.next + 1) (.cells (ic (ins m.starts (i + 1) a)) 3 0)).next = h.next + 2 := by rw [mk_next, put_next, n1]; omega
  simp only [blkC, v32, blk, t3, t5, t8, t9, gd, gc, gm, w1, RX, VOp.fresh, bxC, bsC, un, most, callsOf, seval, Int.reducePow, ↓reduceIte, Nat.reduceEqDiff, reduceCtorEq]
  refine ok1.cl ?_
  generalize ((h.mk' h.next (.cells [.int .i64 a] 3 0)).put b .dead).mk' (h.next + 1) (.cells (ic (ins m.starts (i + 1) a)) 3 0) = h2 at *
  have gd2 := (k2 d ld (Ne.symm hbd)).trans gd
  simp only [t9, gd2, RW, RX, VOp.fresh, bxC, bsC, un, most, callsOf, seval, Int.reducePow, ↓reduceIte, Nat.reduceEqDiff, reduceCtorEq]
  -- the owners
  have k3 : ∀ c, c < h.next → c ≠ b → c ≠ d → (h2.put d (.cells [.int .i64 (m.epoch + 1), .sl (h.next + 1) 0 (m.starts.length + 1) (m.starts.length + 1) 1, .sl b' 0 m.owners.length m.owners.length 1] ed (vd + 1))).get c = h.get c := fun c hc hb hd => by rw [Heap.get_put, if_neg hd]; exact k2 c hc hb
  have g3 : (h2.put d (.cells [.int .i64 (m.epoch + 1), .sl (h.next + 1) 0 (m.starts.length + 1) (m.starts.length + 1) 1, .sl b' 0 m.owners.length m.owners.length 1] ed (vd + 1))).get (h.next + 1) = some (.cells (ic (ins m.starts (i + 1) a)) 3 0) := by rw [Heap.get_put, if_neg (by omega)]; exact g2
  have n3 : (h2.put d (.cells [.int .i64 (m.epoch + 1), .sl (h.next + 1) 0 (m.starts.length + 1) (m.starts.length + 1) 1, .sl b' 0 m.owners.length m.owners.length 1] ed (vd + 1))).next = h.next + 2 := by rw [put_next, n2]
  have gd3 : (h2.put d (.cells [.int .i64 (m.epoch + 1), .sl (h.next + 1) 0 (m.starts.length + 1) (m.starts.length + 1) 1, .sl b' 0 m.owners.length m.owners.length 1] ed (vd + 1))).get d = some (.cells [.int .i64 (m.epoch + 1), .sl (h.next + 1) 0 (m.starts.length + 1) (m.starts.length + 1) 1, .sl b' 0 m.owners.length m.owners.length 1] ed (vd + 1)) := by rw [Heap.get_put, if_pos rfl]
  generalize h2.put d (.cells [.int .i64 (m.epoch + 1), .sl (h.next + 1) 0 (m.starts.length + 1) (m.starts.length + 1) 1, .sl b' 0 m.owners.length m.owners.length 1] ed (vd + 1)) = h3 at *
  obtain ⟨r, ht, hia⟩ := getInt hu i (by omega)
  have x4 := Ext.mk (h := h3) (.cells [.int .i64 (m.owners.getD i 0)] 3 0)
  rw [n3] at x4
  have n4 : (h3.mk' (h.next + 2) (.cells [.int .i64 (m.owners.getD i 0)] 3 0)).next = h.next + 3 := by rw [mk_next, n3]; omega
  have ok2 := hins (H := h3.mk' (h.next + 2) (.cells [.int .i64 (m.owners.getD i 0)] 3 0)) (b := b') (n := m.owners.length) (cap := m.owners.length) (i := i + 1) (vb := h.next + 2) ((x4.2 b' (by omega)).trans ((k3 b' p3 (Ne.symm hne) hbd').trans hgo)) (ic_len _) (ic_one _) rfl (by omega) (by rw [Heap.get_mk, if_pos rfl]) (by omega) (by omega)
  rw [n4, ins_ic] at ok2
  have gm3 := (k3 N (by omega) (by omega) (by omega)).trans gm
  have hNd : ¬ d = h.next + 2 := by omega
  have hNd3 : ¬ d = h.next + 3 := by omega
  have gd4 := (x4.2 d (by omega)).trans gd3
  have gdb : ¬ d = b' := Ne.symm hbd'
  have gd5 : (((h3.mk' (h.next + 2) (.cells [.int .i64 (m.owners.getD i 0)] 3 0)).put b' .dead).mk' (h.next + 3) (.cells (ic (ins m.owners (i + 1) (m.owners.getD i 0))) 3 0)).get d = some (.cells [.int .i64 (m.epoch + 1), .sl (h.next + 1) 0 (m.starts.length + 1) (m.starts.length + 1) 1, .sl b' 0 m.owners.length m.owners.length 1] ed (vd + 1)) := by rw [Heap.get_mk, if_neg hNd3, Heap.get_put, if_neg gdb]; exact gd4
  have kf : ∀ c, c < h.next + 2 → c ≠ b' → (((h3.mk' (h.next + 2) (.cells [.int .i64 (m.owners.getD i 0)] 3 0)).put b' .dead).mk' (h.next + 3) (.cells (ic (ins m.owners (i + 1) (m.owners.getD i 0))) 3 0)).get c = h3.get c := fun c hc hb => by rw [Heap.get_mk, if_neg (by omega), Heap.get_put, if_neg hb, Heap.get_mk, if_neg (by omega)]
  have gf : (((h3.mk' (h.next + 2) (.cells [.int .i64 (m.owners.getD i 0)] 3 0)).put b' .dead).mk' (h.next + 3) (.cells (ic (ins m.owners (i + 1) (m.owners.getD i 0))) 3 0)).get (h.next + 3) = some (.cells (ic (ins m.owners (i + 1) (m.owners.getD i 0))) 3 0) := by rw [Heap.get_mk, if_pos rfl]
  have nf : (((h3.mk' (h.next + 2) (.cells [.int .i64 (m.owners.getD i 0)] 3 0)).put b' .dead).mk' (h.next + 3) (.cells (ic (ins m.owners (i + 1) (m.owners.getD i 0))) 3 0)).next = h.next + 4 := by rw [mk_next, put_next, n4]; omega
  generalize hF : ((h3.mk' (h.next + 2) (.cells [.int .i64 (m.owners.getD i 0)] 3 0)).put b' .dead).mk' (h.next + 3) (.cells (ic (ins m.owners (i + 1) (m.owners.getD i 0))) 3 0) = h5 at *
  refine EvD.lk (fun _ _ _ => (.sl (h.next + 3) 0 (m.owners.length + 1) (m.owners.length + 1) 1, h5)) ?_
  simp only [t3, t8, t9, gd3, gm3, n3, hia, w1, ok2, gd5, RW, RX, VOp.fresh, bxC, bsC, un, most, callsOf, seval, Int.reducePow, ↓reduceIte, Nat.reduceEqDiff, reduceCtorEq]
  refine ⟨⟨⟨?_, trivial⟩, trivial⟩, ?_⟩
  · show Lk _ _ _ _
    simp only [Lk, wanted, gd4, RX, VOp.fresh, bxC, bsC, un, most, callsOf, seval, Int.reducePow, ↓reduceIte, Nat.reduceEqDiff, reduceCtorEq]
  have x5 : ∀ c X e2 v2, c < h.next → c ≠ b → c ≠ b' → c ≠ d → (h5.put d (.cells X e2 v2)).get c = h.get c := fun c X e2 v2 hc hb hb' hd => by
    rw [Heap.get_put, if_neg hd, kf c (by omega) hb']; exact k3 c hc hb hd
  have y1 : ∀ X e2 v2, (h5.put d (.cells X e2 v2)).get (h.next + 1) = some (.cells (ic (ins m.starts (i + 1) a)) 3 0) := fun X e2 v2 => by
    rw [Heap.get_put, if_neg (by omega), kf _ (by omega) (by omega)]; exact g3
  have y2 : ∀ X e2 v2, (h5.put d (.cells X e2 v2)).get (h.next + 3) = some (.cells (ic (ins m.owners (i + 1) (m.owners.getD i 0))) 3 0) := fun X e2 v2 => by
    rw [Heap.get_put, if_neg (by omega)]; exact gf
  have li : (ins m.starts (i + 1) a).length = m.starts.length + 1 := ins_len (by omega) _
  have lo : (ins m.owners (i + 1) (m.owners.getD i 0)).length = m.owners.length + 1 := ins_len (by omega) _
  refine hK _ _ (fun j hj => by simp only [sg_set]; repeat rw [if_neg (by omega)]) ⟨⟨.sl (h.next + 1) 0 (m.starts.length + 1) (m.starts.length + 1) 1, .sl (h.next + 3) 0 (m.owners.length + 1) (m.owners.length + 1) 1, h.next + 1, h.next + 3, ?_, ?_, ?_, by omega, by omega, by omega⟩, hd⟩ (by rw [put_next, nf]; omega) fun c hc => x5 c _ _ _ (by omega) (by omega) (by omega) (by omega)
  · intro p hp
    simp only [List.mem_cons, List.not_mem_nil, or_false] at hp
    rcases hp with rfl | rfl | rfl | rfl
    · exact ⟨by rw [put_next, nf]; simp only; omega, _, _, by rw [Heap.get_put, if_pos rfl]; rfl⟩
    · exact ⟨by rw [put_next, nf]; simp only; omega, _, _, (x5 _ _ _ _ (by omega) (by omega) (by omega) (by omega)).trans gm⟩
    · exact ⟨by rw [put_next, nf]; simp only; omega, _, _, (x5 _ _ _ _ (by omega) (by omega) (by omega) (by omega)).trans gc⟩
    · exact ⟨by rw [put_next, nf]; simp only; omega, _, _, (x5 _ _ _ _ (by omega) (by omega) (by omega) (by omega)).trans gz⟩
  · refine ⟨m.starts.length + 1, _, _, [], ?_, by omega, by rw [put_next, nf]; omega, (y1 _ _ _).trans (by rw [List.append_nil]; rfl), rfl⟩
    show _ = AV.sl _ 0 (ins m.starts (i + 1) a).length _ _
    rw [li]
  · refine ⟨m.owners.length + 1, _, _, [], ?_, by omega, by rw [put_next, nf]; omega, (y2 _ _ _).trans (by rw [List.append_nil]; rfl), rfl⟩
    show _ = AV.sl _ 0 (ins m.owners (i + 1) (m.owners.getD i 0)).length _ _
    rw [lo]
end
end Go.Proofs.Ythmkenkjfmbkiaa.VM
namespace Go.Proofs.Ythmkenkjfmbkiaa.VM
attribute [local irreducible] Af Nx EvO Ev Un Gd Cd EvR EvQ EvC Nc Gc Lp EvM NxM AfM GdM EvMR EvMQ EvMD EvMC Nm Gm
/-- what the map is told as -/
def toldMp (x : Mp) : AV := .agg [.int .i64 x.epoch, tI x.starts, tI x.owners]
/-- when there is none -/
def ChErr (nodes : Int) (m : Mp) (k a t e : Int) : Prop := (¬ ChP nodes m k a ∧ e = 700) ∨ (ChP nodes m k a ∧ m.epoch = 65535 ∧ e = 701) ∨ (ChP nodes m k a ∧ m.epoch ≠ 65535 ∧ e = 700 ∧ ∃ i, IxAt m.starts a i ∧ ((k = 2 ∧ i + 1 = m.starts.length) ∨ ¬ mpOk nodes (chgR m k a t i)))
/-- when there is one -/
def ChYes (nodes : Int) (m : Mp) (k a t : Int) (i : Nat) : Prop := ChP nodes m k a ∧ m.epoch ≠ 65535 ∧ IxAt m.starts a i ∧ ¬ (k = 2 ∧ i + 1 = m.starts.length) ∧ mpOk nodes (chgR m k a t i)
theorem mem_ins {l : List Int} {i : Nat} {x y : Int} (h : y ∈ ins l i x) : y = x ∨ y ∈ l := by
  simp only [ins, List.mem_append, List.mem_cons] at h
  rcases h with h | h | h
  · exact .inr (List.mem_of_mem_take h)
  · exact .inl h
  · exact .inr (List.mem_of_mem_drop h)
theorem getD_mem {l : List Int} {i : Nat} (h : i < l.length) : l.getD i 0 ∈ l := by
  rw [List.getD_eq_getElem?_getD, List.getElem?_eq_getElem h]; exact List.getElem_mem h
theorem cat_i64 {l : List Int} {c : List AV} (h : Cat RInt l c) : ∀ x ∈ l, I64 x := by
  induction h with
  | nil => intro x hx; simp at hx
  | cons h t ih =>
    intro x hx
    rcases List.mem_cons.1 hx with rfl | hx
    · exact h.2
    · exact ih x hx
theorem isL_i64 {l : List Int} {w : AV} (hw : IsL 8 RInt w l) : ∀ x ∈ l, I64 x := by
  rcases hw.2 with ⟨_, rfl⟩ | ⟨c, _, hc⟩
  · intro x hx; simp at hx
  · exact cat_i64 hc
section
variable {P : Program} {h : Heap} {s : T AV} {N d i : Nat} {m x : Mp} {v u sv ov : AV} {k a t nodes : Int} {Q : AV → Heap → Prop}
theorem chg_c (g : Pg P tab) (t1 : sg s 1 = .int .i64 nodes) (t6 : sg s 6 = .ptr (N + 2) 0) (t9 : sg s 9 = .ptr d 0) (c : CS h N d m x v u k a t)
    (h64s : ∀ y ∈ x.starts, I64 y) (h64o : ∀ y ∈ x.owners, I64 y) (l0 : 0 < x.starts.length) (l1 : 0 < x.owners.length) (l2 : x.starts.length ≤ 1000000) (l3 : x.owners.length ≤ 1000000)
    (q7 : ¬ mpOk nodes x → ∀ h', (h.next ≤ h'.next ∧ ∀ c, c < N → h'.get c = h.get c) → Q (.tup [.agg z3, .int .i64 700]) h')
    (qY : mpOk nodes x → ∀ h' sv ov b b', WRow h' N x.starts sv b → WRow h' N x.owners ov b' → b ≠ b' → (h.next ≤ h'.next ∧ ∀ c, c < N → h'.get c = h.get c) → Q (.tup [.agg [.int .i64 x.epoch, sv, ov], .int .i64 0]) h') : Ev P (rst 6 v32.body) s h (Un P [] (Fin v32.res Q)) := by
  obtain ⟨⟨sv, ov, b, b', H, ws, wo, hne, hbd, hbd'⟩, hd⟩ := c
  obtain ⟨ed, vd, gd⟩ := H.get (b := d) (.head _)
  obtain ⟨ez, vz, gz⟩ := H.get (b := N + 2) (.tail _ (.tail _ (.tail _ (.head _))))
  have lz := H.lt (b := N + 2) (.tail _ (.tail _ (.tail _ (.head _))))
  have os := ws.one
  have oo := wo.one
  have cs := ws.cells
  have co := wo.cells
  obtain ⟨cp, es, vs, zs, e1, q2, q3, _⟩ := id ws
  obtain ⟨cp', eo, vo, zo, e2, p2, p3, _⟩ := id wo
  have ha : Fzs true h [.agg [.int .i64 x.epoch, sv, ov], .int .i64 nodes] [toldMp x, .int .i64 nodes] :=
    .cons (.agg (.cons (.int _ _) (.cons (ws.fz l0 rfl) (.cons (wo.fz l1 rfl) .nil)))) (.cons (.int _ _) .nil)
  have hp := mapMay_pu g (nodes := nodes) (tI_is h64s l2) (tI_is h64o l3)
  have kp : ∀ (w : List AV) (e v c : Nat), c ≠ N + 2 → (h.put (N + 2) (.cells w e v)).get c = h.get c := fun w e v c hc => by rw [Heap.get_put, if_neg hc]
  simp only [v32, rst, t1, t9, gd, RW, RX, VOp.fresh, bxC, bsC, un, most, callsOf, seval, Int.reducePow, ↓reduceIte, Nat.reduceEqDiff, reduceCtorEq]
  refine hp.cl ha fun y => ?_
  rintro ⟨bb, rfl, hb⟩
  cases bb with
  | false =>
    simp only [t6, gz, RW, RX, VOp.fresh, bxC, bsC, un, most, callsOf, seval, Int.reducePow, ↓reduceIte, Nat.reduceEqDiff, reduceCtorEq]
    exact q7 (fun ok => by simpa using hb.2 ok) _ ⟨by rw [put_next]; exact Nat.le_refl _, fun c hc => kp _ _ _ _ (by omega)⟩
  | true =>
    simp only [t6, t9, gd, gz, os, oo, cs, co, RW, RX, VOp.fresh, bxC, bsC, un, most, callsOf, seval, Int.reducePow, ↓reduceIte, Nat.reduceEqDiff, reduceCtorEq]
    have f : ∀ {l v b} (w : List AV) (e ver : Nat), b ≠ N + 2 → WRow h (N + 3) l v b → WRow (h.put (N + 2) (.cells w e ver)) N l v b := fun w e ver hb wr => by
      obtain ⟨cap, e1, ver1, z, h1, h2, h3, h4⟩ := wr.frame (h' := h.put (N + 2) (.cells w e ver)) (by rw [put_next]; exact Nat.le_refl _) (kp _ _ _ _ hb)
      exact ⟨cap, e1, ver1, z, h1, by omega, h3, h4⟩
    refine qY (hb.1 rfl) _ sv ov b b' (f _ _ _ (by omega) ws) (f _ _ _ (by omega) wo) hne ⟨by rw [put_next]; exact Nat.le_refl _, fun c hc => kp _ _ _ _ (by omega)⟩
end
end Go.Proofs.Ythmkenkjfmbkiaa.VM
namespace Go.Proofs.Ythmkenkjfmbkiaa.VM
attribute [local irreducible] Af Nx EvO Ev Un Gd Cd EvR EvQ EvC Nc Gc Lp EvM NxM AfM GdM EvMR EvMQ EvMD EvMC Nm Gm
theorem ic_fz {r : Bool} {h : Heap} : ∀ l : List Int, Fzs r h (ic l) (ic l)
  | [] => .nil
  | _ :: l => .cons (.int _ _) (ic_fz l)
section
variable {P : Program} {h : Heap} {m : Mp} {v u : AV} {k a t nodes : Int}
theorem chgR_ok (hv : IsL 8 RInt v m.starts) (hu : IsL 8 RInt u m.owners) {i : Nat} (hk : 0 ≤ k ∧ k ≤ 2) (ha : I64 a) (ht : I64 t) (hi : IxAt m.starts a i) (hls : m.starts.length ≤ 32) (hlo : m.owners.length = m.starts.length) (hn : ¬ (k = 2 ∧ i + 1 = m.starts.length)) :
    (∀ y ∈ (chgR m k a t i).starts, I64 y) ∧ (∀ y ∈ (chgR m k a t i).owners, I64 y) ∧ 0 < (chgR m k a t i).starts.length ∧ 0 < (chgR m k a t i).owners.length ∧ (chgR m k a t i).starts.length ≤ 1000000 ∧ (chgR m k a t i).owners.length ≤ 1000000 := by
  have v64 := isL_i64 hv
  have u64 := isL_i64 hu
  have hi1 := hi.1
  unfold chgR
  split
  · have li : (ins m.starts (i + 1) a).length = m.starts.length + 1 := ins_len (by omega) _
    have lo : (ins m.owners (i + 1) (m.owners.getD i 0)).length = m.owners.length + 1 := ins_len (by omega) _
    refine ⟨fun y hy => (mem_ins hy).elim (fun e => e ▸ ha) (v64 y), fun y hy => (mem_ins hy).elim (fun e => e ▸ u64 _ (getD_mem (by omega))) (u64 y), ?_, ?_, ?_, ?_⟩ <;> simp only [li, lo] <;> omega
  · split
    · refine ⟨v64, fun y hy => (List.mem_or_eq_of_mem_set hy).elim (u64 y) (fun e => e ▸ ht), ?_, ?_, ?_, ?_⟩ <;> simp only [List.length_set] <;> omega
    · have li : (m.starts.eraseIdx (i + 1)).length = m.starts.length - 1 := List.length_eraseIdx_of_lt (by omega)
      have lo : (m.owners.eraseIdx (i + 1)).length = m.owners.length - 1 := List.length_eraseIdx_of_lt (by omega)
      refine ⟨fun y hy => v64 y (List.mem_of_mem_eraseIdx hy), fun y hy => u64 y (List.mem_of_mem_eraseIdx hy), ?_, ?_, ?_, ?_⟩ <;> simp only [li, lo] <;> omega
theorem change_cl (g : Pg P tab) (hins : InsOk P) (hv : IsL 8 RInt v m.starts) (hu : IsL 8 RInt u m.owners) (ha : I64 a) (ht : I64 t) {Q : AV → Heap → Prop}
    (q7 : ∀ h' e, Ext h h' → ChErr nodes m k a t e → Q (.tup [.agg z3, .int .i64 e]) h')
    (qY : ∀ h' i sv ov b b', ChYes nodes m k a t i → WRow h' h.next (chgR m k a t i).starts sv b → WRow h' h.next (chgR m k a t i).owners ov b' → b ≠ b' → Ext h h' → Q (.tup [.agg [.int .i64 (chgR m k a t i).epoch, sv, ov], .int .i64 0]) h') :
    Cl P 32 [.agg [.int .i64 m.epoch, v, u], .int .i64 nodes, .agg [.int .i64 k, .int .i64 a, .int .i64 t]] h Q := by
  refine g.cl (vf := v32) rfl rfl ?_
  have e0 : v32.body = .seq (blkC 0) (.seq (blkC 1) (.seq (blkC 2) (.seq (blkC 3) (.seq (blkC 4) (.seq (blkC 5) (rst 6 v32.body)))))) := rfl
  rw [e0]
  refine chg_a g hv hu (fun h' e x c => q7 h' e x (c.elim .inl fun c => .inr (.inl c))) ?_
  rintro pre he s2 h2 i sv ov hi t1 t3 t5 t6 t8 ⟨d, t9, hd, H, b, b', ws, wo, hne, hbd, hbd', e1, w1, e2, w2, g1, g2, rfl, rfl⟩ x2
  have x2n := x2.1
  obtain ⟨⟨p1, p2, p3, p4, p5, p6, p7, p8, p9⟩, k0, k2, a0, a1⟩ := id pre
  have hi1 := hi.1
  -- what is left
  have rest : ¬ (k = 2 ∧ i + 1 = m.starts.length) → ∀ s' h', (∀ j, j < 10 → sg s' j = sg s2 j) → CS h' h.next d m (chgR m k a t i) v u k a t → h2.next ≤ h'.next → (∀ c, c < h.next → h'.get c = h2.get c) → Ev P (rst 6 v32.body) s' h' (Un P [] (Fin v32.res Q)) := fun hn s' h' ks c3 n3 k3 => by
    obtain ⟨r1, r2, r3, r4, r5, r6⟩ := chgR_ok hv hu ⟨k0, k2⟩ ha ht hi p6 p7 hn
    refine chg_c g ((ks 1 (by omega)).trans t1) ((ks 6 (by omega)).trans t6) ((ks 9 (by omega)).trans t9) c3 r1 r2 r3 r4 r5 r6 (fun no h4 x4 => ?_) fun ok h4 sv ov b b' ws wo hne x4 => ?_
    · exact q7 h4 700 ⟨Nat.le_trans (Nat.le_trans x2n n3) x4.1, fun c hc => (x4.2 c hc).trans ((k3 c hc).trans (x2.2 c hc))⟩ (.inr (.inr ⟨pre, he, rfl, i, hi, .inr no⟩))
    · exact qY h4 i sv ov b b' ⟨pre, he, hi, hn, ok⟩ ws wo hne ⟨Nat.le_trans (Nat.le_trans x2n n3) x4.1, fun c hc => (x4.2 c hc).trans ((k3 c hc).trans (x2.2 c hc))⟩
  by_cases c0 : k = 0
  · subst c0
    rw [ev_seq]
    refine chg_split g hins t3 t5 t8 t9 hd H hu p6 p7 ws wo hne hbd hbd' g1 g2 rfl rfl hi1 fun s' h' ks c3 n3 k3 => ?_
    rw [un_seq]; exact rest (by simp) s' h' ks c3 n3 k3
  by_cases c1 : k = 1
  · subst c1
    rw [ev_seq]
    refine chg_give g t5 t8 t9 hd H ws wo hne hbd hbd' g2 rfl (by omega) fun s' h' ks c3 n3 k3 => ?_
    rw [un_seq]; exact rest (by simp) s' h' ks c3 n3 k3
  obtain rfl : k = 2 := by omega
  by_cases hl : i + 1 = m.starts.length
  · obtain ⟨ec, vc, gc⟩ := H.get (b := h.next + 1) (.tail _ (.tail _ (.head _)))
    obtain ⟨em, vm, gm⟩ := H.get (b := h.next) (.tail _ (.head _))
    obtain ⟨ez, vz, gz⟩ := H.get (b := h.next + 2) (.tail _ (.tail _ (.tail _ (.head _))))
    have w1 : IntKind.i64.wrap ((i : Int) + 1) = ((m.starts.length : Nat) : Int) := by rw [w64 (by omega) (by omega)]; omega
    simp only [blkC, v32, blk, t3, t5, t6, t8, t9, gc, gm, gz, hv.len, w1, RW, RX, VOp.fresh, bxC, bsC, un, most, callsOf, seval, Int.reducePow, ↓reduceIte, Nat.reduceEqDiff, reduceCtorEq]
    exact q7 _ 700 ⟨by rw [put_next]; exact x2n, fun c hc => by rw [Heap.get_put, if_neg (by omega)]; exact x2.2 c hc⟩ (.inr (.inr ⟨pre, he, rfl, i, hi, .inl ⟨rfl, hl⟩⟩))
  · rw [ev_seq]
    refine chg_join g t3 t5 t8 t9 hd H hv p6 p7 ws wo hne hbd hbd' g1 g2 rfl rfl (by omega) fun s' h' ks c3 n3 k3 => ?_
    rw [un_seq]; exact rest (by simp; exact hl) s' h' ks c3 n3 k3
end
end Go.Proofs.Ythmkenkjfmbkiaa.VM
namespace Go.Proofs.Ythmkenkjfmbkiaa.VM
attribute [local irreducible] Af Nx EvO Ev Un Gd Cd EvR EvQ EvC Nc Gc Lp EvM NxM AfM GdM EvMR EvMQ EvMD EvMC Nm Gm
/-- slices.Insert, told -/
def insX : Told := fun f args h => bif Nat.beq f 60 then
    match args with
    | [.sl b 0 n cap 1, .int .i64 (.ofNat i), .sl vb 0 1 1 1] => match h.get b, h.get vb with
      | some (.cells cs _ _), some (.cells [x] _ _) => bif Nat.beq cs.length n && cs.all AV.one && x.one && Nat.ble i n && !(Nat.beq vb b) && Nat.ble n 999999 then
          some (.sl h.next 0 (n + 1) (n + 1) 1, (h.put b .dead).mk' h.next (.cells (cs.take i ++ x :: cs.drop i) 3 0)) else none
      | _, _ => none
    | _ => none
  else none
theorem insX_ok {P : Program} (hins : InsOk P) : CallOk P insX := by
  intro f args h v h' e
  unfold insX at e
  rw [T.beq_dec] at e
  by_cases hf : f = 60
  · rw [decide_eq_true hf, cond_true] at e
    subst hf
    split at e
    · split at e
      · rename_i b n cap i vb _ _ cs e1 w1 x e2 w2 g1 g2
        cases hc : (Nat.beq cs.length n && cs.all AV.one && x.one && Nat.ble i n && !(Nat.beq vb b) && Nat.ble n 999999) with
        | false => rw [hc, cond_false] at e; cases e
        | true =>
          rw [hc, cond_true] at e
          cases e
          simp only [Bool.and_eq_true, Bool.not_eq_true', Nat.beq_eq, Nat.ble_eq] at hc
          obtain ⟨⟨⟨⟨⟨a1, a2⟩, a3⟩, a4⟩, a5⟩, a6⟩ := hc
          exact hins g1 a1 a2 a3 a4 g2 (fun e => by rw [e, Nat.beq_refl] at a5; cases a5) (by omega)
      · cases e
    · cases e
  · rw [decide_eq_false hf, cond_false] at e; cases e
section
variable {P : Program} {F : Nat → Option VFun}
theorem Pg.runX (g : Pg P F) {X : Told} (hX : CallOk P X) {n f : Nat} {args : List AV} {w : AV} (hv : (vcall F X n f args ⟨0, .e⟩).bind (fun r => fz false r.2 40 r.1) = some w) : Pu P f args (fun v => v = w) := by
  obtain ⟨⟨v, h'⟩, e1, e2⟩ := Option.bind_eq_some_iff.1 hv
  exact ⟨_, _, h', (vm_ok (drawn_ok g.hm) g.tb hX n).2.2 f args _ _ _ e1, fz_ok _ _ _ e2, rfl⟩
end
end Go.Proofs.Ythmkenkjfmbkiaa.VM
namespace Go.Proofs.Ythmkenkjfmbkiaa.VM
attribute [local irreducible] Af Nx EvO Ev Un Gd Cd EvR EvQ EvC Nc Gc Lp EvM NxM AfM GdM EvMR EvMQ EvMD EvMC Nm Gm
section
variable {P : Program}
theorem mpOk.eight {nodes : Int} {m : Mp} (h : mpOk nodes m) : mpOk 8 m := by
  obtain ⟨p1, p2, p3, p4, p5, p6, p7, p8, p9⟩ := h
  exact ⟨by omega, by omega, p3, p4, p5, p6, p7, p8, fun i hi => let ⟨a, b, c, d⟩ := p9 i hi; ⟨a, b, c, by omega⟩⟩
end
end Go.Proofs.Ythmkenkjfmbkiaa.VM
namespace Go.Proofs.Ythmkenkjfmbkiaa.VM
theorem ins_getD {l : List Int} {i : Nat} {x : Int} (h : i < l.length) (j : Nat) : (ins l (i + 1) x).getD j 0 = if j ≤ i then l.getD j 0 else if j = i + 1 then x else l.getD (j - 1) 0 := by
  have hl : (l.take (i + 1)).length = i + 1 := by rw [List.length_take]; omega
  unfold ins
  rw [List.getD_eq_getElem?_getD]
  by_cases h1 : j ≤ i
  · rw [if_pos h1, List.getElem?_append_left (by omega), List.getElem?_take_of_lt (by omega), List.getD_eq_getElem?_getD]
  · rw [if_neg h1, List.getElem?_append_right (by omega), hl]
    by_cases h2 : j = i + 1
    · rw [if_pos h2, h2, Nat.sub_self]; rfl
    · rw [if_neg h2, show j - (i + 1) = (j - 1 - (i + 1)) + 1 by omega, List.getElem?_cons_succ, List.getElem?_drop, List.getD_eq_getElem?_getD, show i + 1 + (j - 1 - (i + 1)) = j - 1 by omega]
end Go.Proofs.Ythmkenkjfmbkiaa.VM
namespace Go.Proofs.Ythmkenkjfmbkiaa.VM
attribute [local irreducible] Af Nx EvO Ev Un Gd Cd EvR EvQ EvC Nc Gc Lp EvM NxM AfM GdM EvMR EvMQ EvMD EvMC Nm Gm
/-- a struct handed over -/
theorem open_agg {w : World} {v : Value} {avs : List AV} (h : VRs none0 w avs v.cells.toList) (hl : avs.length ≠ 1) : VR none0 w (.agg avs) v := by
  cases v with
  | agg cs => exact .agg h
  | _ => exact absurd h.length hl
theorem wMap {c : List AV} (h : Ws [.int .i64, .sl 8 [.int .i64], .sl 8 [.int .i64]] c) : ∃ (m : Mp) (v u : AV), c = [.int .i64 m.epoch, v, u] ∧ IsL 8 RInt v m.starts ∧ IsL 8 RInt u m.owners ∧ I64 m.epoch := by
  cases h with | cons h1 t => cases t with | cons h2 t => cases t with | cons h3 t =>
    cases t; cases h1 with | int _ n1 w1 =>
      obtain ⟨l7, e7⟩ := h2.isL wInt
      obtain ⟨l8, e8⟩ := h3.isL wInt
      exact ⟨⟨n1, l7, l8⟩, _, _, rfl, e7, e8, i64_wf w1⟩
theorem setI_getD {l : List Int} {n j : Nat} {d : Int} (h : j < l.length) : (l.set n d).getD j 0 = if j = n then d else l.getD j 0 := by
  rw [List.getD_eq_getElem?_getD, List.getElem?_set, List.getD_eq_getElem?_getD]
  by_cases e : n = j
  · rw [if_pos e, if_pos e.symm, if_pos (by omega)]; rfl
  · rw [if_neg e, if_neg (Ne.symm e)]
end Go.Proofs.Ythmkenkjfmbkiaa.VM
namespace Go.Proofs.Ythmkenkjfmbkiaa.VM
attribute [local irreducible] Af Nx EvO Ev Un Gd Cd EvR EvQ EvC Nc Gc Lp EvM NxM AfM GdM EvMR EvMQ EvMD EvMC Nm Gm
theorem mpOk.i64 {m : Mp} (ok : mpOk 8 m) : (∀ y ∈ m.starts, I64 y) ∧ (∀ y ∈ m.owners, I64 y) := by
  have rise := ok.rise
  obtain ⟨p1, p2, p3, p4, p5, p6, p7, p8, p9⟩ := ok
  have gi : ∀ {l : List Int} {y : Int}, y ∈ l → ∃ i, i < l.length ∧ l.getD i 0 = y := fun {l y} hy => by
    obtain ⟨i, hi, e⟩ := List.getElem_of_mem hy
    exact ⟨i, hi, by rw [List.getD_eq_getElem?_getD, List.getElem?_eq_getElem hi]; exact e⟩
  constructor
  · intro y hy
    obtain ⟨i, hi, rfl⟩ := gi hy
    have h1 := (p9 i hi).1
    have h2 : 0 ≤ m.starts.getD i 0 := by
      rcases Nat.eq_zero_or_pos i with h | h
      · rw [h, p8]; exact Int.le_refl _
      · have := rise.lt h hi
        rw [p8] at this; omega
    exact ⟨by omega, by omega⟩
  · intro y hy
    obtain ⟨i, hi, rfl⟩ := gi hy
    have h1 := (p9 i (by omega)).2.2
    exact ⟨by omega, by omega⟩
end Go.Proofs.Ythmkenkjfmbkiaa.VM
