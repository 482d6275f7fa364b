/- Part of a proof: what stands for the program, and its walk. No condition. -/
import Derived.Below
import Derived.ChangeArms
import Derived.ChangeMaps5
import Derived.KernelRfl
import Derived.Laws.Cells
import Derived.Laws.IdiomCopy
import Derived.MapKept
import Derived.Orders
import Derived.SizedLaws
import Derived.WalkKit
import Derived.WalkLawsBesides
import GoSem.Claim
import Derived.Test.YtinonmcnofjeeaaL16Msgc
set_option linter.unusedSimpArgs false
set_option linter.unusedVariables false
set_option linter.defProp false
set_option maxHeartbeats 1000000
namespace Go.Proofs.Ytinonmcnofjeeaa.VM
attribute [local irreducible] Af Nx EvO Ev Un Gd Cd EvR EvQ EvC Nc Gc Lp EvM NxM AfM GdM EvMR EvMQ EvMD EvMC Nm Gm
section
variable {P : Program}
theorem nameMay_pu (g : Pg P tab) (a b : Int) : Pu P 84 [.agg [.int .i64 a, .int .i64 b]] (fun v => v = .bool (decide (0 ≤ a ∧ a < 8 ∧ 1 ≤ b ∧ b ≤ 65535))) := by
  refine g.pu (vf := v84) rfl rfl ?_
  simp +contextual (maxSteps := 2000000) (disch := omega) only [v84, RX, VOp.fresh, bxC, bsC, un, most, callsOf, seval, Int.reducePow, ↓reduceIte, Nat.reduceEqDiff, reduceCtorEq]
theorem baseMay_pu (g : Pg P tab) (a : Int) : Pu P 86 [.int .i64 a] (fun v => v = .bool (decide (-1 ≤ a ∧ a ≤ 65535))) := by
  refine g.pu (vf := v86) rfl rfl ?_
  simp +contextual (maxSteps := 2000000) (disch := omega) only [v86, RX, VOp.fresh, bxC, bsC, un, most, callsOf, seval, Int.reducePow, ↓reduceIte, Nat.reduceEqDiff, reduceCtorEq]
def coordOk (x : Int) : Prop := 0 ≤ x ∧ x ≤ 4294967295
instance (x : Int) : Decidable (coordOk x) := by unfold coordOk; infer_instance
def ptOk (p : Pt) : Prop := coordOk p.x ∧ coordOk p.y
instance (p : Pt) : Decidable (ptOk p) := by unfold ptOk; infer_instance
theorem coord_pu (g : Pg P tab) (a : Int) : Pu P 122 [.int .i64 a] (fun v => v = .bool (decide (coordOk a))) := by
  refine g.pu (vf := v122) rfl rfl ?_
  simp +contextual (maxSteps := 2000000) (disch := omega) only [v122, coordOk, RX, VOp.fresh, bxC, bsC, un, most, callsOf, seval, Int.reducePow, ↓reduceIte, Nat.reduceEqDiff, reduceCtorEq]
theorem pointMay_pu (g : Pg P tab) (p : Pt) : Pu P 126 [.agg [.int .i64 p.x, .int .i64 p.y]] (fun v => v = .bool (decide (ptOk p))) := by
  refine g.pu (vf := v126) rfl rfl ?_
  simp +contextual (maxSteps := 2000000) (disch := omega) only [v126, RX, VOp.fresh, bxC, bsC, un, most, callsOf, seval, Int.reducePow, ↓reduceIte, Nat.reduceEqDiff, reduceCtorEq]
  refine (coord_pu g _).go rfl ?_
  rintro v rfl
  simp +contextual (maxSteps := 2000000) (disch := omega) only [RX, VOp.fresh, bxC, bsC, un, most, callsOf, seval, Int.reducePow, ↓reduceIte, Nat.reduceEqDiff, reduceCtorEq]
  refine ⟨fun h1 => ?_, fun h1 => ?_⟩
  · refine (coord_pu g _).go rfl ?_
    rintro v rfl
    simp +contextual (maxSteps := 2000000) (disch := omega) only [h1, ptOk, RX, VOp.fresh, bxC, bsC, un, most, callsOf, seval, Int.reducePow, ↓reduceIte, Nat.reduceEqDiff, reduceCtorEq]
  · simp +contextual (maxSteps := 2000000) (disch := omega) only [h1, ptOk, RX, VOp.fresh, bxC, bsC, un, most, callsOf, seval, Int.reducePow, ↓reduceIte, Nat.reduceEqDiff, reduceCtorEq]
def mpZero (m : Mp) : Prop := m.epoch = 0 ∧ m.starts = [] ∧ m.owners = []
theorem len0 {α : Type} {l : List α} : ((l.length : Int) = 0) = (l = []) := by
  rw [eq_iff_iff]; cases l <;> simp <;> omega
theorem noMap_pu (g : Pg P tab) {m : Mp} {v u : AV} (hv : IsL 8 RInt v m.starts) (hu : IsL 8 RInt u m.owners) (r : List AV) : Pu P 88 [.rp (.int .i64 m.epoch :: v :: u :: r)] (IsB (mpZero m)) := by
  refine g.pu (vf := v88) rfl rfl ?_
  simp +contextual (maxSteps := 2000000) (disch := omega) only [v88, hv.len, hu.len, mpZero, len0, RX, VOp.fresh, bxC, bsC, un, most, callsOf, seval, Int.reducePow, ↓reduceIte, Nat.reduceEqDiff, reduceCtorEq]
def ftZero (f : Feat) : Prop := f.id = 0 ∧ f.shape = 0 ∧ f.rings = []
theorem noFeature_pu (g : Pg P tab) {f : Feat} {v : AV} (hv : IsL 24 RRing v f.rings) (r : List AV) : Pu P 120 [.rp (.int .i64 f.id :: .int .i64 f.shape :: v :: r)] (IsB (ftZero f)) := by
  refine g.pu (vf := v120) rfl rfl ?_
  simp +contextual (maxSteps := 2000000) (disch := omega) only [v120, hv.len, ftZero, len0, RX, VOp.fresh, bxC, bsC, un, most, callsOf, seval, Int.reducePow, ↓reduceIte, Nat.reduceEqDiff, reduceCtorEq]
def mpAt (nodes : Int) (m : Mp) (i : Nat) : Prop := m.starts.getD i 0 < 4294967296 ∧ (i = 0 ∨ m.starts.getD (i - 1) 0 < m.starts.getD i 0) ∧ 0 ≤ m.owners.getD i 0 ∧ m.owners.getD i 0 < nodes
def mpOk (nodes : Int) (m : Mp) : Prop := 1 ≤ nodes ∧ nodes ≤ 8 ∧ 1 ≤ m.epoch ∧ m.epoch ≤ 65535 ∧ 1 ≤ m.starts.length ∧ m.starts.length ≤ 32 ∧ m.owners.length = m.starts.length ∧ m.starts.getD 0 0 = 0 ∧ ∀ i, i < m.starts.length → mpAt nodes m i
theorem getInt {v : AV} {l : List Int} (h : IsL 8 RInt v l) (i : Nat) (hi : i < l.length) : ∃ r, AV.tolds r = true ∧ ∀ (hh : Heap) (kk : IntKind), iaV hh 1 none v (.int kk (i : Int)) = .val (.rp (.int .i64 (l.getD i 0) :: r)) hh := by
  obtain ⟨ci, r, ⟨e, _⟩, ht, hia⟩ := h.get zInt tInt i hi
  have : l.getD i 0 = l[i] := by simp [List.getD_eq_getElem?_getD, List.getElem?_eq_getElem hi]
  refine ⟨r, ?_, fun hh kk => ?_⟩
  · rw [e] at ht; exact ht
  · rw [hia, e, this]; rfl
theorem mapMay_loop (g : Pg P tab) {nodes : Int} {m : Mp} {v u : AV} (hv : IsL 8 RInt v m.starts) (hu : IsL 8 RInt u m.owners) (hl : m.owners.length = m.starts.length) (hh : Heap) {e : TypeId} {ver : Nat} (hg : hh.get 0 = some (.cells [.int .i64 m.epoch, v, u] e ver)) (n : Nat) :
    ∀ (i : Nat) (s : T AV) (k : List Fr) (Q : Ex → T AV → Heap → Prop), i + n = m.starts.length → sg s 1 = .int .i64 nodes → sg s 2 = .ptr 0 0 → sg s 52 = v → sg s 53 = .int .i64 m.starts.length → sg s 54 = .int .i64 i →
      ((∀ j, i ≤ j → j < m.starts.length → mpAt nodes m j) → ∀ s', Un P k Q (.exit 0) s' hh) → ((¬ ∀ j, i ≤ j → j < m.starts.length → mpAt nodes m j) → ∀ s', sg s' 4 = .bool false → Un P k Q .ret s' hh) → Lp P b85_0 s hh (Un P k Q) := by
  have hb := hv.bound (by decide)
  induction n with
  | zero =>
    intro i s k Q hi h1 h2 h52 h53 h54 hK hR
    refine g.lpe b85_0.eq_1 ?_
    have c1 : ¬ ((i : Int) < (m.starts.length : Int)) := by omega
    simp only [h54, h53, c1, RX, VOp.fresh, bxC, bsC, un, most, callsOf, seval, Int.reducePow, ↓reduceIte, Nat.reduceEqDiff, reduceCtorEq]
    exact hK (fun j h1 h2 => by omega) _
  | succ n ih =>
    intro i s k Q hi h1 h2 h52 h53 h54 hK hR
    refine g.lpe b85_0.eq_1 ?_
    have c1 : (i : Int) < (m.starts.length : Int) := by omega
    obtain ⟨r1, _, g1⟩ := getInt hv i (by omega)
    obtain ⟨r2, _, g2⟩ := getInt hu i (by omega)
    have w1 : IntKind.i64.wrap ((i : Int) + 1) = ((i + 1 : Nat) : Int) := by rw [w64 (by omega) (by omega)]; push_cast; rfl
    have next : mpAt nodes m i → ∀ s' : T AV, sg s' 1 = .int .i64 nodes → sg s' 2 = .ptr 0 0 → sg s' 52 = v → sg s' 53 = .int .i64 m.starts.length → sg s' 54 = .int .i64 ((i + 1 : Nat) : Int) → Lp P b85_0 s' hh (Un P k Q) := by
      intro hok s' a1 a2 a3 a4 a5
      refine ih (i + 1) s' k Q (by omega) a1 a2 a3 a4 a5 (fun hall => hK fun j h1 h2 => ?_) (fun hn => hR fun hall => hn fun j h1 h2 => hall j (by omega) h2)
      rcases Nat.lt_or_ge i j with h | h
      · exact hall j h h2
      · have : j = i := by omega
        subst this; exact hok
    have stop : ¬ mpAt nodes m i → ∀ s' : T AV, sg s' 4 = .bool false → Un P k Q .ret s' hh := fun hn => hR fun hall => hn (hall i (Nat.le_refl _) (by omega))
    by_cases hi0 : i = 0
    · have c2 : ¬ ((0 : Int) < (i : Int)) := by omega
      simp +contextual (maxSteps := 2000000) only [h1, h2, h52, h53, h54, c1, g1, g2, hg, w1, c2, RX, VOp.fresh, bxC, bsC, un, most, callsOf, seval, Int.reducePow, ↓reduceIte, Nat.reduceEqDiff, reduceCtorEq]
      repeat' (first | apply And.intro | intro _)
      all_goals first
        | (refine next ⟨by omega, by omega, by omega, by omega⟩ _ ?_ ?_ ?_ ?_ ?_ <;> simp only [h1, h2, h52, h53, sg_set, Nat.reduceEqDiff, ↓reduceIte]; done)
        | (refine stop (fun hok => ?_) _ (by simp only [sg_set, Nat.reduceEqDiff, ↓reduceIte]); obtain ⟨a1, a2, a3, a4⟩ := hok; omega)
    · have c2 : (0 : Int) < (i : Int) := by omega
      obtain ⟨r3, _, g3⟩ := getInt hv (i - 1) (by omega)
      have w2 : IntKind.i64.wrap ((i : Int) - 1) = ((i - 1 : Nat) : Int) := by rw [w64 (by omega) (by omega)]; omega
      simp +contextual (maxSteps := 2000000) only [h1, h2, h52, h53, h54, c1, g1, g2, g3, hg, w1, w2, c2, RX, VOp.fresh, bxC, bsC, un, most, callsOf, seval, Int.reducePow, ↓reduceIte, Nat.reduceEqDiff, reduceCtorEq]
      repeat' (first | apply And.intro | intro _)
      all_goals first
        | (refine next ⟨by omega, by omega, by omega, by omega⟩ _ ?_ ?_ ?_ ?_ ?_ <;> simp only [h1, h2, h52, h53, sg_set, Nat.reduceEqDiff, ↓reduceIte]; done)
        | (refine stop (fun hok => ?_) _ (by simp only [sg_set, Nat.reduceEqDiff, ↓reduceIte]); obtain ⟨a1, a2, a3, a4⟩ := hok; omega)
theorem mapMay_pu (g : Pg P tab) {nodes : Int} {m : Mp} {v u : AV} (hv : IsL 8 RInt v m.starts) (hu : IsL 8 RInt u m.owners) : Pu P 85 [.agg [.int .i64 m.epoch, v, u], .int .i64 nodes] (IsB (mpOk nodes m)) := by
  refine g.pu (vf := v85) rfl rfl ?_
  have hb := hv.bound (by decide)
  by_cases h0 : 0 < m.starts.length
  · obtain ⟨r1, _, g1⟩ := getInt hv 0 h0
    simp only [Int.natCast_zero, Int.ofNat_zero, Int.ofNat_eq_natCast] at g1
    simp +contextual (maxSteps := 2000000) only [v85, hv.len, hu.len, g1, RX, VOp.fresh, bxC, bsC, un, most, callsOf, seval, Int.reducePow, ↓reduceIte, Nat.reduceEqDiff, reduceCtorEq]
    repeat' (first | apply And.intro | intro _)
    all_goals first
      | (rename_i hok; unfold mpOk at hok; omega)
      | skip
    refine mapMay_loop (nodes := nodes) g hv hu (by omega) _ (e := 26) (ver := 0) ?_ m.starts.length 0 _ _ _ (by omega) ?_ ?_ ?_ ?_ ?_ ?_ ?_
    · rw [Heap.get_mk, if_pos rfl]
    · simp only [sg_set, Nat.reduceEqDiff, ↓reduceIte]
    · simp only [sg_set, Nat.reduceEqDiff, ↓reduceIte]
    · simp only [sg_set, Nat.reduceEqDiff, ↓reduceIte]
    · simp only [sg_set, Nat.reduceEqDiff, ↓reduceIte]
    · simp only [sg_set, Nat.reduceEqDiff, ↓reduceIte]
      rfl
    · intro hall s'
      simp +contextual (maxSteps := 2000000) only [RX, VOp.fresh, bxC, bsC, un, most, callsOf, seval, Int.reducePow, ↓reduceIte, Nat.reduceEqDiff, reduceCtorEq]
      unfold mpOk
      exact ⟨by omega, by omega, by omega, by omega, by omega, by omega, by omega, by omega, fun i hi => hall i (by omega) hi⟩
    · intro hn s' h4
      simp +contextual (maxSteps := 2000000) only [h4, RX, VOp.fresh, bxC, bsC, un, most, callsOf, seval, Int.reducePow, ↓reduceIte, Nat.reduceEqDiff, reduceCtorEq]
      intro hok
      exact hn fun j _ hj => hok.2.2.2.2.2.2.2.2 j hj
  · have e0 : m.starts.length = 0 := by omega
    have c1 : ((m.starts.length : Int) < 1) := by omega
    simp +contextual (maxSteps := 2000000) only [v85, hv.len, hu.len, c1, RX, VOp.fresh, bxC, bsC, un, most, callsOf, seval, Int.reducePow, ↓reduceIte, Nat.reduceEqDiff, reduceCtorEq]
    repeat' (first | apply And.intro | intro _)
    all_goals (rename_i hok; unfold mpOk at hok; omega)
def nxt (n i : Nat) : Nat := if i + 1 = n then 0 else i + 1
def ringAt (closed : Bool) (r : List Pt) (i : Nat) : Prop := ptOk (r.getD i ⟨0, 0⟩) ∧ ((0 < nxt r.length i ∨ closed = true) → r.getD i ⟨0, 0⟩ ≠ r.getD (nxt r.length i) ⟨0, 0⟩)
def ringOk (least : Int) (closed : Bool) (r : List Pt) : Prop := least ≤ r.length ∧ r.length ≤ 16 ∧ ∀ i, i < r.length → ringAt closed r i
theorem getPt {v : AV} {l : List Pt} (h : IsL 16 RPt v l) (i : Nat) (hi : i < l.length) : ∃ r, AV.tolds r = true ∧ ∀ (hh : Heap) (kk : IntKind), iaV hh 2 none v (.int kk (i : Int)) = .val (.rp (.int .i64 (l.getD i ⟨0, 0⟩).x :: .int .i64 (l.getD i ⟨0, 0⟩).y :: r)) hh := by
  obtain ⟨ci, r, ⟨e, _⟩, ht, hia⟩ := h.get zPt tPt i hi
  have : l.getD i ⟨0, 0⟩ = l[i] := by simp [List.getD_eq_getElem?_getD, List.getElem?_eq_getElem hi]
  refine ⟨r, ?_, fun hh kk => ?_⟩
  · rw [e] at ht; exact ht
  · rw [hia, e, this]; rfl
theorem flat2 {a b c d : Int} : eqv (.flat [.int, .int]) (.agg [.int .i64 a, .int .i64 b]) (.agg [.int .i64 c, .int .i64 d]) = some (decide (a = c ∧ b = d)) := by
  simp only [eqv, List.length_cons, List.length_nil, and_self, if_true, sameCells, sameK]
  by_cases h : a = c <;> by_cases h' : b = d <;> simp [h, h', sameCells, sameK]
theorem pt_eq {p q : Pt} : (p.x = q.x ∧ p.y = q.y) = (p = q) := by
  rw [eq_iff_iff]; constructor
  · intro h; cases p; cases q; simp_all
  · rintro rfl; exact ⟨rfl, rfl⟩
theorem ring_loop (g : Pg P tab) {least : Int} {closed : Bool} {r : List Pt} {v : AV} (hv : IsL 16 RPt v r) (hr : r.length ≤ 16) (n : Nat) :
    ∀ (i : Nat) (s : T AV) (hh : Heap) (k : List Fr) (Q : Ex → T AV → Heap → Prop), i + n = r.length → sg s 0 = v → sg s 2 = .bool closed → sg s 19 = v → sg s 20 = .int .i64 r.length → sg s 21 = .int .i64 i →
      ((∀ j, i ≤ j → j < r.length → ringAt closed r j) → ∀ s' h', Un P k Q (.exit 0) s' h') → ((¬ ∀ j, i ≤ j → j < r.length → ringAt closed r j) → ∀ s' h', sg s' 6 = .bool false → Un P k Q .ret s' h') → Lp P b127_0 s hh (Un P k Q) := by
  induction n with
  | zero =>
    intro i s hh k Q hi h0 h2 h19 h20 h21 hK hR
    refine g.lpe b127_0.eq_1 ?_
    have c1 : ¬ ((i : Int) < (r.length : Int)) := by omega
    simp only [h21, h20, c1, RX, VOp.fresh, bxC, bsC, un, most, callsOf, seval, Int.reducePow, ↓reduceIte, Nat.reduceEqDiff, reduceCtorEq]
    exact hK (fun j h1 h2 => by omega) _ _
  | succ n ih =>
    intro i s hh k Q hi h0 h2 h19 h20 h21 hK hR
    refine g.lpe b127_0.eq_1 ?_
    have c1 : (i : Int) < (r.length : Int) := by omega
    obtain ⟨r1, _, g1⟩ := getPt hv i (by omega)
    have w1 : IntKind.i64.wrap ((i : Int) + 1) = ((i + 1 : Nat) : Int) := by rw [w64 (by omega) (by omega)]; push_cast; rfl
    have next : ringAt closed r i → ∀ (s' : T AV) (h' : Heap), sg s' 0 = v → sg s' 2 = .bool closed → sg s' 19 = v → sg s' 20 = .int .i64 r.length → sg s' 21 = .int .i64 ((i + 1 : Nat) : Int) → Lp P b127_0 s' h' (Un P k Q) := by
      intro hok s' h' a1 a2 a3 a4 a5
      refine ih (i + 1) s' h' k Q (by omega) a1 a2 a3 a4 a5 (fun hall => hK fun j h1 h2 => ?_) (fun hn => hR fun hall => hn fun j h1 h2 => hall j (by omega) h2)
      rcases Nat.lt_or_ge i j with h | h
      · exact hall j h h2
      · have : j = i := by omega
        subst this; exact hok
    have stop : ¬ ringAt closed r i → ∀ (s' : T AV) (h' : Heap), sg s' 6 = .bool false → Un P k Q .ret s' h' := fun hn => hR fun hall => hn (hall i (Nat.le_refl _) (by omega))
    have hpt := pointMay_pu g (r.getD i ⟨0, 0⟩)
    have hn : nxt r.length i = if i + 1 = r.length then 0 else i + 1 := rfl
    by_cases hl : i + 1 = r.length
    · have c2 : ((i + 1 : Nat) : Int) = (r.length : Int) := by omega
      rw [if_pos hl] at hn
      obtain ⟨r2, _, g2⟩ := getPt hv 0 (by omega)
      simp only [Int.natCast_zero, Int.ofNat_zero, Int.ofNat_eq_natCast] at g2
      simp +contextual (maxSteps := 2000000) only [RW, Bool.and_self, h0, h2, h19, h20, h21, c1, g1, hv.len, w1, c2, RX, VOp.fresh, bxC, bsC, un, most, callsOf, seval, Int.reducePow, ↓reduceIte, Nat.reduceEqDiff, reduceCtorEq]
      refine hpt.go rfl ?_
      rintro x rfl
      cases closed
      all_goals simp +contextual (maxSteps := 2000000) only [RW, Bool.and_self, h0, h2, h19, h20, h21, g2, w1, flat2, pt_eq, RX, VOp.fresh, bxC, bsC, un, most, callsOf, seval, Int.reducePow, ↓reduceIte, Nat.reduceEqDiff, reduceCtorEq]
      all_goals repeat' (first | apply And.intro | intro _)
      all_goals first
        | (refine next ⟨by assumption, ?_⟩ _ _ ?_ ?_ ?_ ?_ ?_ <;> first | (simp only [h0, h2, h19, h20, sg_set, Nat.reduceEqDiff, ↓reduceIte]; done) | (rw [hn]; simp_all; done))
        | (refine stop ?_ _ _ ?_ <;> first | (simp only [sg_set, Nat.reduceEqDiff, ↓reduceIte]; done) | (rintro ⟨a1, a2⟩; rw [hn] at a2; simp_all; done))
        | trace_state
    · have c2 : ¬ ((i + 1 : Nat) : Int) = (r.length : Int) := by omega
      rw [if_neg hl] at hn
      obtain ⟨r2, _, g2⟩ := getPt hv (i + 1) (by omega)
      have c3 : (0 : Int) < ((i + 1 : Nat) : Int) := by omega
      simp +contextual (maxSteps := 2000000) only [RW, Bool.and_self, h0, h2, h19, h20, h21, c1, g1, hv.len, w1, c2, RX, VOp.fresh, bxC, bsC, un, most, callsOf, seval, Int.reducePow, ↓reduceIte, Nat.reduceEqDiff, reduceCtorEq]
      refine hpt.go rfl ?_
      rintro x rfl
      cases closed
      all_goals simp +contextual (maxSteps := 2000000) only [RW, Bool.and_self, h0, h2, h19, h20, h21, g2, w1, flat2, pt_eq, c3, RX, VOp.fresh, bxC, bsC, un, most, callsOf, seval, Int.reducePow, ↓reduceIte, Nat.reduceEqDiff, reduceCtorEq]
      all_goals repeat' (first | apply And.intro | intro _)
      all_goals first
        | (refine next ⟨by assumption, ?_⟩ _ _ ?_ ?_ ?_ ?_ ?_ <;> first | (simp only [h0, h2, h19, h20, sg_set, Nat.reduceEqDiff, ↓reduceIte]; done) | (rw [hn]; simp_all; done))
        | (refine stop ?_ _ _ ?_ <;> first | (simp only [sg_set, Nat.reduceEqDiff, ↓reduceIte]; done) | (rintro ⟨a1, a2⟩; rw [hn] at a2; simp_all; done))
        | trace_state
theorem ring_pu (g : Pg P tab) {least : Int} {closed : Bool} {r : List Pt} {v : AV} (hv : IsL 16 RPt v r) : Pu P 127 [v, .int .i64 least, .bool closed] (IsB (ringOk least closed r)) := by
  refine g.pu (vf := v127) rfl rfl ?_
  simp +contextual (maxSteps := 2000000) only [v127, hv.len, RX, VOp.fresh, bxC, bsC, un, most, callsOf, seval, Int.reducePow, ↓reduceIte, Nat.reduceEqDiff, reduceCtorEq]
  repeat' (first | apply And.intro | intro _)
  all_goals first
    | (rename_i hok; unfold ringOk at hok; omega)
    | skip
  refine ring_loop g hv (least := least) (closed := closed) (by omega) r.length 0 _ _ _ _ (by omega) ?_ ?_ ?_ ?_ ?_ ?_ ?_
  · simp only [sg_set, Nat.reduceEqDiff, ↓reduceIte]
  · simp only [sg_set, Nat.reduceEqDiff, ↓reduceIte]
  · simp only [sg_set, Nat.reduceEqDiff, ↓reduceIte]
  · simp only [sg_set, Nat.reduceEqDiff, ↓reduceIte]
  · simp only [sg_set, Nat.reduceEqDiff, ↓reduceIte]
    rfl
  · intro hall s' h'
    simp +contextual (maxSteps := 2000000) only [RX, VOp.fresh, bxC, bsC, un, most, callsOf, seval, Int.reducePow, ↓reduceIte, Nat.reduceEqDiff, reduceCtorEq]
    exact ⟨by omega, by omega, fun i hi => hall i (by omega) hi⟩
  · intro hn s' h' h4
    simp +contextual (maxSteps := 2000000) only [h4, RX, VOp.fresh, bxC, bsC, un, most, callsOf, seval, Int.reducePow, ↓reduceIte, Nat.reduceEqDiff, reduceCtorEq]
    intro hok
    exact hn fun j _ hj => hok.2.2 j hj
theorem getRing {v : AV} {l : List (List Pt)} (h : IsL 24 RRing v l) (i : Nat) (hi : i < l.length) : ∃ rv r, IsL 16 RPt rv (l.getD i []) ∧ AV.tolds r = true ∧ ∀ (hh : Heap) (kk : IntKind), iaV hh 1 none v (.int kk (i : Int)) = .val (.rp (rv :: r)) hh := by
  obtain ⟨ci, r, ⟨rv, e, hr⟩, ht, hia⟩ := h.get zRing tRing i hi
  have : l.getD i [] = l[i] := by simp [List.getD_eq_getElem?_getD, List.getElem?_eq_getElem hi]
  refine ⟨rv, r, by rw [this]; exact hr, ?_, fun hh kk => ?_⟩
  · rw [e] at ht
    simp only [AV.tolds, List.cons_append, List.nil_append, Bool.and_eq_true] at ht
    exact ht.2
  · rw [hia, e]; rfl
theorem tolds1 {b : Nat} {α : Type} {R : α → List AV → Prop} {v : AV} {l : List α} (h : IsL b R v l) (ht : ∀ a c, R a c → AV.tolds c = true) : AV.tolds [v] = true := by
  simp [AV.tolds, h.told ht]
theorem mayRing_pu (g : Pg P tab) {r : List Pt} {v : AV} (hv : IsL 16 RPt v r) : Pu P 129 [v] (IsB (¬ ringOk 3 true r)) := by
  refine g.pu (vf := v129) rfl rfl ?_
  simp +contextual (maxSteps := 2000000) only [v129, RX, VOp.fresh, bxC, bsC, un, most, callsOf, seval, Int.reducePow, ↓reduceIte, Nat.reduceEqDiff, reduceCtorEq]
  refine (ring_pu g hv).go (by simp [AV.tolds, AV.told, hv.told tPt]) ?_
  rintro x ⟨b, rfl, hb⟩
  cases b <;> simp +contextual (maxSteps := 2000000) only [RX, VOp.fresh, bxC, bsC, un, most, callsOf, seval, Int.reducePow, ↓reduceIte, Nat.reduceEqDiff, reduceCtorEq] <;> simpa using hb
theorem indexFunc_loop (g : Pg P tab) {l : List (List Pt)} {v : AV} (hv : IsL 24 RRing v l) (n : Nat) :
    ∀ (i : Nat) (s : T AV) (hh : Heap) (k : List Fr) (Q : Ex → T AV → Heap → Prop), i + n = l.length → sg s 0 = v → sg s 1 = .fn 129 [] → sg s 7 = .int .i64 l.length → sg s 8 = .int .i64 i →
      ((∀ j, i ≤ j → j < l.length → ringOk 3 true (l.getD j [])) → ∀ s', Un P k Q (.exit 0) s' hh) → (∀ j, i ≤ j → j < l.length → ¬ ringOk 3 true (l.getD j []) → ∀ s', sg s' 4 = .int .i64 j → Un P k Q .ret s' hh) → Lp P b130_0 s hh (Un P k Q) := by
  have hb := hv.bound (by decide)
  induction n with
  | zero =>
    intro i s hh k Q hi h0 h1 h7 h8 hK hR
    refine g.lpe b130_0.eq_1 ?_
    have c1 : ¬ ((i : Int) < (l.length : Int)) := by omega
    simp only [h7, h8, c1, RX, VOp.fresh, bxC, bsC, un, most, callsOf, seval, Int.reducePow, ↓reduceIte, Nat.reduceEqDiff, reduceCtorEq]
    exact hK (fun j h1 h2 => by omega) _
  | succ n ih =>
    intro i s hh k Q hi h0 h1 h7 h8 hK hR
    refine g.lpe b130_0.eq_1 ?_
    have c1 : (i : Int) < (l.length : Int) := by omega
    obtain ⟨rv, r1, hrv, _, g1⟩ := getRing hv i (by omega)
    have w1 : IntKind.i64.wrap ((i : Int) + 1) = ((i + 1 : Nat) : Int) := by rw [w64 (by omega) (by omega)]; push_cast; rfl
    simp only [h0, h1, h7, h8, c1, g1, RX, VOp.fresh, bxC, bsC, un, most, callsOf, seval, Int.reducePow, ↓reduceIte, Nat.reduceEqDiff, reduceCtorEq]
    refine (mayRing_pu g hrv).go (tolds1 hrv tPt) ?_
    rintro x ⟨b, rfl, hbb⟩
    cases b
    · simp only [h8, w1, RX, VOp.fresh, bxC, bsC, un, most, callsOf, seval, Int.reducePow, ↓reduceIte, Nat.reduceEqDiff, reduceCtorEq]
      have hok : ringOk 3 true (l.getD i []) := by
        apply Classical.byContradiction
        intro hn
        exact absurd (hbb.2 hn) (by simp)
      refine ih (i + 1) _ hh k Q (by omega) ?_ ?_ ?_ ?_ (fun hall => hK fun j h1 h2 => ?_) (fun j h1 h2 => hR j (by omega) h2)
      · simp only [h0, sg_set, Nat.reduceEqDiff, ↓reduceIte]
      · simp only [h1, sg_set, Nat.reduceEqDiff, ↓reduceIte]
      · simp only [h7, sg_set, Nat.reduceEqDiff, ↓reduceIte]
      · simp only [sg_set, Nat.reduceEqDiff, ↓reduceIte]
      · rcases Nat.lt_or_ge i j with h | h
        · exact hall j h h2
        · have : j = i := by omega
          subst this; exact hok
    · simp only [h8, RX, VOp.fresh, bxC, bsC, un, most, callsOf, seval, Int.reducePow, ↓reduceIte, Nat.reduceEqDiff, reduceCtorEq]
      exact hR i (Nat.le_refl _) (by omega) (hbb.1 rfl) _ (by simp only [sg_set, Nat.reduceEqDiff, ↓reduceIte])
theorem indexFunc_pu (g : Pg P tab) {l : List (List Pt)} {v : AV} (hv : IsL 24 RRing v l) : Pu P 130 [v, .fn 129 []] (fun x => ∃ n : Int, x = .int .i64 n ∧ (0 ≤ n ↔ ¬ ∀ i, i < l.length → ringOk 3 true (l.getD i []))) := by
  refine g.pu (vf := v130) rfl rfl ?_
  simp only [v130, hv.len, RX, VOp.fresh, bxC, bsC, un, most, callsOf, seval, Int.reducePow, ↓reduceIte, Nat.reduceEqDiff, reduceCtorEq]
  refine indexFunc_loop g hv l.length 0 _ _ _ _ (by omega) ?_ ?_ ?_ ?_ ?_ ?_
  · simp only [sg_set, Nat.reduceEqDiff, ↓reduceIte]
  · simp only [sg_set, Nat.reduceEqDiff, ↓reduceIte]
  · simp only [sg_set, Nat.reduceEqDiff, ↓reduceIte]
  · simp only [sg_set, Nat.reduceEqDiff, ↓reduceIte]
    rfl
  · intro hall s'
    simp only [RX, VOp.fresh, bxC, bsC, un, most, callsOf, seval, Int.reducePow, ↓reduceIte, Nat.reduceEqDiff, reduceCtorEq]
    exact ⟨-1, rfl, by simp; exact fun i hi => hall i (by omega) hi⟩
  · intro j _ hj hn s' h4
    simp only [h4, RX, VOp.fresh, bxC, bsC, un, most, callsOf, seval, Int.reducePow, ↓reduceIte, Nat.reduceEqDiff, reduceCtorEq]
    exact ⟨j, rfl, ⟨fun _ h => hn (h j hj), fun _ => by omega⟩⟩
theorem containsFunc_pu (g : Pg P tab) {l : List (List Pt)} {v : AV} (hv : IsL 24 RRing v l) : Pu P 128 [v, .fn 129 []] (IsB (¬ ∀ i, i < l.length → ringOk 3 true (l.getD i []))) := by
  refine g.pu (vf := v128) rfl rfl ?_
  simp only [v128, RX, VOp.fresh, bxC, bsC, un, most, callsOf, seval, Int.reducePow, ↓reduceIte, Nat.reduceEqDiff, reduceCtorEq]
  refine (indexFunc_pu g hv).go (by simp [AV.tolds, AV.told, hv.told tRing]) ?_
  rintro x ⟨n, rfl, hn⟩
  simp only [RX, VOp.fresh, bxC, bsC, un, most, callsOf, seval, Int.reducePow, ↓reduceIte, Nat.reduceEqDiff, reduceCtorEq]
  exact hn
def featOk (f : Feat) : Prop := 1 ≤ f.id ∧ f.id ≤ 65535 ∧ 1 ≤ f.rings.length ∧ f.rings.length ≤ 4 ∧
  ((f.shape = 0 ∧ f.rings.length = 1 ∧ (f.rings.getD 0 []).length = 1 ∧ ptOk ((f.rings.getD 0 []).getD 0 ⟨0, 0⟩)) ∨ (f.shape = 1 ∧ f.rings.length = 1 ∧ ringOk 2 false (f.rings.getD 0 [])) ∨ (f.shape = 2 ∧ ∀ i, i < f.rings.length → ringOk 3 true (f.rings.getD i [])))
theorem shapeMay_pu (g : Pg P tab) {f : Feat} {v : AV} (hv : IsL 24 RRing v f.rings) : Pu P 119 [.agg [.int .i64 f.id, .int .i64 f.shape, v]] (IsB (featOk f)) := by
  refine g.pu (vf := v119) rfl rfl ?_
  have hb := hv.bound (by decide)
  by_cases h0 : 0 < f.rings.length
  · obtain ⟨rv, r1, hrv, t1, g1⟩ := getRing hv 0 h0
    simp only [Int.natCast_zero, Int.ofNat_zero, Int.ofNat_eq_natCast] at g1
    by_cases h1 : 0 < (f.rings.getD 0 []).length
    · obtain ⟨r2, t2, g2⟩ := getPt hrv 0 h1
      simp only [Int.natCast_zero, Int.ofNat_zero, Int.ofNat_eq_natCast] at g2
      simp +contextual (maxSteps := 2000000) only [v119, hv.len, hrv.len, g1, g2, RX, VOp.fresh, bxC, bsC, un, most, callsOf, seval, Int.reducePow, ↓reduceIte, Nat.reduceEqDiff, reduceCtorEq]
      repeat' (first | apply And.intro | intro _)
      all_goals first
        | (rename_i hok; obtain ⟨a1, a2, a3, a4, ⟨b1, b2, b3, b4⟩ | ⟨b1, b2, b3⟩ | ⟨b1, b2⟩⟩ := hok <;> omega)
        | (refine (pointMay_pu g _).go rfl ?_
           rintro x rfl
           simp +contextual (maxSteps := 2000000) only [RX, VOp.fresh, bxC, bsC, un, most, callsOf, seval, Int.reducePow, ↓reduceIte, Nat.reduceEqDiff, reduceCtorEq]
           exact ⟨fun h => ⟨by omega, by omega, by omega, by omega, .inl ⟨by omega, by omega, by omega, h⟩⟩, fun hok => by obtain ⟨a1, a2, a3, a4, ⟨b1, b2, b3, b4⟩ | ⟨b1, b2, b3⟩ | ⟨b1, b2⟩⟩ := hok <;> first | assumption | omega⟩)
        | (refine (ring_pu g hrv).go (by simp [AV.tolds, AV.told, hrv.told tPt]) ?_
           rintro x ⟨b, rfl, hbb⟩
           simp +contextual (maxSteps := 2000000) only [RX, VOp.fresh, bxC, bsC, un, most, callsOf, seval, Int.reducePow, ↓reduceIte, Nat.reduceEqDiff, reduceCtorEq]
           rw [hbb]
           exact ⟨fun h => ⟨by omega, by omega, by omega, by omega, .inr (.inl ⟨by omega, by omega, h⟩)⟩, fun hok => by obtain ⟨a1, a2, a3, a4, ⟨b1, b2, b3, b4⟩ | ⟨b1, b2, b3⟩ | ⟨b1, b2⟩⟩ := hok <;> first | assumption | omega⟩)
        | (refine (containsFunc_pu g hv).go (by simp [AV.tolds, AV.told, hv.told tRing]) ?_
           rintro x ⟨b, rfl, hbb⟩
           cases b <;> simp +contextual (maxSteps := 2000000) only [RX, VOp.fresh, bxC, bsC, un, most, callsOf, seval, Int.reducePow, ↓reduceIte, Nat.reduceEqDiff, reduceCtorEq]
           · exact ⟨by omega, by omega, by omega, by omega, .inr (.inr ⟨by omega, Classical.byContradiction fun hn => absurd (hbb.2 hn) (by simp)⟩)⟩
           · intro hok; obtain ⟨a1, a2, a3, a4, ⟨b1, b2, b3, b4⟩ | ⟨b1, b2, b3⟩ | ⟨b1, b2⟩⟩ := hok <;> first | exact hbb.1 rfl b2 | omega)
        | trace_state
    · have e1 : (f.rings.getD 0 []).length = 0 := by omega
      simp +contextual (maxSteps := 2000000) only [v119, hv.len, hrv.len, g1, e1, RX, VOp.fresh, bxC, bsC, un, most, callsOf, seval, Int.reducePow, ↓reduceIte, Nat.reduceEqDiff, reduceCtorEq]
      repeat' (first | apply And.intro | intro _)
      all_goals first
        | (rename_i hok; obtain ⟨a1, a2, a3, a4, ⟨b1, b2, b3, b4⟩ | ⟨b1, b2, b3⟩ | ⟨b1, b2⟩⟩ := hok <;> omega)
        | (refine (ring_pu g hrv).go (by simp [AV.tolds, AV.told, hrv.told tPt]) ?_
           rintro x ⟨b, rfl, hbb⟩
           simp +contextual (maxSteps := 2000000) only [RX, VOp.fresh, bxC, bsC, un, most, callsOf, seval, Int.reducePow, ↓reduceIte, Nat.reduceEqDiff, reduceCtorEq]
           rw [hbb]
           exact ⟨fun h => ⟨by omega, by omega, by omega, by omega, .inr (.inl ⟨by omega, by omega, h⟩)⟩, fun hok => by obtain ⟨a1, a2, a3, a4, ⟨b1, b2, b3, b4⟩ | ⟨b1, b2, b3⟩ | ⟨b1, b2⟩⟩ := hok <;> first | assumption | omega⟩)
        | (refine (containsFunc_pu g hv).go (by simp [AV.tolds, AV.told, hv.told tRing]) ?_
           rintro x ⟨b, rfl, hbb⟩
           cases b <;> simp +contextual (maxSteps := 2000000) only [RX, VOp.fresh, bxC, bsC, un, most, callsOf, seval, Int.reducePow, ↓reduceIte, Nat.reduceEqDiff, reduceCtorEq]
           · exact ⟨by omega, by omega, by omega, by omega, .inr (.inr ⟨by omega, Classical.byContradiction fun hn => absurd (hbb.2 hn) (by simp)⟩)⟩
           · intro hok; obtain ⟨a1, a2, a3, a4, ⟨b1, b2, b3, b4⟩ | ⟨b1, b2, b3⟩ | ⟨b1, b2⟩⟩ := hok <;> first | exact hbb.1 rfl b2 | omega)
        | trace_state
  · have e0 : f.rings.length = 0 := by omega
    have c1 : (f.rings.length : Int) < 1 := by omega
    simp +contextual (maxSteps := 2000000) only [v119, hv.len, c1, RX, VOp.fresh, bxC, bsC, un, most, callsOf, seval, Int.reducePow, ↓reduceIte, Nat.reduceEqDiff, reduceCtorEq]
    repeat' (first | apply And.intro | intro _)
    all_goals (rename_i hok; obtain ⟨a1, a2, a3, a4, _⟩ := hok; omega)
end
end Go.Proofs.Ytinonmcnofjeeaa.VM
namespace Go.Proofs.Ytinonmcnofjeeaa.VM
attribute [local irreducible] Af Nx EvO Ev Un Gd Cd EvR EvQ EvC Nc Gc Lp EvM NxM AfM GdM EvMR EvMQ EvMD EvMC Nm Gm
def opOk (nodes : Int) (o : Op) : Prop := (o.kind = 0 ∧ featOk o.f ∧ o.id = 0 ∧ mpZero o.m) ∨ (o.kind = 1 ∧ 1 ≤ o.id ∧ o.id ≤ 65535 ∧ ftZero o.f ∧ mpZero o.m) ∨ (o.kind = 2 ∧ mpOk nodes o.m ∧ o.id = 0 ∧ ftZero o.f)
def opId (o : Op) : Int := if o.kind = 0 then o.f.id else o.id
def op0 : Op := ⟨0, ⟨0, 0, []⟩, 0, ⟨0, [], []⟩⟩
section
variable {P : Program}
theorem opMay_pu (g : Pg P tab) {nodes : Int} {o : Op} {c r : List AV} (hc : ROp o c) (hr : AV.tolds r = true) : Pu P 107 [.rp (c ++ r), .int .i64 nodes] (IsB (opOk nodes o)) := by
  refine g.pu (vf := v107) rfl rfl ?_
  obtain ⟨v, a, u, rfl, _, _, _, hv, _, _, ha, hu⟩ := hc
  have tv := hv.told tRing
  have ta := ha.told tInt
  have tu := hu.told tInt
  simp +contextual (maxSteps := 2000000) only [v107, RX, VOp.fresh, bxC, bsC, un, most, callsOf, seval, Int.reducePow, ↓reduceIte, Nat.reduceEqDiff, reduceCtorEq]
  repeat' (first | apply And.intro | intro _)
  · -- a put
    refine (shapeMay_pu g hv).go (by simp [AV.tolds, AV.told, tv]) ?_
    rintro x ⟨b, rfl, hb⟩
    cases b
    · simp +contextual (maxSteps := 2000000) only [RX, VOp.fresh, bxC, bsC, un, most, callsOf, seval, Int.reducePow, ↓reduceIte, Nat.reduceEqDiff, reduceCtorEq]
      rintro (⟨h1, h2, h3, h4⟩ | ⟨h1, _⟩ | ⟨h1, _⟩)
      · exact absurd (hb.2 h2) (by simp)
      · omega
      · omega
    · simp +contextual (maxSteps := 2000000) only [RX, VOp.fresh, bxC, bsC, un, most, callsOf, seval, Int.reducePow, ↓reduceIte, Nat.reduceEqDiff, reduceCtorEq]
      repeat' (first | apply And.intro | intro _)
      · refine (noMap_pu g ha hu _).go (by simp [AV.tolds, AV.told, ta, tu, hr]) ?_
        rintro x ⟨b, rfl, hb2⟩
        simp +contextual (maxSteps := 2000000) only [RX, VOp.fresh, bxC, bsC, un, most, callsOf, seval, Int.reducePow, ↓reduceIte, Nat.reduceEqDiff, reduceCtorEq]
        rw [hb2]
        exact ⟨fun h => .inl ⟨by assumption, hb.1 rfl, by assumption, h⟩, fun h => by rcases h with ⟨_, _, _, h4⟩ | ⟨h1, _⟩ | ⟨h1, _⟩ <;> first | exact h4 | omega⟩
      · rename_i hok
        rcases hok with ⟨_, _, h3, _⟩ | ⟨h1, _⟩ | ⟨h1, _⟩ <;> first | contradiction | omega
  · -- a delete
    refine (noFeature_pu g hv _).go (by simp [AV.tolds, AV.told, tv, ta, tu, hr]) ?_
    rintro x ⟨b, rfl, hb⟩
    cases b
    · simp +contextual (maxSteps := 2000000) only [RX, VOp.fresh, bxC, bsC, un, most, callsOf, seval, Int.reducePow, ↓reduceIte, Nat.reduceEqDiff, reduceCtorEq]
      rintro (⟨h1, _⟩ | ⟨h1, h2, h3, h4, h5⟩ | ⟨h1, _⟩)
      · omega
      · exact absurd (hb.2 h4) (by simp)
      · omega
    · simp +contextual (maxSteps := 2000000) only [RX, VOp.fresh, bxC, bsC, un, most, callsOf, seval, Int.reducePow, ↓reduceIte, Nat.reduceEqDiff, reduceCtorEq]
      refine (noMap_pu g ha hu _).go (by simp [AV.tolds, AV.told, ta, tu, hr]) ?_
      rintro x ⟨b, rfl, hb2⟩
      simp +contextual (maxSteps := 2000000) only [RX, VOp.fresh, bxC, bsC, un, most, callsOf, seval, Int.reducePow, ↓reduceIte, Nat.reduceEqDiff, reduceCtorEq]
      rw [hb2]
      exact ⟨fun h => .inr (.inl ⟨by assumption, by omega, by omega, hb.1 rfl, h⟩), fun h => by rcases h with ⟨h1, _⟩ | ⟨_, _, _, _, h4⟩ | ⟨h1, _⟩ <;> first | exact h4 | omega⟩
  · rename_i hok
    rcases hok with ⟨h1, _⟩ | ⟨h1, _⟩ | ⟨h1, _⟩ <;> omega
  · rename_i hok
    rcases hok with ⟨h1, _⟩ | ⟨h1, _⟩ | ⟨h1, _⟩ <;> omega
  · -- a map
    refine (mapMay_pu g ha hu).go (by simp [AV.tolds, AV.told, ta, tu]) ?_
    rintro x ⟨b, rfl, hb⟩
    cases b
    · simp +contextual (maxSteps := 2000000) only [RX, VOp.fresh, bxC, bsC, un, most, callsOf, seval, Int.reducePow, ↓reduceIte, Nat.reduceEqDiff, reduceCtorEq]
      rintro (⟨h1, _⟩ | ⟨h1, _⟩ | ⟨h1, h2, h3, h4⟩)
      · omega
      · omega
      · exact absurd (hb.2 h2) (by simp)
    · simp +contextual (maxSteps := 2000000) only [RX, VOp.fresh, bxC, bsC, un, most, callsOf, seval, Int.reducePow, ↓reduceIte, Nat.reduceEqDiff, reduceCtorEq]
      repeat' (first | apply And.intro | intro _)
      · refine (noFeature_pu g hv _).go (by simp [AV.tolds, AV.told, tv, ta, tu, hr]) ?_
        rintro x ⟨b, rfl, hb2⟩
        simp +contextual (maxSteps := 2000000) only [RX, VOp.fresh, bxC, bsC, un, most, callsOf, seval, Int.reducePow, ↓reduceIte, Nat.reduceEqDiff, reduceCtorEq]
        rw [hb2]
        exact ⟨fun h => .inr (.inr ⟨by assumption, hb.1 rfl, by assumption, h⟩), fun h => by rcases h with ⟨h1, _⟩ | ⟨h1, _⟩ | ⟨_, _, _, h4⟩ <;> first | exact h4 | omega⟩
      · rename_i hok
        rcases hok with ⟨h1, _⟩ | ⟨h1, _⟩ | ⟨_, _, h3, _⟩ <;> first | contradiction | omega
  · rename_i hok
    rcases hok with ⟨h1, _⟩ | ⟨h1, _⟩ | ⟨h1, _⟩ <;> contradiction
theorem opId_pu (g : Pg P tab) {o : Op} {c r : List AV} (hc : ROp o c) : Pu P 108 [.rp (c ++ r)] (fun x => x = .int .i64 (opId o)) := by
  refine g.pu (vf := v108) rfl rfl ?_
  obtain ⟨v, a, u, rfl, _⟩ := hc
  simp +contextual (maxSteps := 2000000) only [v108, opId, RX, VOp.fresh, bxC, bsC, un, most, callsOf, seval, Int.reducePow, ↓reduceIte, Nat.reduceEqDiff, reduceCtorEq]
theorem getOp {v : AV} {l : List Op} (h : IsL 112 ROp v l) (i : Nat) (hi : i < l.length) : ∃ c r, ROp (l.getD i op0) c ∧ AV.tolds c = true ∧ AV.tolds r = true ∧ ∀ (hh : Heap) (kk : IntKind), iaV hh 8 none v (.int kk (i : Int)) = .val (.rp (c ++ r)) hh := by
  obtain ⟨ci, r, hr, ht, hia⟩ := h.get zOp tOp i hi
  have : l.getD i op0 = l[i] := by simp [List.getD_eq_getElem?_getD, List.getElem?_eq_getElem hi]
  rw [Cat.told.tolds_append, Bool.and_eq_true] at ht
  exact ⟨ci, r, by rw [this]; exact hr, ht.1, ht.2, hia⟩
def opsAt (nodes : Int) (l : List Op) (i : Nat) : Prop := opOk nodes (l.getD i op0) ∧ ((l.getD i op0).kind = 2 → i = 0) ∧ (0 < opId (l.getD i op0) → ∀ j, j < i → opId (l.getD j op0) ≠ opId (l.getD i op0))
def opsOk (nodes : Int) (l : List Op) : Prop := 1 ≤ l.length ∧ l.length ≤ 32 ∧ ∀ i, i < l.length → opsAt nodes l i
/-- the ids that were seen -/
def idsTo (l : List Op) : Nat → List Int
  | 0 => []
  | i + 1 => if 0 < opId (l.getD i op0) then idsTo l i ++ [opId (l.getD i op0)] else idsTo l i
theorem idsTo_mem (l : List Op) (x : Int) : ∀ i, x ∈ idsTo l i ↔ 0 < x ∧ ∃ j, j < i ∧ opId (l.getD j op0) = x
  | 0 => by simp [idsTo]
  | i + 1 => by
    unfold idsTo
    have ih := idsTo_mem l x i
    split
    · rename_i h
      rw [List.mem_append, ih, List.mem_singleton]
      constructor
      · rintro (⟨a, j, b, c⟩ | rfl)
        · exact ⟨a, j, by omega, c⟩
        · exact ⟨h, i, by omega, rfl⟩
      · rintro ⟨a, j, b, c⟩
        rcases Nat.lt_or_ge j i with h' | h'
        · exact .inl ⟨a, j, h', c⟩
        · have : j = i := by omega
          subst this; exact .inr c.symm
    · rename_i h
      rw [ih]
      constructor
      · rintro ⟨a, j, b, c⟩; exact ⟨a, j, by omega, c⟩
      · rintro ⟨a, j, b, c⟩
        refine ⟨a, j, ?_, c⟩
        rcases Nat.lt_or_ge j i with h' | h'
        · exact h'
        · have : j = i := by omega
          subst this; omega
def seenE (ids : List Int) : List (AV × AV) := ids.map fun x => (.int .i64 x, .bool true)
theorem findE_seen (x : Int) : ∀ ids : List Int, findE .int (.int .i64 x) (seenE ids) = some (if x ∈ ids then some (.bool true) else none)
  | [] => rfl
  | y :: ids => by
    show (match sameK .int (.int .i64 x) (.int .i64 y) with | some true => some (some (AV.bool true)) | some false => findE .int (.int .i64 x) (seenE ids) | none => none) = _
    have : sameK .int (.int .i64 x) (.int .i64 y) = some (decide (x = y)) := by simp [sameK]
    rw [this]
    by_cases e : x = y
    · simp [e]
    · simp [e, findE_seen x ids]
theorem updE_seen {x : Int} : ∀ {ids : List Int}, x ∉ ids → updE .int (.int .i64 x) (.bool true) (seenE ids) = seenE (ids ++ [x])
  | [], _ => rfl
  | y :: ids, h => by
    have hne : x ≠ y := fun e => h (by rw [e]; exact .head _)
    have : sameK .int (.int .i64 x) (.int .i64 y) = some (decide (x = y)) := by simp [sameK]
    show (match sameK .int (.int .i64 x) (.int .i64 y) with | some true => (AV.int .i64 x, AV.bool true) :: seenE ids | _ => (AV.int .i64 y, AV.bool true) :: updE .int (.int .i64 x) (.bool true) (seenE ids)) = _
    rw [this, decide_eq_false hne]
    simp only [updE_seen (fun hm => h (.tail _ hm))]
    rfl
theorem lkB_seen {hh : Heap} {x : Int} {ids : List Int} {ver : Nat} : lkB .int (.bool false) false hh (.int .i64 x) (some (.map (seenE ids) ver)) = .val (.bool (decide (x ∈ ids))) hh := by
  simp only [lkB, findE_seen]
  by_cases h : x ∈ ids <;> simp [h]
theorem muB_seen {hh : Heap} {b : Nat} {x : Int} {ids : List Int} {ver : Nat} (h : x ∉ ids) : muB .int hh b (.int .i64 x) (.bool true) (some (.map (seenE ids) ver)) = .val .undef (hh.put b (.map (seenE (ids ++ [x])) (ver + 1))) := by
  simp only [muB, findE_seen, updE_seen h]
theorem opsMay_loop (g : Pg P tab) {nodes : Int} {l : List Op} {v : AV} (hv : IsL 112 ROp v l) (hl : l.length ≤ 32) (b : Nat) (n : Nat) :
    ∀ (i : Nat) (s : T AV) (hh : Heap) (ver : Nat) (k : List Fr) (Q : Ex → T AV → Heap → Prop), i + n = l.length → sg s 0 = v → sg s 1 = .int .i64 nodes → sg s 5 = .map b → sg s 19 = .int .i64 l.length → sg s 20 = .int .i64 i →
      hh.get b = some (.map (seenE (idsTo l i)) ver) →
      ((∀ j, i ≤ j → j < l.length → opsAt nodes l j) → ∀ s' h', Un P k Q (.exit 0) s' h') → ((¬ ∀ j, i ≤ j → j < l.length → opsAt nodes l j) → ∀ s' h', sg s' 4 = .bool false → Un P k Q .ret s' h') → Lp P b87_0 s hh (Un P k Q) := by
  induction n with
  | zero =>
    intro i s hh ver k Q hi h0 h1 h5 h19 h20 hg hK hR
    refine g.lpe b87_0.eq_1 ?_
    have c1 : ¬ ((i : Int) < (l.length : Int)) := by omega
    simp only [h19, h20, c1, RX, VOp.fresh, bxC, bsC, un, most, callsOf, seval, Int.reducePow, ↓reduceIte, Nat.reduceEqDiff, reduceCtorEq]
    exact hK (fun j h1 h2 => by omega) _ _
  | succ n ih =>
    intro i s hh ver k Q hi h0 h1 h5 h19 h20 hg hK hR
    refine g.lpe b87_0.eq_1 ?_
    have c1 : (i : Int) < (l.length : Int) := by omega
    obtain ⟨c, r, hc, tc, tr, g1⟩ := getOp hv i (by omega)
    have w1 : IntKind.i64.wrap ((i : Int) + 1) = ((i + 1 : Nat) : Int) := by rw [w64 (by omega) (by omega)]; push_cast; rfl
    have next : opsAt nodes l i → ∀ (s' : T AV) (h' : Heap) (ver' : Nat), sg s' 0 = v → sg s' 1 = .int .i64 nodes → sg s' 5 = .map b → sg s' 19 = .int .i64 l.length → sg s' 20 = .int .i64 ((i + 1 : Nat) : Int) →
        h'.get b = some (.map (seenE (idsTo l (i + 1))) ver') → Lp P b87_0 s' h' (Un P k Q) := by
      intro hok s' h' ver' a1 a2 a3 a4 a5 a6
      refine ih (i + 1) s' h' ver' k Q (by omega) a1 a2 a3 a4 a5 a6 (fun hall => hK fun j h1 h2 => ?_) (fun hn => hR fun hall => hn fun j h1 h2 => hall j (by omega) h2)
      rcases Nat.lt_or_ge i j with h | h
      · exact hall j h h2
      · have : j = i := by omega
        subst this; exact hok
    have stop : ¬ opsAt nodes l i → ∀ (s' : T AV) (h' : Heap), sg s' 4 = .bool false → Un P k Q .ret s' h' := fun hn => hR fun hall => hn (hall i (Nat.le_refl _) (by omega))
    simp only [h0, h1, h5, h19, h20, c1, g1, RX, VOp.fresh, bxC, bsC, un, most, callsOf, seval, Int.reducePow, ↓reduceIte, Nat.reduceEqDiff, reduceCtorEq]
    refine (opMay_pu g hc tr).go (by simp [AV.tolds, AV.told, Cat.told.tolds_append, tc, tr]) ?_
    rintro x ⟨ob, rfl, hob⟩
    have hid := opId_pu g (r := r) hc
    have hkind : ∃ c', c = .int .i64 (l.getD i op0).kind :: c' := by
      obtain ⟨v', a, u, rfl, _⟩ := hc
      exact ⟨_, rfl⟩
    obtain ⟨c', rfl⟩ := hkind
    cases ob
    · simp only [RX, VOp.fresh, bxC, bsC, un, most, callsOf, seval, Int.reducePow, ↓reduceIte, Nat.reduceEqDiff, reduceCtorEq]
      exact stop (fun hok => absurd (hob.2 hok.1) (by simp)) _ _ (by simp only [sg_set, Nat.reduceEqDiff, ↓reduceIte])
    · have hok := hob.1 rfl
      generalize hx : opId (l.getD i op0) = x0 at *
      have hids : idsTo l (i + 1) = if 0 < x0 then idsTo l i ++ [x0] else idsTo l i := by rw [idsTo, hx]
      by_cases hk : (l.getD i op0).kind = 2
      · rw [hk] at hid tc
        by_cases hi0 : (0 : Int) < (i : Int)
        · simp only [h0, h1, h5, h19, h20, hk, hi0, RX, VOp.fresh, bxC, bsC, un, most, callsOf, seval, Int.reducePow, ↓reduceIte, Nat.reduceEqDiff, reduceCtorEq]
          exact stop (fun hok => absurd (hok.2.1 hk) (by omega)) _ _ (by simp only [sg_set, Nat.reduceEqDiff, ↓reduceIte])
        · simp only [h0, h1, h5, h19, h20, hk, hi0, RX, VOp.fresh, bxC, bsC, un, most, callsOf, seval, Int.reducePow, ↓reduceIte, Nat.reduceEqDiff, reduceCtorEq]
          refine hid.go (by simp [AV.tolds, AV.told, Cat.told.tolds_append, tc, tr]; simpa [AV.tolds, AV.told] using tc) ?_
          rintro x rfl
          by_cases hp : 0 < x0
          · by_cases hm : x0 ∈ idsTo l i
            · simp only [h0, h1, h5, h19, h20, hp, hm, hg, lkB_seen, RX, VOp.fresh, bxC, bsC, un, most, callsOf, seval, Int.reducePow, ↓reduceIte, Nat.reduceEqDiff, reduceCtorEq]
              refine stop (fun hok => ?_) _ _ (by simp only [sg_set, Nat.reduceEqDiff, ↓reduceIte])
              obtain ⟨_, j, h1, h2⟩ := (idsTo_mem l _ i).1 hm
              exact hok.2.2 (by rw [hx]; exact hp) j h1 (by rw [hx]; exact h2)
            · simp only [h0, h1, h5, h19, h20, hp, hm, hg, lkB_seen, muB_seen hm, w1, RX, VOp.fresh, bxC, bsC, un, most, callsOf, seval, Int.reducePow, ↓reduceIte, Nat.reduceEqDiff, reduceCtorEq]
              refine next ⟨hok, fun _ => by omega, fun _ j h1 h2 => hm ((idsTo_mem l _ i).2 ⟨hp, j, h1, by rw [h2, hx]⟩)⟩ _ _ (ver + 1) ?_ ?_ ?_ ?_ ?_ ?_
              · simp only [h0, sg_set, Nat.reduceEqDiff, ↓reduceIte]
              · simp only [h1, sg_set, Nat.reduceEqDiff, ↓reduceIte]
              · simp only [h5, sg_set, Nat.reduceEqDiff, ↓reduceIte]
              · simp only [h19, sg_set, Nat.reduceEqDiff, ↓reduceIte]
              · simp only [sg_set, Nat.reduceEqDiff, ↓reduceIte]
              · rw [Heap.get_put, if_pos rfl, hids, if_pos hp]
          · simp only [h0, h1, h5, h19, h20, hp, w1, RX, VOp.fresh, bxC, bsC, un, most, callsOf, seval, Int.reducePow, ↓reduceIte, Nat.reduceEqDiff, reduceCtorEq]
            refine next ⟨hok, fun _ => by omega, fun h => absurd (by rw [hx] at h; exact h) hp⟩ _ _ ver ?_ ?_ ?_ ?_ ?_ ?_
            · simp only [h0, sg_set, Nat.reduceEqDiff, ↓reduceIte]
            · simp only [h1, sg_set, Nat.reduceEqDiff, ↓reduceIte]
            · simp only [h5, sg_set, Nat.reduceEqDiff, ↓reduceIte]
            · simp only [h19, sg_set, Nat.reduceEqDiff, ↓reduceIte]
            · simp only [sg_set, Nat.reduceEqDiff, ↓reduceIte]
            · rw [hg, hids, if_neg hp]
      · simp only [h0, h1, h5, h19, h20, hk, RX, VOp.fresh, bxC, bsC, un, most, callsOf, seval, Int.reducePow, ↓reduceIte, Nat.reduceEqDiff, reduceCtorEq]
        refine hid.go (by simp [AV.tolds, AV.told, Cat.told.tolds_append, tc, tr]; simpa [AV.tolds, AV.told] using tc) ?_
        rintro x rfl
        by_cases hp : 0 < x0
        · by_cases hm : x0 ∈ idsTo l i
          · simp only [h0, h1, h5, h19, h20, hp, hm, hg, lkB_seen, RX, VOp.fresh, bxC, bsC, un, most, callsOf, seval, Int.reducePow, ↓reduceIte, Nat.reduceEqDiff, reduceCtorEq]
            refine stop (fun hok => ?_) _ _ (by simp only [sg_set, Nat.reduceEqDiff, ↓reduceIte])
            obtain ⟨_, j, h1, h2⟩ := (idsTo_mem l _ i).1 hm
            exact hok.2.2 (by rw [hx]; exact hp) j h1 (by rw [hx]; exact h2)
          · simp only [h0, h1, h5, h19, h20, hp, hm, hg, lkB_seen, muB_seen hm, w1, RX, VOp.fresh, bxC, bsC, un, most, callsOf, seval, Int.reducePow, ↓reduceIte, Nat.reduceEqDiff, reduceCtorEq]
            refine next ⟨hok, fun h => absurd h hk, fun _ j h1 h2 => hm ((idsTo_mem l _ i).2 ⟨hp, j, h1, by rw [h2, hx]⟩)⟩ _ _ (ver + 1) ?_ ?_ ?_ ?_ ?_ ?_
            · simp only [h0, sg_set, Nat.reduceEqDiff, ↓reduceIte]
            · simp only [h1, sg_set, Nat.reduceEqDiff, ↓reduceIte]
            · simp only [h5, sg_set, Nat.reduceEqDiff, ↓reduceIte]
            · simp only [h19, sg_set, Nat.reduceEqDiff, ↓reduceIte]
            · simp only [sg_set, Nat.reduceEqDiff, ↓reduceIte]
            · rw [Heap.get_put, if_pos rfl, hids, if_pos hp]
        · simp only [h0, h1, h5, h19, h20, hp, w1, RX, VOp.fresh, bxC, bsC, un, most, callsOf, seval, Int.reducePow, ↓reduceIte, Nat.reduceEqDiff, reduceCtorEq]
          refine next ⟨hok, fun h => absurd h hk, fun h => absurd (by rw [hx] at h; exact h) hp⟩ _ _ ver ?_ ?_ ?_ ?_ ?_ ?_
          · simp only [h0, sg_set, Nat.reduceEqDiff, ↓reduceIte]
          · simp only [h1, sg_set, Nat.reduceEqDiff, ↓reduceIte]
          · simp only [h5, sg_set, Nat.reduceEqDiff, ↓reduceIte]
          · simp only [h19, sg_set, Nat.reduceEqDiff, ↓reduceIte]
          · simp only [sg_set, Nat.reduceEqDiff, ↓reduceIte]
          · rw [hg, hids, if_neg hp]
theorem opsMay_pu (g : Pg P tab) {nodes : Int} {l : List Op} {v : AV} (hv : IsL 112 ROp v l) : Pu P 87 [v, .int .i64 nodes] (IsB (opsOk nodes l)) := by
  refine g.pu (vf := v87) rfl rfl ?_
  have hb := hv.bound (by decide)
  simp +contextual (maxSteps := 2000000) only [v87, hv.len, RX, VOp.fresh, bxC, bsC, un, most, callsOf, seval, Int.reducePow, ↓reduceIte, Nat.reduceEqDiff, reduceCtorEq]
  repeat' (first | apply And.intro | intro _)
  all_goals first
    | (rename_i hok; unfold opsOk at hok; omega)
    | skip
  refine opsMay_loop (nodes := nodes) g hv (by omega) 0 l.length 0 _ _ 0 _ _ (by omega) ?_ ?_ ?_ ?_ ?_ ?_ ?_ ?_
  · simp only [sg_set, Nat.reduceEqDiff, ↓reduceIte]
  · simp only [sg_set, Nat.reduceEqDiff, ↓reduceIte]
  · simp only [sg_set, Nat.reduceEqDiff, ↓reduceIte]
  · simp only [sg_set, Nat.reduceEqDiff, ↓reduceIte]
  · simp only [sg_set, Nat.reduceEqDiff, ↓reduceIte]
    rfl
  · rw [Heap.get_mk, if_pos rfl]; rfl
  · intro hall s' h'
    simp +contextual (maxSteps := 2000000) only [RX, VOp.fresh, bxC, bsC, un, most, callsOf, seval, Int.reducePow, ↓reduceIte, Nat.reduceEqDiff, reduceCtorEq]
    exact ⟨by omega, by omega, fun i hi => hall i (by omega) hi⟩
  · intro hn s' h' h4
    simp +contextual (maxSteps := 2000000) only [h4, RX, VOp.fresh, bxC, bsC, un, most, callsOf, seval, Int.reducePow, ↓reduceIte, Nat.reduceEqDiff, reduceCtorEq]
    intro hok
    exact hn fun j _ hj => hok.2.2 j hj
end
end Go.Proofs.Ytinonmcnofjeeaa.VM
namespace Go.Proofs.Ytinonmcnofjeeaa.VM
attribute [local irreducible] Af Nx EvO Ev Un Gd Cd EvR EvQ EvC Nc Gc Lp EvM NxM AfM GdM EvMR EvMQ EvMD EvMC Nm Gm
def txOk (a b : Int) : Prop := 0 ≤ a ∧ a < 8 ∧ 1 ≤ b ∧ b ≤ 65535
end Go.Proofs.Ytinonmcnofjeeaa.VM
namespace Go.Proofs.Ytinonmcnofjeeaa.VM
attribute [local irreducible] Af Nx EvO Ev Un Gd Cd EvR EvQ EvC Nc Gc Lp EvM NxM AfM GdM EvMR EvMQ EvMD EvMC Nm Gm
section
variable {P : Program}
theorem num_pu (g : Pg P tab) (n : Int) : Pu P 19 [.int .i64 n] (fun v => v = .int .i64 n) := by
  refine g.pu (vf := v19) rfl rfl ?_
  simp +contextual (maxSteps := 2000000) (disch := omega) only [v19, RX, VOp.fresh, bxC, bsC, un, most, callsOf, seval, Int.reducePow, ↓reduceIte, Nat.reduceEqDiff, reduceCtorEq]
def f5 : Feat := ⟨5, 0, [[⟨6, 7⟩]]⟩
def m0 : Mp := ⟨0, [], []⟩
theorem i64c {n : Int} (a : -1000000 ≤ n) (b : n ≤ 1000000) : I64 n := ⟨by omega, by omega⟩
theorem i0 : I64 0 := i64c (by decide) (by decide)
theorem i1 : I64 1 := i64c (by decide) (by decide)
theorem i5 : I64 5 := i64c (by decide) (by decide)
end
end Go.Proofs.Ytinonmcnofjeeaa.VM
namespace Go.Proofs.Ytinonmcnofjeeaa.VM
attribute [local irreducible] Af Nx EvO Ev Un Gd Cd EvR EvQ EvC Nc Gc Lp EvM NxM AfM GdM EvMR EvMQ EvMD EvMC Nm Gm
/-- a number's bytes, the highest first -/
def numB (x : Int) : Nat → List Nat
  | 0 => []
  | n + 1 => (x / (256 ^ n : Nat) % 256).toNat :: numB x n
theorem numB_len (x : Int) : ∀ n, (numB x n).length = n
  | 0 => rfl
  | n + 1 => by rw [numB, List.length_cons, numB_len x n]
theorem mb_nil : ([] : List AV).mapM AV.byte = some [] := rfl
theorem byte_mod (a : Int) : AV.byte (.int .u8 (a % 256)) = some (a % 256).toNat := by
  have h1 := Int.emod_nonneg a (show (256 : Int) ≠ 0 by decide)
  have h2 := Int.emod_lt_of_pos a (show (0 : Int) < 256 by decide)
  simp only [AV.byte]
  rw [if_pos ⟨h1, h2⟩]
theorem mb_cons (a : Int) (l : List AV) : (AV.int .u8 (a % 256) :: l).mapM AV.byte = (l.mapM AV.byte).map ((a % 256).toNat :: ·) := by
  rw [List.mapM_cons, byte_mod]
  cases l.mapM AV.byte <;> rfl
theorem cvT_sl {h : Heap} {b n : Nat} {cap : Nat} {l : List AV} {e : TypeId} {ver : Nat} (hg : h.get b = some (.cells l e ver)) (hl : l.length = n) : cvT h (.sl b 0 n cap 1) = valO h ((l.mapM AV.byte).map .str) := by
  subst hl
  simp only [cvT, lenV, cellsOf, hg, Nat.le_refl, if_true, cut_eq, List.drop_zero, Nat.mul_one, List.take_length]
section
variable {P : Program}
theorem num1_pu (g : Pg P tab) (x : Int) : Pu P 89 [.int .i64 x, .int .i64 1] (fun v => v = .str (numB x 1)) := by
  refine g.pu (vf := v89) rfl rfl ?_
  simp +contextual (maxSteps := 2000000) (disch := omega) only [v89, RW, RS, RX, VOp.fresh, bxC, bsC, un, most, callsOf, seval, Int.reducePow, ↓reduceIte, Nat.reduceEqDiff, reduceCtorEq]
  refine g.lpe b89_0.eq_1 ?_
  simp +contextual (maxSteps := 2000000) (disch := omega) only [RW, RS, RX, VOp.fresh, bxC, bsC, un, most, callsOf, seval, Int.reducePow, ↓reduceIte, Nat.reduceEqDiff, reduceCtorEq]
  refine g.lpe b89_0.eq_1 ?_
  simp +contextual (maxSteps := 2000000) (disch := omega) only [RW, RS, RX, VOp.fresh, bxC, bsC, un, most, callsOf, seval, Int.reducePow, ↓reduceIte, Nat.reduceEqDiff, reduceCtorEq]
  rw [cvT_sl (by rfl) (by rfl)]
  simp +contextual (maxSteps := 2000000) (disch := omega) only [RW, mb_nil, mb_cons, Option.map_some, numB, Nat.pow_zero, RX, VOp.fresh, bxC, bsC, un, most, callsOf, seval, Int.reducePow, ↓reduceIte, Nat.reduceEqDiff, reduceCtorEq]
theorem num2_pu (g : Pg P tab) (x : Int) : Pu P 89 [.int .i64 x, .int .i64 2] (fun v => v = .str (numB x 2)) := by
  refine g.pu (vf := v89) rfl rfl ?_
  simp +contextual (maxSteps := 2000000) (disch := omega) only [v89, RW, RS, RX, VOp.fresh, bxC, bsC, un, most, callsOf, seval, Int.reducePow, ↓reduceIte, Nat.reduceEqDiff, reduceCtorEq]
  refine g.lpe b89_0.eq_1 ?_
  simp +contextual (maxSteps := 2000000) (disch := omega) only [RW, RS, RX, VOp.fresh, bxC, bsC, un, most, callsOf, seval, Int.reducePow, ↓reduceIte, Nat.reduceEqDiff, reduceCtorEq]
  refine g.lpe b89_0.eq_1 ?_
  simp +contextual (maxSteps := 2000000) (disch := omega) only [RW, RS, RX, VOp.fresh, bxC, bsC, un, most, callsOf, seval, Int.reducePow, ↓reduceIte, Nat.reduceEqDiff, reduceCtorEq]
  refine g.lpe b89_0.eq_1 ?_
  simp +contextual (maxSteps := 2000000) (disch := omega) only [RW, RS, RX, VOp.fresh, bxC, bsC, un, most, callsOf, seval, Int.reducePow, ↓reduceIte, Nat.reduceEqDiff, reduceCtorEq]
  rw [cvT_sl (by rfl) (by rfl)]
  simp +contextual (maxSteps := 2000000) (disch := omega) only [RW, mb_nil, mb_cons, Option.map_some, numB, Nat.pow_zero, RX, VOp.fresh, bxC, bsC, un, most, callsOf, seval, Int.reducePow, ↓reduceIte, Nat.reduceEqDiff, reduceCtorEq]
theorem num4_pu (g : Pg P tab) (x : Int) : Pu P 89 [.int .i64 x, .int .i64 4] (fun v => v = .str (numB x 4)) := by
  refine g.pu (vf := v89) rfl rfl ?_
  simp +contextual (maxSteps := 2000000) (disch := omega) only [v89, RW, RS, RX, VOp.fresh, bxC, bsC, un, most, callsOf, seval, Int.reducePow, ↓reduceIte, Nat.reduceEqDiff, reduceCtorEq]
  refine g.lpe b89_0.eq_1 ?_
  simp +contextual (maxSteps := 2000000) (disch := omega) only [RW, RS, RX, VOp.fresh, bxC, bsC, un, most, callsOf, seval, Int.reducePow, ↓reduceIte, Nat.reduceEqDiff, reduceCtorEq]
  refine g.lpe b89_0.eq_1 ?_
  simp +contextual (maxSteps := 2000000) (disch := omega) only [RW, RS, RX, VOp.fresh, bxC, bsC, un, most, callsOf, seval, Int.reducePow, ↓reduceIte, Nat.reduceEqDiff, reduceCtorEq]
  refine g.lpe b89_0.eq_1 ?_
  simp +contextual (maxSteps := 2000000) (disch := omega) only [RW, RS, RX, VOp.fresh, bxC, bsC, un, most, callsOf, seval, Int.reducePow, ↓reduceIte, Nat.reduceEqDiff, reduceCtorEq]
  refine g.lpe b89_0.eq_1 ?_
  simp +contextual (maxSteps := 2000000) (disch := omega) only [RW, RS, RX, VOp.fresh, bxC, bsC, un, most, callsOf, seval, Int.reducePow, ↓reduceIte, Nat.reduceEqDiff, reduceCtorEq]
  refine g.lpe b89_0.eq_1 ?_
  simp +contextual (maxSteps := 2000000) (disch := omega) only [RW, RS, RX, VOp.fresh, bxC, bsC, un, most, callsOf, seval, Int.reducePow, ↓reduceIte, Nat.reduceEqDiff, reduceCtorEq]
  rw [cvT_sl (by rfl) (by rfl)]
  simp +contextual (maxSteps := 2000000) (disch := omega) only [RW, mb_nil, mb_cons, Option.map_some, numB, Nat.pow_zero, RX, VOp.fresh, bxC, bsC, un, most, callsOf, seval, Int.reducePow, ↓reduceIte, Nat.reduceEqDiff, reduceCtorEq]
theorem and255 (x : Int) : bitsOf .and .i64 x 255 = x % 256 := by
  have h := and_any x (n := 8) (by decide)
  have e : (((2 ^ 8 : Nat) : Int) - 1) = 255 := rfl
  rw [e] at h
  rw [h]
  omega
theorem be1_pu (g : Pg P tab) (x : Int) : Pu P 52 [.int .i64 x, .int .i64 1] (fun v => v = .str (numB x 1)) := by
  refine g.pu (vf := v52) rfl rfl ?_
  simp +contextual (maxSteps := 2000000) (disch := omega) only [v52, RW, RS, and255, RX, VOp.fresh, bxC, bsC, un, most, callsOf, seval, Int.reducePow, ↓reduceIte, Nat.reduceEqDiff, reduceCtorEq]
  refine g.lpe b52_0.eq_1 ?_
  simp +contextual (maxSteps := 2000000) (disch := omega) only [RW, RS, and255, Int.emod_emod_of_dvd, RX, VOp.fresh, bxC, bsC, un, most, callsOf, seval, Int.reducePow, ↓reduceIte, Nat.reduceEqDiff, reduceCtorEq]
  refine g.lpe b52_0.eq_1 ?_
  simp +contextual (maxSteps := 2000000) (disch := omega) only [RW, RS, and255, Int.emod_emod_of_dvd, RX, VOp.fresh, bxC, bsC, un, most, callsOf, seval, Int.reducePow, ↓reduceIte, Nat.reduceEqDiff, reduceCtorEq]
  rw [cvT_sl (by rfl) (by rfl)]
  simp +contextual (maxSteps := 2000000) (disch := omega) only [RW, mb_nil, mb_cons, Option.map_some, numB, Nat.pow_zero, RX, VOp.fresh, bxC, bsC, un, most, callsOf, seval, Int.reducePow, ↓reduceIte, Nat.reduceEqDiff, reduceCtorEq]
  simp only [Int.ediv_one, (show x / 256 / 256 = x / 65536 by omega), (show x / 65536 / 256 = x / 16777216 by omega)]
theorem be2_pu (g : Pg P tab) (x : Int) : Pu P 52 [.int .i64 x, .int .i64 2] (fun v => v = .str (numB x 2)) := by
  refine g.pu (vf := v52) rfl rfl ?_
  simp +contextual (maxSteps := 2000000) (disch := omega) only [v52, RW, RS, and255, RX, VOp.fresh, bxC, bsC, un, most, callsOf, seval, Int.reducePow, ↓reduceIte, Nat.reduceEqDiff, reduceCtorEq]
  refine g.lpe b52_0.eq_1 ?_
  simp +contextual (maxSteps := 2000000) (disch := omega) only [RW, RS, and255, Int.emod_emod_of_dvd, RX, VOp.fresh, bxC, bsC, un, most, callsOf, seval, Int.reducePow, ↓reduceIte, Nat.reduceEqDiff, reduceCtorEq]
  refine g.lpe b52_0.eq_1 ?_
  simp +contextual (maxSteps := 2000000) (disch := omega) only [RW, RS, and255, Int.emod_emod_of_dvd, RX, VOp.fresh, bxC, bsC, un, most, callsOf, seval, Int.reducePow, ↓reduceIte, Nat.reduceEqDiff, reduceCtorEq]
  refine g.lpe b52_0.eq_1 ?_
  simp +contextual (maxSteps := 2000000) (disch := omega) only [RW, RS, and255, Int.emod_emod_of_dvd, RX, VOp.fresh, bxC, bsC, un, most, callsOf, seval, Int.reducePow, ↓reduceIte, Nat.reduceEqDiff, reduceCtorEq]
  rw [cvT_sl (by rfl) (by rfl)]
  simp +contextual (maxSteps := 2000000) (disch := omega) only [RW, mb_nil, mb_cons, Option.map_some, numB, Nat.pow_zero, RX, VOp.fresh, bxC, bsC, un, most, callsOf, seval, Int.reducePow, ↓reduceIte, Nat.reduceEqDiff, reduceCtorEq]
  simp only [Int.ediv_one, (show x / 256 / 256 = x / 65536 by omega), (show x / 65536 / 256 = x / 16777216 by omega)]
theorem be4_pu (g : Pg P tab) (x : Int) : Pu P 52 [.int .i64 x, .int .i64 4] (fun v => v = .str (numB x 4)) := by
  refine g.pu (vf := v52) rfl rfl ?_
  simp +contextual (maxSteps := 2000000) (disch := omega) only [v52, RW, RS, and255, RX, VOp.fresh, bxC, bsC, un, most, callsOf, seval, Int.reducePow, ↓reduceIte, Nat.reduceEqDiff, reduceCtorEq]
  refine g.lpe b52_0.eq_1 ?_
  simp +contextual (maxSteps := 2000000) (disch := omega) only [RW, RS, and255, Int.emod_emod_of_dvd, RX, VOp.fresh, bxC, bsC, un, most, callsOf, seval, Int.reducePow, ↓reduceIte, Nat.reduceEqDiff, reduceCtorEq]
  refine g.lpe b52_0.eq_1 ?_
  simp +contextual (maxSteps := 2000000) (disch := omega) only [RW, RS, and255, Int.emod_emod_of_dvd, RX, VOp.fresh, bxC, bsC, un, most, callsOf, seval, Int.reducePow, ↓reduceIte, Nat.reduceEqDiff, reduceCtorEq]
  refine g.lpe b52_0.eq_1 ?_
  simp +contextual (maxSteps := 2000000) (disch := omega) only [RW, RS, and255, Int.emod_emod_of_dvd, RX, VOp.fresh, bxC, bsC, un, most, callsOf, seval, Int.reducePow, ↓reduceIte, Nat.reduceEqDiff, reduceCtorEq]
  refine g.lpe b52_0.eq_1 ?_
  simp +contextual (maxSteps := 2000000) (disch := omega) only [RW, RS, and255, Int.emod_emod_of_dvd, RX, VOp.fresh, bxC, bsC, un, most, callsOf, seval, Int.reducePow, ↓reduceIte, Nat.reduceEqDiff, reduceCtorEq]
  refine g.lpe b52_0.eq_1 ?_
  simp +contextual (maxSteps := 2000000) (disch := omega) only [RW, RS, and255, Int.emod_emod_of_dvd, RX, VOp.fresh, bxC, bsC, un, most, callsOf, seval, Int.reducePow, ↓reduceIte, Nat.reduceEqDiff, reduceCtorEq]
  rw [cvT_sl (by rfl) (by rfl)]
  simp +contextual (maxSteps := 2000000) (disch := omega) only [RW, mb_nil, mb_cons, Option.map_some, numB, Nat.pow_zero, RX, VOp.fresh, bxC, bsC, un, most, callsOf, seval, Int.reducePow, ↓reduceIte, Nat.reduceEqDiff, reduceCtorEq]
  simp only [Int.ediv_one, (show x / 256 / 256 = x / 65536 by omega), (show x / 65536 / 256 = x / 16777216 by omega)]
end
def byteV (n : Nat) : AV := .int .u8 n
theorem cells_str {h : Heap} {bs : List Nat} : cellsOf h 1 bs.length (.str bs) = some (bs.map byteV) := by
  simp only [cellsOf, List.take_length]; rfl
theorem one_bytes : ∀ l : List Nat, (l.map byteV).all AV.one = true
  | [] => rfl
  | _ :: l => by rw [List.map_cons, List.all_cons, one_bytes l]; rfl
theorem app_nils {h : Heap} {bs : List Nat} (h0 : 0 < bs.length) (h1 : bs.length ≤ 140737488355328) :
    appendV h 1 1 5 .nils (.str bs) = some (.sl h.next 0 bs.length bs.length 1, h.mk' h.next (.cells (bs.map byteV) 5 0)) := by
  simp only [appendV, lenV, cells_str, List.length_map, Nat.mul_one, one_bytes, and_self, if_true]
  rw [if_neg (by omega), if_pos h1]
theorem app_sl {h : Heap} {c ver : Nat} {e : TypeId} {s bs : List Nat} (hg : h.get c = some (.cells (s.map byteV) e ver)) (h0 : 0 < bs.length) (h1 : s.length + bs.length ≤ 140737488355328) :
    appendV h 1 1 5 (.sl c 0 s.length s.length 1) (.str bs) = some (.sl h.next 0 (s ++ bs).length (s ++ bs).length 1, (h.put c .dead).mk' h.next (.cells ((s ++ bs).map byteV) 5 0)) := by
  have hc : cellsOf h 1 s.length (.sl c 0 s.length s.length 1) = some (s.map byteV) := by
    have e : (s.map byteV).length = s.length := List.length_map _
    simp only [cellsOf, Nat.le_refl, if_true, hg, cut_eq, List.drop_zero, Nat.mul_one]
    rw [← e, List.take_length, if_pos rfl]
  have hb : Nat.beq 1 1 = true := rfl
  simp only [appendV, lenV, cells_str, List.length_map, Nat.mul_one, one_bytes, and_self, if_true, hb, cond_true, hc]
  rw [if_neg (by omega), if_pos h1, List.map_append, List.length_append]
/-- the writer at block b has written s; the blocks k stand -/
structure WR (k : List (Nat × Blk)) (h : Heap) (b : Nat) (s : List Nat) : Prop where
  lt : b < h.next
  out : ∃ v e ver, h.get b = some (.cells [v] e ver) ∧ ((v = .nils ∧ s = []) ∨ ∃ c e' ver', v = .sl c 0 s.length s.length 1 ∧ c < h.next ∧ c ≠ b ∧ (∀ p ∈ k, p.1 ≠ c) ∧ h.get c = some (.cells (s.map byteV) e' ver'))
  keep : ∀ p ∈ k, p.1 < h.next ∧ p.1 ≠ b ∧ h.get p.1 = some p.2
theorem WR.add {k : List (Nat × Blk)} {h : Heap} {b : Nat} {s : List Nat} (w : WR k h b s) (x : Blk) : WR ((h.next, x) :: k) (h.mk' h.next x) b s := by
  have hn : (h.mk' h.next x).next = h.next + 1 := by rw [mk_next]; omega
  refine ⟨by rw [hn]; have := w.lt; omega, ?_, ?_⟩
  · obtain ⟨v, e, ver, h1, h2⟩ := w.out
    have hb := w.lt
    refine ⟨v, e, ver, by rw [Heap.get_mk, if_neg (by omega)]; exact h1, ?_⟩
    rcases h2 with h2 | ⟨c, e', ver', rfl, h3, h4, h5, h6⟩
    · exact .inl h2
    · refine .inr ⟨c, e', ver', rfl, by rw [hn]; omega, h4, ?_, by rw [Heap.get_mk, if_neg (by omega)]; exact h6⟩
      intro p hp
      rcases List.mem_cons.1 hp with rfl | hp
      · simp only; omega
      · exact h5 p hp
  · intro p hp
    rcases List.mem_cons.1 hp with rfl | hp
    · refine ⟨by rw [hn]; simp only; omega, by have := w.lt; simp only; omega, by simp only [Heap.get_mk, if_true]⟩
    · obtain ⟨h1, h2, h3⟩ := w.keep p hp
      exact ⟨by rw [hn]; omega, h2, by rw [Heap.get_mk, if_neg (by omega)]; exact h3⟩
theorem WR.upd {k : List (Nat × Blk)} {h : Heap} {b d : Nat} {B : Blk} {s : List Nat} (w : WR ((d, B) :: k) h b s) (hd : ∀ p ∈ k, p.1 ≠ d) (x : Blk) : WR ((d, x) :: k) (h.put d x) b s := by
  have hb : d ≠ b := (w.keep (d, B) List.mem_cons_self).2.1
  have hl : d < h.next := (w.keep (d, B) List.mem_cons_self).1
  refine ⟨w.lt, ?_, ?_⟩
  · obtain ⟨v, e, ver, h1, h2⟩ := w.out
    refine ⟨v, e, ver, by rw [Heap.get_put, if_neg (fun e => hb e.symm)]; exact h1, ?_⟩
    rcases h2 with h2 | ⟨c, e', ver', rfl, h3, h4, h5, h6⟩
    · exact .inl h2
    · have hc : d ≠ c := h5 (d, B) List.mem_cons_self
      refine .inr ⟨c, e', ver', rfl, h3, h4, ?_, by rw [Heap.get_put, if_neg (fun e => hc e.symm)]; exact h6⟩
      intro p hp
      rcases List.mem_cons.1 hp with rfl | hp
      · exact hc
      · exact h5 p (List.mem_cons_of_mem _ hp)
  · intro p hp
    rcases List.mem_cons.1 hp with rfl | hp
    · exact ⟨hl, hb, by simp only [Heap.get_put, if_true]⟩
    · obtain ⟨h1, h2, h3⟩ := w.keep p (List.mem_cons_of_mem _ hp)
      exact ⟨h1, h2, by rw [Heap.get_put, if_neg (hd p hp)]; exact h3⟩
theorem WR.fresh {k : List (Nat × Blk)} {h : Heap} {b : Nat} {s : List Nat} (w : WR k h b s) : ∀ p ∈ k, p.1 ≠ h.next := fun p hp e => by have := (w.keep p hp).1; omega
theorem WR.less {p : Nat × Blk} {k : List (Nat × Blk)} {h : Heap} {b : Nat} {s : List Nat} (w : WR (p :: k) h b s) : WR k h b s := by
  refine ⟨w.lt, ?_, fun q hq => w.keep q (List.mem_cons_of_mem _ hq)⟩
  obtain ⟨v, e, ver, h1, h2⟩ := w.out
  refine ⟨v, e, ver, h1, ?_⟩
  rcases h2 with h2 | ⟨c, e', ver', rfl, h3, h4, h5, h6⟩
  · exact .inl h2
  · exact .inr ⟨c, e', ver', rfl, h3, h4, fun q hq => h5 q (List.mem_cons_of_mem _ hq), h6⟩
theorem WR.next {k : List (Nat × Blk)} {h h0 : Heap} {b : Nat} {s t : List Nat} (w : WR k h b s) (hn : h0.next = h.next) (hg : ∀ p ∈ k, h0.get p.1 = h.get p.1) {e e' : TypeId} {ver v' : Nat} :
    WR k ((h0.mk' h.next (.cells (t.map byteV) e' v')).put b (.cells [.sl h.next 0 t.length t.length 1] e ver)) b t := by
  have hb := w.lt
  have hnx : ((h0.mk' h.next (.cells (t.map byteV) e' v')).put b (.cells [.sl h.next 0 t.length t.length 1] e ver)).next = h.next + 1 := by
    rw [put_next, mk_next]; omega
  refine ⟨by rw [hnx]; omega, ⟨_, e, ver, by rw [Heap.get_put, if_pos rfl], .inr ⟨h.next, e', v', rfl, by rw [hnx]; omega, by omega, ?_, ?_⟩⟩, ?_⟩
  · intro p hp; have := (w.keep p hp).1; omega
  · rw [Heap.get_put, if_neg (by omega), Heap.get_mk, if_pos rfl]
  · intro p hp
    obtain ⟨h1, h2, h3⟩ := w.keep p hp
    exact ⟨by rw [hnx]; omega, h2, by rw [Heap.get_put, if_neg h2, Heap.get_mk, if_neg (by omega), hg p hp, h3]⟩
section
variable {P : Program}
theorem wnum (g : Pg P tab) {x : Int} {n : Nat} (hp : Pu P 89 [.int .i64 x, .int .i64 n] (fun v => v = .str (numB x n))) (hn : 0 < n) {k : List (Nat × Blk)} {h : Heap} {b : Nat} {s : List Nat} (w : WR k h b s)
    (hl : s.length + n ≤ 140737488355328) {Q : AV → Heap → Prop} (q : ∀ v h', WR k h' b (s ++ numB x n) → Q v h') : Cl P 46 [.ptr b 0, .int .i64 x, .int .i64 n] h Q := by
  refine g.cl (vf := v46) rfl rfl ?_
  obtain ⟨v, e, ver, hb, ho⟩ := w.out
  have hlt := w.lt
  simp +contextual (maxSteps := 2000000) only [v46, RW, RX, VOp.fresh, bxC, bsC, un, most, callsOf, seval, Int.reducePow, ↓reduceIte, Nat.reduceEqDiff, reduceCtorEq]
  refine EvD.lk (fun f args h => (.str (numB x n), h)) ?_
  have hc : ∀ h, OK P 89 [.int .i64 x, .int .i64 n] h (.str (numB x n)) h := fun h => hp.exact rfl
  have hne : ¬ b = h.next := by omega
  rcases ho with ⟨rfl, rfl⟩ | ⟨c, e', ver', rfl, h3, h4, h5, h6⟩
  · have ha : ∀ h, appendV h 1 1 5 .nils (.str (numB x n)) = _ := fun h => app_nils (bs := numB x n) (by rw [numB_len]; omega) (by rw [numB_len]; simp at hl; omega)
    simp +contextual (maxSteps := 2000000) only [RW, hc, hb, ha, hne, RX, VOp.fresh, bxC, bsC, un, most, callsOf, seval, Int.reducePow, ↓reduceIte, Nat.reduceEqDiff, reduceCtorEq]
    refine ⟨⟨⟨?_, trivial⟩, trivial⟩, q _ _ (w.next rfl fun _ _ => rfl)⟩
    · show Lk _ _ _ _
      simp +contextual (maxSteps := 2000000) only [Lk, wanted, hb, RX, VOp.fresh, bxC, bsC, un, most, callsOf, seval, Int.reducePow, ↓reduceIte, Nat.reduceEqDiff, reduceCtorEq]
  · have ha := app_sl (bs := numB x n) h6 (by rw [numB_len]; omega) (by rw [numB_len]; omega)
    have h4' : ¬ b = c := fun e => h4 e.symm
    simp +contextual (maxSteps := 2000000) only [RW, hc, hb, ha, hne, h4', RX, VOp.fresh, bxC, bsC, un, most, callsOf, seval, Int.reducePow, ↓reduceIte, Nat.reduceEqDiff, reduceCtorEq]
    refine ⟨⟨⟨?_, trivial⟩, trivial⟩, q _ _ (w.next (h0 := h.put c .dead) rfl fun p hp => by rw [Heap.get_put, if_neg (h5 p hp)])⟩
    · show Lk _ _ _ _
      simp +contextual (maxSteps := 2000000) only [Lk, wanted, hb, RX, VOp.fresh, bxC, bsC, un, most, callsOf, seval, Int.reducePow, ↓reduceIte, Nat.reduceEqDiff, reduceCtorEq]
end
end Go.Proofs.Ytinonmcnofjeeaa.VM
namespace Go.Proofs.Ytinonmcnofjeeaa.VM
attribute [local irreducible] Af Nx EvO Ev Un Gd Cd EvR EvQ EvC Nc Gc Lp EvM NxM AfM GdM EvMR EvMQ EvMD EvMC Nm Gm
def ptB (p : Pt) : List Nat := numB p.x 4 ++ numB p.y 4
def ringB (r : List Pt) : List Nat := numB r.length 1 ++ (r.map ptB).flatten
def featB (f : Feat) : List Nat := numB f.id 2 ++ (numB f.shape 1 ++ (numB f.rings.length 1 ++ (f.rings.map ringB).flatten))
def mpB (m : Mp) : List Nat := numB m.epoch 2 ++ (numB m.starts.length 1 ++ ((m.starts.map (numB · 4)).flatten ++ (m.owners.map (numB · 1)).flatten))
def opB (o : Op) : List Nat := numB o.kind 1 ++ (if o.kind = 0 then featB o.f else if o.kind = 1 then numB o.id 2 else mpB o.m)
def opsB (l : List Op) : List Nat := numB l.length 1 ++ (l.map opB).flatten
def txB (a b : Int) : List Nat := numB a 1 ++ numB b 2
def bitB (b : Bool) : List Nat := numB (if b then 1 else 0) 1
theorem flat_take {α : Type} (F : α → List Nat) (l : List α) (i : Nat) (hi : i < l.length) : ((l.take i).map F).flatten ++ F l[i] = ((l.take (i + 1)).map F).flatten := by
  rw [List.take_add_one, List.getElem?_eq_getElem hi, List.map_append, List.flatten_append]; simp
theorem getD_int {l : List Int} {i : Nat} (hi : i < l.length) : l.getD i 0 = l[i] := by simp [List.getD_eq_getElem?_getD, List.getElem?_eq_getElem hi]
theorem flatB_len {α : Type} {F : α → List Nat} {B : Nat} : ∀ {l : List α}, (∀ x ∈ l, (F x).length ≤ B) → (l.map F).flatten.length ≤ l.length * B
  | [], _ => by simp
  | a :: l, h => by
    have h1 := flatB_len (F := F) (B := B) (l := l) fun x hx => h x (List.mem_cons_of_mem _ hx)
    have h2 := h a (by simp)
    rw [List.map_cons, List.flatten_cons, List.length_append, List.length_cons, Nat.add_mul]; omega
theorem flat_lenT {α : Type} {F : α → List Nat} {B : Nat} {l : List α} (h : ∀ x ∈ l, (F x).length ≤ B) (i : Nat) : ((l.take i).map F).flatten.length ≤ l.length * B := by
  have h1 := flatB_len (F := F) (B := B) (l := l.take i) fun x hx => h x (List.mem_of_mem_take hx)
  have h2 : (l.take i).length ≤ l.length := by rw [List.length_take]; omega
  exact Nat.le_trans h1 (Nat.mul_le_mul_right _ h2)
/-- what the reference's number comes to -/
def cBe (args : List AV) (h : Heap) : AV × Heap := match args with
  | [.int _ x, .int _ n] => (.str (numB x n.toNat), h)
  | _ => (.undef, h)
theorem cBe_eq {h : Heap} {x n : Int} {k k' : IntKind} : cBe [.int k x, .int k' n] h = (.str (numB x n.toNat), h) := rfl
section
variable {P : Program}
theorem be1 (g : Pg P tab) {x : Int} (h : Heap) : OK P 52 [.int .i64 x, .int .i64 1] h (.str (numB x 1)) h := (be1_pu g x).exact rfl
theorem be2 (g : Pg P tab) {x : Int} (h : Heap) : OK P 52 [.int .i64 x, .int .i64 2] h (.str (numB x 2)) h := (be2_pu g x).exact rfl
theorem be4 (g : Pg P tab) {x : Int} (h : Heap) : OK P 52 [.int .i64 x, .int .i64 4] h (.str (numB x 4)) h := (be4_pu g x).exact rfl
theorem putTx_pu (g : Pg P tab) (a b : Int) : Pu P 54 [.agg [.int .i64 a, .int .i64 b]] (fun v => v = .str (txB a b)) := by
  refine g.pu (vf := v54) rfl rfl ?_
  simp +contextual (maxSteps := 2000000) only [v54, RX, VOp.fresh, bxC, bsC, un, most, callsOf, seval, Int.reducePow, ↓reduceIte, Nat.reduceEqDiff, reduceCtorEq]
  refine EvD.same (fun _ => cBe) (by rfl) ?_
  simp +contextual (maxSteps := 2000000) only [cBe_eq, be1 g, be2 g, numB_len, txB, (show Int.toNat 1 = 1 from rfl), (show Int.toNat 2 = 2 from rfl), RX, VOp.fresh, bxC, bsC, un, most, callsOf, seval, Int.reducePow, ↓reduceIte, Nat.reduceEqDiff, reduceCtorEq]
theorem bit_pu (g : Pg P tab) (b : Bool) : Pu P 56 [.bool b] (fun v => v = .str (bitB b)) := by
  refine g.pu (vf := v56) rfl rfl ?_
  cases b
  · simp +contextual (maxSteps := 2000000) only [v56, bitB, numB, RX, VOp.fresh, bxC, bsC, un, most, callsOf, seval, Int.reducePow, ↓reduceIte, Nat.reduceEqDiff, reduceCtorEq]
  · simp +contextual (maxSteps := 2000000) only [v56, bitB, numB, RX, VOp.fresh, bxC, bsC, un, most, callsOf, seval, Int.reducePow, ↓reduceIte, Nat.reduceEqDiff, reduceCtorEq]
theorem starts_loop (g : Pg P tab) {ep : Int} {l : List Int} {a u : AV} (ha : IsL 8 RInt a l) (hh : Heap) {e : TypeId} {ver : Nat} (hg : hh.get 0 = some (.cells [.int .i64 ep, a, u] e ver)) (acc : List Nat) (hacc : acc.length + l.length * 4 ≤ 140737488000000) (n : Nat) :
    ∀ (i : Nat) (s : T AV) (k : List Fr) (Q : Ex → T AV → Heap → Prop), i + n = l.length → sg s 1 = .ptr 0 0 → sg s 3 = .str (acc ++ ((l.take i).map (numB · 4)).flatten) → sg s 4 = .int .i64 i →
      (∀ s', sg s' 1 = .ptr 0 0 → sg s' 3 = .str (acc ++ (l.map (numB · 4)).flatten) → Un P k Q (.exit 0) s' hh) → Lp P b53_0 s hh (Un P k Q) := by
  have hb := ha.bound (by decide)
  induction n with
  | zero =>
    intro i s k Q hi h1 h3 h4 hK
    refine g.lpe b53_0.eq_1 ?_
    have c1 : ¬ ((i : Int) < (l.length : Int)) := by omega
    simp only [h1, h3, h4, hg, ha.len, c1, RX, VOp.fresh, bxC, bsC, un, most, callsOf, seval, Int.reducePow, ↓reduceIte, Nat.reduceEqDiff, reduceCtorEq]
    refine hK _ ?_ ?_
    · simp only [h1, sg_set, Nat.reduceEqDiff, ↓reduceIte]
    · have : l.take i = l := List.take_of_length_le (by omega)
      rw [this] at h3
      simp only [h3, sg_set, Nat.reduceEqDiff, ↓reduceIte]
  | succ n ih =>
    intro i s k Q hi h1 h3 h4 hK
    refine g.lpe b53_0.eq_1 ?_
    have c1 : (i : Int) < (l.length : Int) := by omega
    obtain ⟨r1, _, g1⟩ := getInt ha i (by omega)
    have w1 : IntKind.i64.wrap ((i : Int) + 1) = ((i + 1 : Nat) : Int) := by rw [w64 (by omega) (by omega)]; push_cast; rfl
    have hlt : (acc ++ ((l.take i).map (numB · 4)).flatten).length + (numB (l.getD i 0) 4).length < 140737488355328 := by
      have := flat_lenT (F := (numB · 4)) (B := 4) (l := l) (fun x _ => by simp only [numB_len]; omega) i
      rw [List.length_append, numB_len]; omega
    simp only [h1, h3, h4, hg, ha.len, c1, g1, RX, VOp.fresh, bxC, bsC, un, most, callsOf, seval, Int.reducePow, ↓reduceIte, Nat.reduceEqDiff, reduceCtorEq]
    refine (be4_pu g _).go rfl ?_
    rintro v rfl
    simp only [h1, h3, h4, hg, ha.len, c1, g1, w1, hlt, RX, VOp.fresh, bxC, bsC, un, most, callsOf, seval, Int.reducePow, ↓reduceIte, Nat.reduceEqDiff, reduceCtorEq]
    refine ih (i + 1) _ k Q (by omega) ?_ ?_ ?_ hK
    · simp only [h1, sg_set, Nat.reduceEqDiff, ↓reduceIte]
    · simp only [sg_set, Nat.reduceEqDiff, ↓reduceIte]
      rw [List.append_assoc, getD_int (by omega), flat_take (numB · 4) l i (by omega)]
    · simp only [sg_set, Nat.reduceEqDiff, ↓reduceIte]
theorem owners_loop (g : Pg P tab) {ep : Int} {l : List Int} {a u : AV} (ha : IsL 8 RInt a l) (hh : Heap) {e : TypeId} {ver : Nat} (hg : hh.get 0 = some (.cells [.int .i64 ep, u, a] e ver)) (acc : List Nat) (hacc : acc.length + l.length * 1 ≤ 140737488000000) (n : Nat) :
    ∀ (i : Nat) (s : T AV) (k : List Fr) (Q : Ex → T AV → Heap → Prop), i + n = l.length → sg s 1 = .ptr 0 0 → sg s 3 = .str (acc ++ ((l.take i).map (numB · 1)).flatten) → sg s 5 = .int .i64 i →
      (∀ s', sg s' 1 = .ptr 0 0 → sg s' 3 = .str (acc ++ (l.map (numB · 1)).flatten) → Un P k Q (.exit 2) s' hh) → Lp P b53_1 s hh (Un P k Q) := by
  have hb := ha.bound (by decide)
  induction n with
  | zero =>
    intro i s k Q hi h1 h3 h4 hK
    refine g.lpe b53_1.eq_1 ?_
    have c1 : ¬ ((i : Int) < (l.length : Int)) := by omega
    simp only [h1, h3, h4, hg, ha.len, c1, RX, VOp.fresh, bxC, bsC, un, most, callsOf, seval, Int.reducePow, ↓reduceIte, Nat.reduceEqDiff, reduceCtorEq]
    refine hK _ ?_ ?_
    · simp only [h1, sg_set, Nat.reduceEqDiff, ↓reduceIte]
    · have : l.take i = l := List.take_of_length_le (by omega)
      rw [this] at h3
      simp only [h3, sg_set, Nat.reduceEqDiff, ↓reduceIte]
  | succ n ih =>
    intro i s k Q hi h1 h3 h4 hK
    refine g.lpe b53_1.eq_1 ?_
    have c1 : (i : Int) < (l.length : Int) := by omega
    obtain ⟨r1, _, g1⟩ := getInt ha i (by omega)
    have w1 : IntKind.i64.wrap ((i : Int) + 1) = ((i + 1 : Nat) : Int) := by rw [w64 (by omega) (by omega)]; push_cast; rfl
    have hlt : (acc ++ ((l.take i).map (numB · 1)).flatten).length + (numB (l.getD i 0) 1).length < 140737488355328 := by
      have := flat_lenT (F := (numB · 1)) (B := 1) (l := l) (fun x _ => by simp only [numB_len]; omega) i
      rw [List.length_append, numB_len]; omega
    simp only [h1, h3, h4, hg, ha.len, c1, g1, RX, VOp.fresh, bxC, bsC, un, most, callsOf, seval, Int.reducePow, ↓reduceIte, Nat.reduceEqDiff, reduceCtorEq]
    refine (be1_pu g _).go rfl ?_
    rintro v rfl
    simp only [h1, h3, h4, hg, ha.len, c1, g1, w1, hlt, RX, VOp.fresh, bxC, bsC, un, most, callsOf, seval, Int.reducePow, ↓reduceIte, Nat.reduceEqDiff, reduceCtorEq]
    refine ih (i + 1) _ k Q (by omega) ?_ ?_ ?_ hK
    · simp only [h1, sg_set, Nat.reduceEqDiff, ↓reduceIte]
    · simp only [sg_set, Nat.reduceEqDiff, ↓reduceIte]
      rw [List.append_assoc, getD_int (by omega), flat_take (numB · 1) l i (by omega)]
    · simp only [sg_set, Nat.reduceEqDiff, ↓reduceIte]
theorem putMap_pu (g : Pg P tab) {m : Mp} {v u : AV} (hv : IsL 8 RInt v m.starts) (hu : IsL 8 RInt u m.owners) (hs : m.starts.length ≤ 1000) (ho : m.owners.length ≤ 1000) : Pu P 53 [.agg [.int .i64 m.epoch, v, u]] (fun v => v = .str (mpB m)) := by
  refine g.pu (vf := v53) rfl rfl ?_
  simp +contextual (maxSteps := 2000000) only [v53, RX, VOp.fresh, bxC, bsC, un, most, callsOf, seval, Int.reducePow, ↓reduceIte, Nat.reduceEqDiff, reduceCtorEq]
  refine EvD.same (fun _ => cBe) (by rfl) ?_
  simp +contextual (maxSteps := 2000000) only [cBe_eq, be1 g, be2 g, numB_len, hv.len, (show Int.toNat 1 = 1 from rfl), (show Int.toNat 2 = 2 from rfl), RX, VOp.fresh, bxC, bsC, un, most, callsOf, seval, Int.reducePow, ↓reduceIte, Nat.reduceEqDiff, reduceCtorEq]
  refine starts_loop g hv _ (ep := m.epoch) (u := u) (e := 26) (ver := 0) ?_ (numB m.epoch 2 ++ numB m.starts.length 1) ?_ m.starts.length 0 _ _ _ (by omega) ?_ ?_ ?_ ?_
  · rw [Heap.get_mk, if_pos rfl]
  · rw [List.length_append, numB_len, numB_len]; omega
  · simp only [sg_set, Nat.reduceEqDiff, ↓reduceIte]
  · simp only [sg_set, Nat.reduceEqDiff, ↓reduceIte]
    simp
  · simp only [sg_set, Nat.reduceEqDiff, ↓reduceIte]
    rfl
  · intro s' h1 h3
    simp +contextual (maxSteps := 2000000) only [h1, h3, RX, VOp.fresh, bxC, bsC, un, most, callsOf, seval, Int.reducePow, ↓reduceIte, Nat.reduceEqDiff, reduceCtorEq]
    refine owners_loop g hu _ (ep := m.epoch) (u := v) (e := 26) (ver := 0) ?_ (numB m.epoch 2 ++ numB m.starts.length 1 ++ (m.starts.map (numB · 4)).flatten) ?_ m.owners.length 0 _ _ _ (by omega) ?_ ?_ ?_ ?_
    · rw [Heap.get_mk, if_pos rfl]
    · have := flatB_len (F := (numB · 4)) (B := 4) (l := m.starts) (fun x _ => by simp only [numB_len]; omega)
      rw [List.length_append, List.length_append, numB_len, numB_len]; omega
    · simp only [h1, sg_set, Nat.reduceEqDiff, ↓reduceIte]
    · simp only [h3, sg_set, Nat.reduceEqDiff, ↓reduceIte]
      simp
    · simp only [sg_set, Nat.reduceEqDiff, ↓reduceIte]
      rfl
    · intro s' h1 h3
      simp +contextual (maxSteps := 2000000) only [h1, h3, RX, VOp.fresh, bxC, bsC, un, most, callsOf, seval, Int.reducePow, ↓reduceIte, Nat.reduceEqDiff, reduceCtorEq]
      simp [mpB]
end
theorem getD_pt {l : List Pt} {i : Nat} (hi : i < l.length) : l.getD i ⟨0, 0⟩ = l[i] := by simp [List.getD_eq_getElem?_getD, List.getElem?_eq_getElem hi]
theorem getD_ring {l : List (List Pt)} {i : Nat} (hi : i < l.length) : l.getD i [] = l[i] := by simp [List.getD_eq_getElem?_getD, List.getElem?_eq_getElem hi]
theorem getD_op {l : List Op} {i : Nat} (hi : i < l.length) : l.getD i op0 = l[i] := by simp [List.getD_eq_getElem?_getD, List.getElem?_eq_getElem hi]
theorem ptB_len (p : Pt) : (ptB p).length = 8 := by rw [ptB, List.length_append, numB_len, numB_len]
theorem ringB_len {r : List Pt} (h : r.length ≤ 1000) : (ringB r).length ≤ 8001 := by
  have := flatB_len (F := ptB) (B := 8) (l := r) fun x _ => by rw [ptB_len]; omega
  rw [ringB, List.length_append, numB_len]; omega
section
variable {P : Program}
theorem pts_loop (g : Pg P tab) {a b : Int} {v rv : AV} {j : Nat} {l : List Pt} (hv : IsL 16 RPt rv l) {r : List AV} (g0 : ∀ (hh : Heap) (kk : IntKind), iaV hh 1 none v (.int kk (j : Int)) = .val (.rp (rv :: r)) hh)
    (hh : Heap) {e : TypeId} {ver : Nat} (hg : hh.get 0 = some (.cells [.int .i64 a, .int .i64 b, v] e ver)) (acc : List Nat) (hacc : acc.length + l.length * 8 ≤ 140737488000000) (n : Nat) :
    ∀ (i : Nat) (s : T AV) (k : List Fr) (Q : Ex → T AV → Heap → Prop), i + n = l.length → sg s 1 = .ptr 0 0 → sg s 3 = .str (acc ++ ((l.take i).map ptB).flatten) → sg s 4 = .int .i64 j → sg s 5 = .int .i64 i →
      (∀ s', sg s' 1 = .ptr 0 0 → sg s' 3 = .str (acc ++ (l.map ptB).flatten) → sg s' 4 = .int .i64 j → Un P k Q (.exit 2) s' hh) → Lp P b76_0 s hh (Un P k Q) := by
  have hb := hv.bound (by decide)
  induction n with
  | zero =>
    intro i s k Q hi h1 h3 h4 h5 hK
    refine g.lpe b76_0.eq_1 ?_
    have c1 : ¬ ((i : Int) < (l.length : Int)) := by omega
    simp only [h1, h3, h4, h5, hg, hv.len, c1, g0, RX, VOp.fresh, bxC, bsC, un, most, callsOf, seval, Int.reducePow, ↓reduceIte, Nat.reduceEqDiff, reduceCtorEq]
    refine hK _ ?_ ?_ ?_
    · simp only [h1, sg_set, Nat.reduceEqDiff, ↓reduceIte]
    · have : l.take i = l := List.take_of_length_le (by omega)
      rw [this] at h3
      simp only [h3, sg_set, Nat.reduceEqDiff, ↓reduceIte]
    · simp only [h4, sg_set, Nat.reduceEqDiff, ↓reduceIte]
  | succ n ih =>
    intro i s k Q hi h1 h3 h4 h5 hK
    refine g.lpe b76_0.eq_1 ?_
    have c1 : (i : Int) < (l.length : Int) := by omega
    obtain ⟨r1, _, g1⟩ := getPt hv i (by omega)
    have w1 : IntKind.i64.wrap ((i : Int) + 1) = ((i + 1 : Nat) : Int) := by rw [w64 (by omega) (by omega)]; push_cast; rfl
    have hl0 : (acc ++ ((l.take i).map ptB).flatten).length + 8 < 140737488355328 := by
      have := flat_lenT (F := ptB) (B := 8) (l := l) (fun x _ => by rw [ptB_len]; omega) i
      rw [List.length_append]; omega
    have hlt : (acc ++ ((l.take i).map ptB).flatten).length + 4 < 140737488355328 := by omega
    have hlt2 : (acc ++ ((l.take i).map ptB).flatten).length + 4 + 4 < 140737488355328 := by omega
    generalize hA : acc ++ ((l.take i).map ptB).flatten = A at *
    simp only [h1, h3, h4, h5, hg, hv.len, c1, g0, g1, RX, VOp.fresh, bxC, bsC, un, most, callsOf, seval, Int.reducePow, ↓reduceIte, Nat.reduceEqDiff, reduceCtorEq]
    refine EvD.same (fun _ => cBe) (by rfl) ?_
    simp +contextual (maxSteps := 2000000) only [h1, h3, h4, h5, hg, hv.len, g0, g1, cBe_eq, be4 g, (show Int.toNat 4 = 4 from rfl), List.length_append, numB_len, hlt, hlt2, w1, RX, VOp.fresh, bxC, bsC, un, most, callsOf, seval, Int.reducePow, ↓reduceIte, Nat.reduceEqDiff, reduceCtorEq]
    refine ih (i + 1) _ k Q (by omega) ?_ ?_ ?_ ?_ hK
    · simp only [h1, sg_set, Nat.reduceEqDiff, ↓reduceIte]
    · simp only [sg_set, Nat.reduceEqDiff, ↓reduceIte]
      rw [← hA, List.append_assoc, List.append_assoc, ← List.append_assoc _ (numB _ 4), getD_pt (by omega), List.append_assoc, ← flat_take ptB l i (by omega), ptB]
    · simp only [h4, sg_set, Nat.reduceEqDiff, ↓reduceIte]
    · simp only [sg_set, Nat.reduceEqDiff, ↓reduceIte]
theorem rings_loop (g : Pg P tab) {a b : Int} {v : AV} {l : List (List Pt)} (hv : IsL 24 RRing v l) (hl : l.length ≤ 1000) (hl2 : ∀ r ∈ l, r.length ≤ 1000)
    (hh : Heap) {e : TypeId} {ver : Nat} (hg : hh.get 0 = some (.cells [.int .i64 a, .int .i64 b, v] e ver)) (acc : List Nat) (hacc : acc.length ≤ 1000) (n : Nat) :
    ∀ (i : Nat) (s : T AV) (k : List Fr) (Q : Ex → T AV → Heap → Prop), i + n = l.length → sg s 1 = .ptr 0 0 → sg s 3 = .str (acc ++ ((l.take i).map ringB).flatten) → sg s 4 = .int .i64 i →
      (∀ s', sg s' 1 = .ptr 0 0 → sg s' 3 = .str (acc ++ (l.map ringB).flatten) → Un P k Q (.exit 0) s' hh) → Lp P b76_1 s hh (Un P k Q) := by
  have hb := hv.bound (by decide)
  induction n with
  | zero =>
    intro i s k Q hi h1 h3 h4 hK
    refine g.lpe b76_1.eq_1 ?_
    have c1 : ¬ ((i : Int) < (l.length : Int)) := by omega
    simp only [h1, h3, h4, hg, hv.len, c1, RX, VOp.fresh, bxC, bsC, un, most, callsOf, seval, Int.reducePow, ↓reduceIte, Nat.reduceEqDiff, reduceCtorEq]
    refine hK _ ?_ ?_
    · simp only [h1, sg_set, Nat.reduceEqDiff, ↓reduceIte]
    · have : l.take i = l := List.take_of_length_le (by omega)
      rw [this] at h3
      simp only [h3, sg_set, Nat.reduceEqDiff, ↓reduceIte]
  | succ n ih =>
    intro i s k Q hi h1 h3 h4 hK
    refine g.lpe b76_1.eq_1 ?_
    have c1 : (i : Int) < (l.length : Int) := by omega
    obtain ⟨rv, r1, hrv, _, g1⟩ := getRing hv i (by omega)
    have hrl : (l.getD i []).length ≤ 1000 := by rw [getD_ring (by omega)]; exact hl2 _ (List.getElem_mem _)
    have w1 : IntKind.i64.wrap ((i : Int) + 1) = ((i + 1 : Nat) : Int) := by rw [w64 (by omega) (by omega)]; push_cast; rfl
    have hA0 : (acc ++ ((l.take i).map ringB).flatten).length ≤ 10000000 := by
      have := flat_lenT (F := ringB) (B := 8001) (l := l) (fun x hx => ringB_len (hl2 x hx)) i
      rw [List.length_append]; omega
    have hA1 : acc ++ ((l.take i).map ringB).flatten ++ ringB (l.getD i []) = acc ++ ((l.take (i + 1)).map ringB).flatten := by
      rw [getD_ring (by omega), List.append_assoc, flat_take ringB l i (by omega)]
    generalize acc ++ ((l.take i).map ringB).flatten = A at *
    have hlt : A.length + 1 < 140737488355328 := by omega
    simp only [h1, h3, h4, hg, hv.len, c1, g1, hrv.len, RX, VOp.fresh, bxC, bsC, un, most, callsOf, seval, Int.reducePow, ↓reduceIte, Nat.reduceEqDiff, reduceCtorEq]
    refine (be1_pu g _).go rfl ?_
    rintro v rfl
    simp only [h1, h3, h4, numB_len, hlt, RX, VOp.fresh, bxC, bsC, un, most, callsOf, seval, Int.reducePow, ↓reduceIte, Nat.reduceEqDiff, reduceCtorEq]
    refine pts_loop g hrv g1 hh hg (A ++ numB (l.getD i []).length 1) (by rw [List.length_append, numB_len]; omega) (l.getD i []).length 0 _ _ _ (by omega) ?_ ?_ ?_ ?_ ?_
    · simp only [h1, sg_set, Nat.reduceEqDiff, ↓reduceIte]
    · simp only [h3, sg_set, Nat.reduceEqDiff, ↓reduceIte]
      simp
    · simp only [h4, sg_set, Nat.reduceEqDiff, ↓reduceIte]
    · simp only [sg_set, Nat.reduceEqDiff, ↓reduceIte]
      rfl
    · intro s' h1 h3 h4
      simp only [h1, h3, h4, w1, RX, VOp.fresh, bxC, bsC, un, most, callsOf, seval, Int.reducePow, ↓reduceIte, Nat.reduceEqDiff, reduceCtorEq]
      refine ih (i + 1) _ k Q (by omega) ?_ ?_ ?_ hK
      · simp only [h1, sg_set, Nat.reduceEqDiff, ↓reduceIte]
      · simp only [h3, sg_set, Nat.reduceEqDiff, ↓reduceIte]
        rw [← hA1, ringB, List.append_assoc]
      · simp only [sg_set, Nat.reduceEqDiff, ↓reduceIte]
def featSmall (f : Feat) : Prop := f.rings.length ≤ 1000 ∧ ∀ r ∈ f.rings, r.length ≤ 1000
theorem featB_len {f : Feat} (h : featSmall f) : (featB f).length ≤ 9000000 := by
  have h1 := h.1
  have := flatB_len (F := ringB) (B := 8001) (l := f.rings) (fun x hx => ringB_len (h.2 x hx))
  rw [featB, List.length_append, List.length_append, List.length_append, numB_len, numB_len, numB_len]; omega
theorem mpB_len {m : Mp} (h : m.starts.length ≤ 1000) (h' : m.owners.length ≤ 1000) : (mpB m).length ≤ 6000 := by
  have h1 := flatB_len (F := (numB · 4)) (B := 4) (l := m.starts) (fun x _ => by simp only [numB_len]; omega)
  have h2 := flatB_len (F := (numB · 1)) (B := 1) (l := m.owners) (fun x _ => by simp only [numB_len]; omega)
  rw [mpB, List.length_append, List.length_append, List.length_append, numB_len, numB_len]; omega
theorem putFeat_pu (g : Pg P tab) {f : Feat} {v : AV} (hv : IsL 24 RRing v f.rings) (hs : featSmall f) : Pu P 76 [.agg [.int .i64 f.id, .int .i64 f.shape, v]] (fun v => v = .str (featB f)) := by
  refine g.pu (vf := v76) rfl rfl ?_
  simp +contextual (maxSteps := 2000000) only [v76, RX, VOp.fresh, bxC, bsC, un, most, callsOf, seval, Int.reducePow, ↓reduceIte, Nat.reduceEqDiff, reduceCtorEq]
  refine EvD.same (fun _ => cBe) (by rfl) ?_
  simp +contextual (maxSteps := 2000000) only [cBe_eq, be1 g, be2 g, List.length_append, numB_len, hv.len, (show Int.toNat 1 = 1 from rfl), (show Int.toNat 2 = 2 from rfl), RX, VOp.fresh, bxC, bsC, un, most, callsOf, seval, Int.reducePow, ↓reduceIte, Nat.reduceEqDiff, reduceCtorEq]
  refine rings_loop g hv hs.1 hs.2 _ (a := f.id) (b := f.shape) (e := 52) (ver := 0) ?_ (numB f.id 2 ++ numB f.shape 1 ++ numB f.rings.length 1) ?_ f.rings.length 0 _ _ _ (by omega) ?_ ?_ ?_ ?_
  · rw [Heap.get_mk, if_pos rfl]
  · rw [List.length_append, List.length_append, numB_len, numB_len, numB_len]; omega
  · simp only [sg_set, Nat.reduceEqDiff, ↓reduceIte]
  · simp only [sg_set, Nat.reduceEqDiff, ↓reduceIte]
    simp
  · simp only [sg_set, Nat.reduceEqDiff, ↓reduceIte]
    rfl
  · intro s' h1 h3
    simp +contextual (maxSteps := 2000000) only [h1, h3, RX, VOp.fresh, bxC, bsC, un, most, callsOf, seval, Int.reducePow, ↓reduceIte, Nat.reduceEqDiff, reduceCtorEq]
    simp [featB]
end
def opSmall (o : Op) : Prop := featSmall o.f ∧ o.m.starts.length ≤ 1000 ∧ o.m.owners.length ≤ 1000
theorem featOk_small {f : Feat} (h : featOk f) : featSmall f := by
  obtain ⟨_, _, h1, h2, h3⟩ := h
  refine ⟨by omega, fun r hr => ?_⟩
  obtain ⟨i, hi, rfl⟩ := List.mem_iff_getElem.1 hr
  rw [← getD_ring hi]
  rcases h3 with ⟨_, a, b, _⟩ | ⟨_, a, _, b, _⟩ | ⟨_, a⟩
  · have : i = 0 := by omega
    subst this; omega
  · have : i = 0 := by omega
    subst this; omega
  · have := (a i hi).2.1
    omega
theorem ftZero_small {f : Feat} (h : ftZero f) : featSmall f := by
  obtain ⟨_, _, h⟩ := h
  exact ⟨by rw [h]; simp, fun r hr => by rw [h] at hr; simp at hr⟩
theorem opOk_small {o : Op} (h : opOk 8 o) : opSmall o := by
  rcases h with ⟨_, h1, _, _, h2, h3⟩ | ⟨_, _, _, h1, _, h2, h3⟩ | ⟨_, h2, _, h1⟩
  · exact ⟨featOk_small h1, by rw [h2]; simp, by rw [h3]; simp⟩
  · exact ⟨ftZero_small h1, by rw [h2]; simp, by rw [h3]; simp⟩
  · obtain ⟨_, _, _, _, _, a, b, _⟩ := h2
    exact ⟨ftZero_small h1, by omega, by omega⟩
theorem opB_len {o : Op} (h : opSmall o) : (opB o).length ≤ 9000001 := by
  have h1 := featB_len h.1
  have h2 := mpB_len h.2.1 h.2.2
  rw [opB, List.length_append, numB_len]
  split
  · omega
  · split
    · rw [numB_len]; omega
    · omega
section
variable {P : Program}
theorem ops_loop (g : Pg P tab) {v : AV} {l : List Op} (hv : IsL 112 ROp v l) (hl : l.length ≤ 1000) (hs : ∀ o ∈ l, opSmall o) (hh : Heap) (acc : List Nat) (hacc : acc.length ≤ 1000) (n : Nat) :
    ∀ (i : Nat) (s : T AV) (k : List Fr) (Q : Ex → T AV → Heap → Prop), i + n = l.length → sg s 0 = v → sg s 3 = .str (acc ++ ((l.take i).map opB).flatten) → sg s 4 = .int .i64 i →
      (∀ s', sg s' 3 = .str (acc ++ (l.map opB).flatten) → Un P k Q (.exit 0) s' hh) → Lp P b55_0 s hh (Un P k Q) := by
  have hb := hv.bound (by decide)
  induction n with
  | zero =>
    intro i s k Q hi h0 h3 h4 hK
    refine g.lpe b55_0.eq_1 ?_
    have c1 : ¬ ((i : Int) < (l.length : Int)) := by omega
    simp only [h0, h3, h4, hv.len, c1, RX, VOp.fresh, bxC, bsC, un, most, callsOf, seval, Int.reducePow, ↓reduceIte, Nat.reduceEqDiff, reduceCtorEq]
    refine hK _ ?_
    have : l.take i = l := List.take_of_length_le (by omega)
    rw [this] at h3
    simp only [h3, sg_set, Nat.reduceEqDiff, ↓reduceIte]
  | succ n ih =>
    intro i s k Q hi h0 h3 h4 hK
    refine g.lpe b55_0.eq_1 ?_
    have c1 : (i : Int) < (l.length : Int) := by omega
    obtain ⟨c, r, hc, tc, tr, g1⟩ := getOp hv i (by omega)
    have hos : opSmall (l.getD i op0) := by rw [getD_op (by omega)]; exact hs _ (List.getElem_mem _)
    have w1 : IntKind.i64.wrap ((i : Int) + 1) = ((i + 1 : Nat) : Int) := by rw [w64 (by omega) (by omega)]; push_cast; rfl
    have hA0 : (acc ++ ((l.take i).map opB).flatten).length ≤ 10000000000 := by
      have := flat_lenT (F := opB) (B := 9000001) (l := l) (fun x hx => opB_len (hs x hx)) i
      rw [List.length_append]; omega
    have hA1 : acc ++ ((l.take i).map opB).flatten ++ opB (l.getD i op0) = acc ++ ((l.take (i + 1)).map opB).flatten := by
      rw [getD_op (by omega), List.append_assoc, flat_take opB l i (by omega)]
    generalize acc ++ ((l.take i).map opB).flatten = A at *
    generalize l.getD i op0 = o at *
    have hlt : A.length + 1 < 140737488355328 := by omega
    have hlt2 : A.length + 1 + 2 < 140737488355328 := by omega
    have hlf : A.length + 1 + (featB o.f).length < 140737488355328 := by have := featB_len hos.1; omega
    have hlm : A.length + 1 + (mpB o.m).length < 140737488355328 := by have := mpB_len hos.2.1 hos.2.2; omega
    obtain ⟨fv, sv, uv, rfl, _, _, _, hfv, _, _, hsv, huv⟩ := hc
    simp only [h0, h3, h4, hv.len, c1, g1, List.cons_append, List.nil_append, RX, VOp.fresh, bxC, bsC, un, most, callsOf, seval, Int.reducePow, ↓reduceIte, Nat.reduceEqDiff, reduceCtorEq]
    refine (be1_pu g _).go rfl ?_
    rintro v rfl
    have next : ∀ s', sg s' 0 = v → sg s' 3 = .str (A ++ opB o) → sg s' 4 = .int .i64 ((i + 1 : Nat) : Int) → Lp P b55_0 s' hh (Un P k Q) := by
      intro s' a1 a2 a3
      exact ih (i + 1) s' k Q (by omega) a1 (by rw [a2, hA1]) a3 hK
    by_cases e0 : o.kind = 0
    · simp only [h0, h3, h4, numB_len, hlt, g1, List.cons_append, List.nil_append, e0, RX, VOp.fresh, bxC, bsC, un, most, callsOf, seval, Int.reducePow, ↓reduceIte, Nat.reduceEqDiff, reduceCtorEq]
      refine (putFeat_pu g hfv hos.1).go (by simp [AV.tolds, AV.told, hfv.told tRing]) ?_
      rintro v rfl
      simp only [h0, h3, h4, List.length_append, numB_len, hlf, w1, RX, VOp.fresh, bxC, bsC, un, most, callsOf, seval, Int.reducePow, ↓reduceIte, Nat.reduceEqDiff, reduceCtorEq]
      refine next _ ?_ ?_ ?_
      · simp only [h0, sg_set, Nat.reduceEqDiff, ↓reduceIte]
      · simp only [sg_set, Nat.reduceEqDiff, ↓reduceIte]
        rw [opB, e0, if_pos rfl, List.append_assoc]
      · simp only [sg_set, Nat.reduceEqDiff, ↓reduceIte]
    · by_cases e1 : o.kind = 1
      · simp only [h0, h3, h4, numB_len, hlt, g1, List.cons_append, List.nil_append, e1, RX, VOp.fresh, bxC, bsC, un, most, callsOf, seval, Int.reducePow, ↓reduceIte, Nat.reduceEqDiff, reduceCtorEq]
        refine (be2_pu g _).go rfl ?_
        rintro v rfl
        simp only [h0, h3, h4, List.length_append, numB_len, hlt2, w1, RX, VOp.fresh, bxC, bsC, un, most, callsOf, seval, Int.reducePow, ↓reduceIte, Nat.reduceEqDiff, reduceCtorEq]
        refine next _ ?_ ?_ ?_
        · simp only [h0, sg_set, Nat.reduceEqDiff, ↓reduceIte]
        · simp only [sg_set, Nat.reduceEqDiff, ↓reduceIte]
          rw [opB, e1, if_neg (by decide), if_pos rfl, List.append_assoc]
        · simp only [sg_set, Nat.reduceEqDiff, ↓reduceIte]
      · simp only [h0, h3, h4, numB_len, hlt, g1, List.cons_append, List.nil_append, e0, e1, RX, VOp.fresh, bxC, bsC, un, most, callsOf, seval, Int.reducePow, ↓reduceIte, Nat.reduceEqDiff, reduceCtorEq]
        refine (putMap_pu g hsv huv hos.2.1 hos.2.2).go (by simp [AV.tolds, AV.told, hsv.told tInt, huv.told tInt]) ?_
        rintro v rfl
        simp only [h0, h3, h4, List.length_append, numB_len, hlm, w1, RX, VOp.fresh, bxC, bsC, un, most, callsOf, seval, Int.reducePow, ↓reduceIte, Nat.reduceEqDiff, reduceCtorEq]
        refine next _ ?_ ?_ ?_
        · simp only [h0, sg_set, Nat.reduceEqDiff, ↓reduceIte]
        · simp only [sg_set, Nat.reduceEqDiff, ↓reduceIte]
          rw [opB, if_neg e0, if_neg e1, List.append_assoc]
        · simp only [sg_set, Nat.reduceEqDiff, ↓reduceIte]
theorem putOps_pu (g : Pg P tab) {v : AV} {l : List Op} (hv : IsL 112 ROp v l) (hl : l.length ≤ 1000) (hs : ∀ o ∈ l, opSmall o) : Pu P 55 [v] (fun x => x = .str (opsB l)) := by
  refine g.pu (vf := v55) rfl rfl ?_
  simp only [v55, hv.len, RX, VOp.fresh, bxC, bsC, un, most, callsOf, seval, Int.reducePow, ↓reduceIte, Nat.reduceEqDiff, reduceCtorEq]
  refine (be1_pu g _).go rfl ?_
  rintro x rfl
  simp only [RX, VOp.fresh, bxC, bsC, un, most, callsOf, seval, Int.reducePow, ↓reduceIte, Nat.reduceEqDiff, reduceCtorEq]
  refine ops_loop g hv hl hs _ (numB l.length 1) (by rw [numB_len]; omega) l.length 0 _ _ _ (by omega) ?_ ?_ ?_ ?_
  · simp only [sg_set, Nat.reduceEqDiff, ↓reduceIte]
  · simp only [sg_set, Nat.reduceEqDiff, ↓reduceIte]
    simp
  · simp only [sg_set, Nat.reduceEqDiff, ↓reduceIte]
    rfl
  · intro s' h3
    simp only [h3, RX, VOp.fresh, bxC, bsC, un, most, callsOf, seval, Int.reducePow, ↓reduceIte, Nat.reduceEqDiff, reduceCtorEq]
    rfl
end
end Go.Proofs.Ytinonmcnofjeeaa.VM
namespace Go.Proofs.Ytinonmcnofjeeaa.VM
attribute [local irreducible] Af Nx EvO Ev Un Gd Cd EvR EvQ EvC Nc Gc Lp EvM NxM AfM GdM EvMR EvMQ EvMD EvMC Nm Gm
section
variable {P : Program}
theorem wname (g : Pg P tab) {x y : Int} {k : List (Nat × Blk)} {h : Heap} {b : Nat} {s : List Nat} (w : WR k h b s)
    (hl : s.length + 3 ≤ 140737488355328) {Q : AV → Heap → Prop} (q : ∀ v h', WR k h' b (s ++ txB x y) → Q v h') : Cl P 48 [.ptr b 0, .agg [.int .i64 x, .int .i64 y]] h Q := by
  refine g.cl (vf := v48) rfl rfl ?_
  simp only [v48, RX, VOp.fresh, bxC, bsC, un, most, callsOf, seval, Int.reducePow, ↓reduceIte, Nat.reduceEqDiff, reduceCtorEq]
  refine wnum (n := 1) g (num1_pu g x) (by decide) (w.add _) (by omega) fun v h1 w1 => ?_
  have hk := (w1.keep _ List.mem_cons_self).2.2
  simp only at hk
  simp only [hk, RX, VOp.fresh, bxC, bsC, un, most, callsOf, seval, Int.reducePow, ↓reduceIte, Nat.reduceEqDiff, reduceCtorEq]
  refine wnum (n := 2) g (num2_pu g y) (by decide) w1 (by rw [List.length_append, numB_len]; omega) fun v h2 w2 => ?_
  simp only [RX, VOp.fresh, bxC, bsC, un, most, callsOf, seval, Int.reducePow, ↓reduceIte, Nat.reduceEqDiff, reduceCtorEq]
  exact q _ _ (by rw [txB, ← List.append_assoc]; exact w2.less)
theorem wbool (g : Pg P tab) {t : Bool} {k : List (Nat × Blk)} {h : Heap} {b : Nat} {s : List Nat} (w : WR k h b s)
    (hl : s.length + 1 ≤ 140737488355328) {Q : AV → Heap → Prop} (q : ∀ v h', WR k h' b (s ++ bitB t) → Q v h') : Cl P 50 [.ptr b 0, .bool t] h Q := by
  refine g.cl (vf := v50) rfl rfl ?_
  cases t
  · simp only [v50, RX, VOp.fresh, bxC, bsC, un, most, callsOf, seval, Int.reducePow, ↓reduceIte, Nat.reduceEqDiff, reduceCtorEq]
    refine wnum (n := 1) g (num1_pu g 0) (by decide) w (by omega) fun v h1 w1 => ?_
    simp only [RX, VOp.fresh, bxC, bsC, un, most, callsOf, seval, Int.reducePow, ↓reduceIte, Nat.reduceEqDiff, reduceCtorEq]
    exact q _ _ w1
  · simp only [v50, RX, VOp.fresh, bxC, bsC, un, most, callsOf, seval, Int.reducePow, ↓reduceIte, Nat.reduceEqDiff, reduceCtorEq]
    refine wnum (n := 1) g (num1_pu g 1) (by decide) w (by omega) fun v h1 w1 => ?_
    simp only [RX, VOp.fresh, bxC, bsC, un, most, callsOf, seval, Int.reducePow, ↓reduceIte, Nat.reduceEqDiff, reduceCtorEq]
    exact q _ _ w1
theorem wstarts (g : Pg P tab) {l : List Int} {a : AV} (ha : IsL 8 RInt a l) {K : List (Nat × Blk)} {b : Nat} {p : AV} (acc : List Nat) (hacc : acc.length + l.length * 4 ≤ 140737488000000) (n : Nat) :
    ∀ (i : Nat) (s : T AV) (h : Heap) (k : List Fr) (Q : Ex → T AV → Heap → Prop), i + n = l.length → WR K h b (acc ++ ((l.take i).map (numB · 4)).flatten) → sg s 0 = .ptr b 0 → sg s 1 = p → sg s 24 = a → sg s 25 = .int .i64 l.length → sg s 26 = .int .i64 i →
      (∀ s' h', WR K h' b (acc ++ (l.map (numB · 4)).flatten) → sg s' 0 = .ptr b 0 → sg s' 1 = p → Un P k Q (.exit 0) s' h') → Lp P b47_0 s h (Un P k Q) := by
  have hb := ha.bound (by decide)
  induction n with
  | zero =>
    intro i s h k Q hi w h0 h1 h24 h25 h26 hK
    refine g.lpe b47_0.eq_1 ?_
    have c1 : ¬ ((i : Int) < (l.length : Int)) := by omega
    simp only [h0, h1, h24, h25, h26, c1, RX, VOp.fresh, bxC, bsC, un, most, callsOf, seval, Int.reducePow, ↓reduceIte, Nat.reduceEqDiff, reduceCtorEq]
    have : l.take i = l := List.take_of_length_le (by omega)
    rw [this] at w
    refine hK _ _ w ?_ ?_
    · simp only [h0, sg_set, Nat.reduceEqDiff, ↓reduceIte]
    · simp only [h1, sg_set, Nat.reduceEqDiff, ↓reduceIte]
  | succ n ih =>
    intro i s h k Q hi w h0 h1 h24 h25 h26 hK
    refine g.lpe b47_0.eq_1 ?_
    have c1 : (i : Int) < (l.length : Int) := by omega
    obtain ⟨r1, _, g1⟩ := getInt ha i (by omega)
    have w1 : IntKind.i64.wrap ((i : Int) + 1) = ((i + 1 : Nat) : Int) := by rw [w64 (by omega) (by omega)]; push_cast; rfl
    have hlt : (acc ++ ((l.take i).map (numB · 4)).flatten).length + 4 ≤ 140737488355328 := by
      have := flat_lenT (F := (numB · 4)) (B := 4) (l := l) (fun x _ => by simp only [numB_len]; omega) i
      rw [List.length_append]; omega
    simp only [h0, h1, h24, h25, h26, c1, g1, RX, VOp.fresh, bxC, bsC, un, most, callsOf, seval, Int.reducePow, ↓reduceIte, Nat.reduceEqDiff, reduceCtorEq]
    refine wnum (n := 4) g (num4_pu g _) (by decide) w hlt fun v h' w' => ?_
    simp only [h0, h1, h24, h25, h26, w1, RX, VOp.fresh, bxC, bsC, un, most, callsOf, seval, Int.reducePow, ↓reduceIte, Nat.reduceEqDiff, reduceCtorEq]
    rw [List.append_assoc, getD_int (by omega), flat_take (numB · 4) l i (by omega)] at w'
    refine ih (i + 1) _ h' k Q (by omega) w' ?_ ?_ ?_ ?_ ?_ hK
    · simp only [h0, sg_set, Nat.reduceEqDiff, ↓reduceIte]
    · simp only [h1, sg_set, Nat.reduceEqDiff, ↓reduceIte]
    · simp only [h24, sg_set, Nat.reduceEqDiff, ↓reduceIte]
    · simp only [h25, sg_set, Nat.reduceEqDiff, ↓reduceIte]
    · simp only [sg_set, Nat.reduceEqDiff, ↓reduceIte]
theorem wowners (g : Pg P tab) {l : List Int} {a : AV} (ha : IsL 8 RInt a l) {K : List (Nat × Blk)} {b : Nat} (acc : List Nat) (hacc : acc.length + l.length * 1 ≤ 140737488000000) (n : Nat) :
    ∀ (i : Nat) (s : T AV) (h : Heap) (k : List Fr) (Q : Ex → T AV → Heap → Prop), i + n = l.length → WR K h b (acc ++ ((l.take i).map (numB · 1)).flatten) → sg s 0 = .ptr b 0 → sg s 37 = a → sg s 38 = .int .i64 l.length → sg s 39 = .int .i64 i →
      (∀ s' h', WR K h' b (acc ++ (l.map (numB · 1)).flatten) → sg s' 0 = .ptr b 0 → Un P k Q (.exit 2) s' h') → Lp P b47_1 s h (Un P k Q) := by
  have hb := ha.bound (by decide)
  induction n with
  | zero =>
    intro i s h k Q hi w h0 h24 h25 h26 hK
    refine g.lpe b47_1.eq_1 ?_
    have c1 : ¬ ((i : Int) < (l.length : Int)) := by omega
    simp only [h0, h24, h25, h26, c1, RX, VOp.fresh, bxC, bsC, un, most, callsOf, seval, Int.reducePow, ↓reduceIte, Nat.reduceEqDiff, reduceCtorEq]
    have : l.take i = l := List.take_of_length_le (by omega)
    rw [this] at w
    refine hK _ _ w ?_
    · simp only [h0, sg_set, Nat.reduceEqDiff, ↓reduceIte]
  | succ n ih =>
    intro i s h k Q hi w h0 h24 h25 h26 hK
    refine g.lpe b47_1.eq_1 ?_
    have c1 : (i : Int) < (l.length : Int) := by omega
    obtain ⟨r1, _, g1⟩ := getInt ha i (by omega)
    have w1 : IntKind.i64.wrap ((i : Int) + 1) = ((i + 1 : Nat) : Int) := by rw [w64 (by omega) (by omega)]; push_cast; rfl
    have hlt : (acc ++ ((l.take i).map (numB · 1)).flatten).length + 1 ≤ 140737488355328 := by
      have := flat_lenT (F := (numB · 1)) (B := 1) (l := l) (fun x _ => by simp only [numB_len]; omega) i
      rw [List.length_append]; omega
    simp only [h0, h24, h25, h26, c1, g1, RX, VOp.fresh, bxC, bsC, un, most, callsOf, seval, Int.reducePow, ↓reduceIte, Nat.reduceEqDiff, reduceCtorEq]
    refine wnum (n := 1) g (num1_pu g _) (by decide) w hlt fun v h' w' => ?_
    simp only [h0, h24, h25, h26, w1, RX, VOp.fresh, bxC, bsC, un, most, callsOf, seval, Int.reducePow, ↓reduceIte, Nat.reduceEqDiff, reduceCtorEq]
    rw [List.append_assoc, getD_int (by omega), flat_take (numB · 1) l i (by omega)] at w'
    refine ih (i + 1) _ h' k Q (by omega) w' ?_ ?_ ?_ ?_ hK
    · simp only [h0, sg_set, Nat.reduceEqDiff, ↓reduceIte]
    · simp only [h24, sg_set, Nat.reduceEqDiff, ↓reduceIte]
    · simp only [h25, sg_set, Nat.reduceEqDiff, ↓reduceIte]
    · simp only [sg_set, Nat.reduceEqDiff, ↓reduceIte]
def mapArg (K : List (Nat × Blk)) (m : Mp) (a u p : AV) : Prop := (∃ r, p = .rp (.int .i64 m.epoch :: a :: u :: r)) ∨ ∃ c0 c1 c2 c3 c4 r e ver, p = .ptr 0 5 ∧ ((0, .cells (c0 :: c1 :: c2 :: c3 :: c4 :: .int .i64 m.epoch :: a :: u :: r) e ver) : Nat × Blk) ∈ K
theorem wmap (g : Pg P tab) {m : Mp} {a u p : AV} (ha : IsL 8 RInt a m.starts) (hu : IsL 8 RInt u m.owners) (hs : m.starts.length ≤ 1000) (ho : m.owners.length ≤ 1000) {K : List (Nat × Blk)} (hp : mapArg K m a u p) {h : Heap} {b : Nat} {s : List Nat} (w : WR K h b s)
    (hl : s.length ≤ 100000000000) {Q : AV → Heap → Prop} (q : ∀ v h', WR K h' b (s ++ mpB m) → Q v h') : Cl P 47 [.ptr b 0, p] h Q := by
  refine g.cl (vf := v47) rfl rfl ?_
  rcases hp with ⟨r, rfl⟩ | ⟨c0, c1, c2, c3, c4, r, e, ver, rfl, hm⟩
  · skip
    simp only [v47, RX, VOp.fresh, bxC, bsC, un, most, callsOf, seval, Int.reducePow, ↓reduceIte, Nat.reduceEqDiff, reduceCtorEq]
    refine wnum (n := 2) g (num2_pu g _) (by decide) w (by omega) fun v h1 w1 => ?_
    simp only [ha.len, RX, VOp.fresh, bxC, bsC, un, most, callsOf, seval, Int.reducePow, ↓reduceIte, Nat.reduceEqDiff, reduceCtorEq]
    refine wnum (n := 1) g (num1_pu g _) (by decide) w1 (by rw [List.length_append, numB_len]; omega) fun v h2 w2 => ?_
    simp only [ha.len, RX, VOp.fresh, bxC, bsC, un, most, callsOf, seval, Int.reducePow, ↓reduceIte, Nat.reduceEqDiff, reduceCtorEq]
    refine wstarts g ha (p := .rp (.int .i64 m.epoch :: a :: u :: r)) (s ++ numB m.epoch 2 ++ numB m.starts.length 1) (by rw [List.length_append, List.length_append, numB_len, numB_len]; omega) m.starts.length 0 _ _ _ _ (by omega) (by simpa using w2) ?_ ?_ ?_ ?_ ?_ ?_
    · simp only [sg_set, Nat.reduceEqDiff, ↓reduceIte]
    · simp only [sg_set, Nat.reduceEqDiff, ↓reduceIte]
    · simp only [sg_set, Nat.reduceEqDiff, ↓reduceIte]
    · simp only [sg_set, Nat.reduceEqDiff, ↓reduceIte]
    · simp only [sg_set, Nat.reduceEqDiff, ↓reduceIte]
      rfl
    · intro s' h3 w3 a0 a1
      simp only [a0, a1, hu.len, RX, VOp.fresh, bxC, bsC, un, most, callsOf, seval, Int.reducePow, ↓reduceIte, Nat.reduceEqDiff, reduceCtorEq]
      refine wowners g hu (s ++ numB m.epoch 2 ++ numB m.starts.length 1 ++ (m.starts.map (numB · 4)).flatten) ?_ m.owners.length 0 _ _ _ _ (by omega) (by simpa using w3) ?_ ?_ ?_ ?_ ?_
      · have := flatB_len (F := (numB · 4)) (B := 4) (l := m.starts) (fun x _ => by simp only [numB_len]; omega)
        rw [List.length_append, List.length_append, List.length_append, numB_len, numB_len]; omega
      · simp only [a0, sg_set, Nat.reduceEqDiff, ↓reduceIte]
      · simp only [sg_set, Nat.reduceEqDiff, ↓reduceIte]
      · simp only [sg_set, Nat.reduceEqDiff, ↓reduceIte]
      · simp only [sg_set, Nat.reduceEqDiff, ↓reduceIte]
        rfl
      · intro s' h4 w4 a0
        simp only [RX, VOp.fresh, bxC, bsC, un, most, callsOf, seval, Int.reducePow, ↓reduceIte, Nat.reduceEqDiff, reduceCtorEq]
        refine q _ _ ?_
        simpa only [mpB, List.append_assoc] using w4
  · skip
    have k0 := (w.keep _ hm).2.2
    simp only at k0
    simp only [v47, k0, RX, VOp.fresh, bxC, bsC, un, most, callsOf, seval, Int.reducePow, ↓reduceIte, Nat.reduceEqDiff, reduceCtorEq]
    refine wnum (n := 2) g (num2_pu g _) (by decide) w (by omega) fun v h1 w1 => ?_
    have k1 := (w1.keep _ hm).2.2
    simp only at k1
    simp only [k1, ha.len, RX, VOp.fresh, bxC, bsC, un, most, callsOf, seval, Int.reducePow, ↓reduceIte, Nat.reduceEqDiff, reduceCtorEq]
    refine wnum (n := 1) g (num1_pu g _) (by decide) w1 (by rw [List.length_append, numB_len]; omega) fun v h2 w2 => ?_
    have k2 := (w2.keep _ hm).2.2
    simp only at k2
    simp only [k2, ha.len, RX, VOp.fresh, bxC, bsC, un, most, callsOf, seval, Int.reducePow, ↓reduceIte, Nat.reduceEqDiff, reduceCtorEq]
    refine wstarts g ha (p := .ptr 0 5) (s ++ numB m.epoch 2 ++ numB m.starts.length 1) (by rw [List.length_append, List.length_append, numB_len, numB_len]; omega) m.starts.length 0 _ _ _ _ (by omega) (by simpa using w2) ?_ ?_ ?_ ?_ ?_ ?_
    · simp only [sg_set, Nat.reduceEqDiff, ↓reduceIte]
    · simp only [sg_set, Nat.reduceEqDiff, ↓reduceIte]
    · simp only [sg_set, Nat.reduceEqDiff, ↓reduceIte]
    · simp only [sg_set, Nat.reduceEqDiff, ↓reduceIte]
    · simp only [sg_set, Nat.reduceEqDiff, ↓reduceIte]
      rfl
    · intro s' h3 w3 a0 a1
      have k3 := (w3.keep _ hm).2.2
      simp only at k3
      simp only [a0, a1, k3, hu.len, RX, VOp.fresh, bxC, bsC, un, most, callsOf, seval, Int.reducePow, ↓reduceIte, Nat.reduceEqDiff, reduceCtorEq]
      refine wowners g hu (s ++ numB m.epoch 2 ++ numB m.starts.length 1 ++ (m.starts.map (numB · 4)).flatten) ?_ m.owners.length 0 _ _ _ _ (by omega) (by simpa using w3) ?_ ?_ ?_ ?_ ?_
      · have := flatB_len (F := (numB · 4)) (B := 4) (l := m.starts) (fun x _ => by simp only [numB_len]; omega)
        rw [List.length_append, List.length_append, List.length_append, numB_len, numB_len]; omega
      · simp only [a0, sg_set, Nat.reduceEqDiff, ↓reduceIte]
      · simp only [sg_set, Nat.reduceEqDiff, ↓reduceIte]
      · simp only [sg_set, Nat.reduceEqDiff, ↓reduceIte]
      · simp only [sg_set, Nat.reduceEqDiff, ↓reduceIte]
        rfl
      · intro s' h4 w4 a0
        simp only [RX, VOp.fresh, bxC, bsC, un, most, callsOf, seval, Int.reducePow, ↓reduceIte, Nat.reduceEqDiff, reduceCtorEq]
        refine q _ _ ?_
        simpa only [mpB, List.append_assoc] using w4
end
section
variable {P : Program}
theorem wpts (g : Pg P tab) {l : List Pt} {a : AV} (ha : IsL 16 RPt a l) {K : List (Nat × Blk)} {b : Nat} {x30 x31 x32 : AV} (acc : List Nat) (hacc : acc.length + l.length * 8 ≤ 140737488000000) (n : Nat) :
    ∀ (i : Nat) (s : T AV) (h : Heap) (k : List Fr) (Q : Ex → T AV → Heap → Prop), i + n = l.length → WR K h b (acc ++ ((l.take i).map ptB).flatten) → sg s 0 = .ptr b 0 → sg s 30 = x30 → sg s 31 = x31 → sg s 32 = x32 → sg s 40 = a → sg s 41 = .int .i64 l.length → sg s 42 = .int .i64 i →
      (∀ s' h', WR K h' b (acc ++ (l.map ptB).flatten) → sg s' 0 = .ptr b 0 → sg s' 30 = x30 → sg s' 31 = x31 → sg s' 32 = x32 → Un P k Q (.exit 2) s' h') → Lp P b73_0 s h (Un P k Q) := by
  have hb := ha.bound (by decide)
  induction n with
  | zero =>
    intro i s h k Q hi w h0 h30 h31 h32 h40 h41 h42 hK
    refine g.lpe b73_0.eq_1 ?_
    have c1 : ¬ ((i : Int) < (l.length : Int)) := by omega
    simp only [h0, h30, h31, h32, h40, h41, h42, c1, RX, VOp.fresh, bxC, bsC, un, most, callsOf, seval, Int.reducePow, ↓reduceIte, Nat.reduceEqDiff, reduceCtorEq]
    have : l.take i = l := List.take_of_length_le (by omega)
    rw [this] at w
    refine hK _ _ w ?_ ?_ ?_ ?_
    · simp only [h0, sg_set, Nat.reduceEqDiff, ↓reduceIte]
    · simp only [h30, sg_set, Nat.reduceEqDiff, ↓reduceIte]
    · simp only [h31, sg_set, Nat.reduceEqDiff, ↓reduceIte]
    · simp only [h32, sg_set, Nat.reduceEqDiff, ↓reduceIte]
  | succ n ih =>
    intro i s h k Q hi w h0 h30 h31 h32 h40 h41 h42 hK
    refine g.lpe b73_0.eq_1 ?_
    have c1 : (i : Int) < (l.length : Int) := by omega
    obtain ⟨r1, _, g1⟩ := getPt ha i (by omega)
    have w1 : IntKind.i64.wrap ((i : Int) + 1) = ((i + 1 : Nat) : Int) := by rw [w64 (by omega) (by omega)]; push_cast; rfl
    have hA0 : (acc ++ ((l.take i).map ptB).flatten).length + 8 ≤ 140737488355328 := by
      have := flat_lenT (F := ptB) (B := 8) (l := l) (fun x _ => by rw [ptB_len]; omega) i
      rw [List.length_append]; omega
    have hA1 : acc ++ ((l.take i).map ptB).flatten ++ ptB (l.getD i ⟨0, 0⟩) = acc ++ ((l.take (i + 1)).map ptB).flatten := by
      rw [getD_pt (by omega), List.append_assoc, flat_take ptB l i (by omega)]
    generalize acc ++ ((l.take i).map ptB).flatten = A at *
    generalize l.getD i ⟨0, 0⟩ = pt at *
    simp only [RW, h0, h30, h31, h32, h40, h41, h42, c1, g1, RX, VOp.fresh, bxC, bsC, un, most, callsOf, seval, Int.reducePow, ↓reduceIte, Nat.reduceEqDiff, reduceCtorEq]
    refine wnum (n := 4) g (num4_pu g _) (by decide) ((w.add _).upd w.fresh _) (by omega) fun v h1 w2 => ?_
    have hk := (w2.keep _ List.mem_cons_self).2.2
    simp only at hk
    simp only [h0, h30, h31, h32, h40, h41, h42, hk, RX, VOp.fresh, bxC, bsC, un, most, callsOf, seval, Int.reducePow, ↓reduceIte, Nat.reduceEqDiff, reduceCtorEq]
    refine wnum (n := 4) g (num4_pu g _) (by decide) w2 (by rw [List.length_append, numB_len]; omega) fun v h1 w3 => ?_
    simp only [h0, h30, h31, h32, h40, h41, h42, w1, RX, VOp.fresh, bxC, bsC, un, most, callsOf, seval, Int.reducePow, ↓reduceIte, Nat.reduceEqDiff, reduceCtorEq]
    have w4 := w3.less
    rw [List.append_assoc, ← ptB, hA1] at w4
    refine ih (i + 1) _ _ k Q (by omega) w4 ?_ ?_ ?_ ?_ ?_ ?_ ?_ hK
    · simp only [h0, sg_set, Nat.reduceEqDiff, ↓reduceIte]
    · simp only [h30, sg_set, Nat.reduceEqDiff, ↓reduceIte]
    · simp only [h31, sg_set, Nat.reduceEqDiff, ↓reduceIte]
    · simp only [h32, sg_set, Nat.reduceEqDiff, ↓reduceIte]
    · simp only [h40, sg_set, Nat.reduceEqDiff, ↓reduceIte]
    · simp only [h41, sg_set, Nat.reduceEqDiff, ↓reduceIte]
    · simp only [sg_set, Nat.reduceEqDiff, ↓reduceIte]
theorem wrings (g : Pg P tab) {l : List (List Pt)} {a : AV} (ha : IsL 24 RRing a l) (hl2 : ∀ r ∈ l, r.length ≤ 1000) {K : List (Nat × Blk)} {b : Nat} (acc : List Nat) (hacc : acc.length + l.length * 8001 ≤ 140737400000000) (n : Nat) :
    ∀ (i : Nat) (s : T AV) (h : Heap) (k : List Fr) (Q : Ex → T AV → Heap → Prop), i + n = l.length → WR K h b (acc ++ ((l.take i).map ringB).flatten) → sg s 0 = .ptr b 0 → sg s 30 = a → sg s 31 = .int .i64 l.length → sg s 32 = .int .i64 i →
      (∀ s' h', WR K h' b (acc ++ (l.map ringB).flatten) → Un P k Q (.exit 0) s' h') → Lp P b73_1 s h (Un P k Q) := by
  have hb := ha.bound (by decide)
  induction n with
  | zero =>
    intro i s h k Q hi w h0 h30 h31 h32 hK
    refine g.lpe b73_1.eq_1 ?_
    have c1 : ¬ ((i : Int) < (l.length : Int)) := by omega
    simp only [h0, h30, h31, h32, c1, RX, VOp.fresh, bxC, bsC, un, most, callsOf, seval, Int.reducePow, ↓reduceIte, Nat.reduceEqDiff, reduceCtorEq]
    have : l.take i = l := List.take_of_length_le (by omega)
    rw [this] at w
    exact hK _ _ w
  | succ n ih =>
    intro i s h k Q hi w h0 h30 h31 h32 hK
    refine g.lpe b73_1.eq_1 ?_
    have c1 : (i : Int) < (l.length : Int) := by omega
    obtain ⟨rv, r1, hrv, _, g1⟩ := getRing ha i (by omega)
    have hrl : (l.getD i []).length ≤ 1000 := by rw [getD_ring (by omega)]; exact hl2 _ (List.getElem_mem _)
    have w1 : IntKind.i64.wrap ((i : Int) + 1) = ((i + 1 : Nat) : Int) := by rw [w64 (by omega) (by omega)]; push_cast; rfl
    have hA0 : (acc ++ ((l.take i).map ringB).flatten).length ≤ 140737400000000 := by
      have := flat_lenT (F := ringB) (B := 8001) (l := l) (fun x hx => ringB_len (hl2 x hx)) i
      rw [List.length_append]; omega
    have hA1 : acc ++ ((l.take i).map ringB).flatten ++ ringB (l.getD i []) = acc ++ ((l.take (i + 1)).map ringB).flatten := by
      rw [getD_ring (by omega), List.append_assoc, flat_take ringB l i (by omega)]
    generalize acc ++ ((l.take i).map ringB).flatten = A at *
    generalize l.getD i [] = ring at *
    simp only [h0, h30, h31, h32, c1, g1, hrv.len, RX, VOp.fresh, bxC, bsC, un, most, callsOf, seval, Int.reducePow, ↓reduceIte, Nat.reduceEqDiff, reduceCtorEq]
    refine wnum (n := 1) g (num1_pu g _) (by decide) w (by omega) fun v h1 w2 => ?_
    simp only [h0, h30, h31, h32, hrv.len, RX, VOp.fresh, bxC, bsC, un, most, callsOf, seval, Int.reducePow, ↓reduceIte, Nat.reduceEqDiff, reduceCtorEq]
    refine wpts g hrv (x30 := a) (x31 := .int .i64 l.length) (x32 := .int .i64 i) (A ++ numB ring.length 1) (by rw [List.length_append, numB_len]; omega) ring.length 0 _ _ _ _ (by omega) (by simpa using w2) ?_ ?_ ?_ ?_ ?_ ?_ ?_ ?_
    · simp only [h0, sg_set, Nat.reduceEqDiff, ↓reduceIte]
    · simp only [h30, sg_set, Nat.reduceEqDiff, ↓reduceIte]
    · simp only [h31, sg_set, Nat.reduceEqDiff, ↓reduceIte]
    · simp only [h32, sg_set, Nat.reduceEqDiff, ↓reduceIte]
    · simp only [sg_set, Nat.reduceEqDiff, ↓reduceIte]
    · simp only [sg_set, Nat.reduceEqDiff, ↓reduceIte]
    · simp only [sg_set, Nat.reduceEqDiff, ↓reduceIte]
      rfl
    · intro s' h' w3 a0 a30 a31 a32
      simp only [a0, a30, a31, a32, w1, RX, VOp.fresh, bxC, bsC, un, most, callsOf, seval, Int.reducePow, ↓reduceIte, Nat.reduceEqDiff, reduceCtorEq]
      rw [List.append_assoc, ← ringB, hA1] at w3
      refine ih (i + 1) _ _ k Q (by omega) w3 ?_ ?_ ?_ ?_ hK
      · simp only [a0, sg_set, Nat.reduceEqDiff, ↓reduceIte]
      · simp only [a30, sg_set, Nat.reduceEqDiff, ↓reduceIte]
      · simp only [a31, sg_set, Nat.reduceEqDiff, ↓reduceIte]
      · simp only [sg_set, Nat.reduceEqDiff, ↓reduceIte]
theorem wfeat (g : Pg P tab) {f : Feat} {v : AV} (hv : IsL 24 RRing v f.rings) (hs : featSmall f) {r : List AV} {K : List (Nat × Blk)} {h : Heap} {b : Nat} {s : List Nat} (w : WR K h b s)
    (hl : s.length ≤ 100000000000) {Q : AV → Heap → Prop} (q : ∀ v h', WR K h' b (s ++ featB f) → Q v h') : Cl P 73 [.ptr b 0, .rp (.int .i64 f.id :: .int .i64 f.shape :: v :: r)] h Q := by
  refine g.cl (vf := v73) rfl rfl ?_
  simp only [v73, RX, VOp.fresh, bxC, bsC, un, most, callsOf, seval, Int.reducePow, ↓reduceIte, Nat.reduceEqDiff, reduceCtorEq]
  refine wnum (n := 2) g (num2_pu g _) (by decide) w (by omega) fun _ h1 w1 => ?_
  simp only [RX, VOp.fresh, bxC, bsC, un, most, callsOf, seval, Int.reducePow, ↓reduceIte, Nat.reduceEqDiff, reduceCtorEq]
  refine wnum (n := 1) g (num1_pu g _) (by decide) w1 (by rw [List.length_append, numB_len]; omega) fun _ h2 w2 => ?_
  simp only [hv.len, RX, VOp.fresh, bxC, bsC, un, most, callsOf, seval, Int.reducePow, ↓reduceIte, Nat.reduceEqDiff, reduceCtorEq]
  refine wnum (n := 1) g (num1_pu g _) (by decide) w2 (by rw [List.length_append, List.length_append, numB_len, numB_len]; omega) fun _ h3 w3 => ?_
  simp only [hv.len, RX, VOp.fresh, bxC, bsC, un, most, callsOf, seval, Int.reducePow, ↓reduceIte, Nat.reduceEqDiff, reduceCtorEq]
  refine wrings g hv hs.2 (s ++ numB f.id 2 ++ numB f.shape 1 ++ numB f.rings.length 1) ?_ f.rings.length 0 _ _ _ _ (by omega) (by simpa using w3) ?_ ?_ ?_ ?_ ?_
  · have := hs.1
    simp only [List.length_append, numB_len]; omega
  · simp only [sg_set, Nat.reduceEqDiff, ↓reduceIte]
  · simp only [sg_set, Nat.reduceEqDiff, ↓reduceIte]
  · simp only [sg_set, Nat.reduceEqDiff, ↓reduceIte]
  · simp only [sg_set, Nat.reduceEqDiff, ↓reduceIte]
    rfl
  · intro s' h4 w4
    simp only [RX, VOp.fresh, bxC, bsC, un, most, callsOf, seval, Int.reducePow, ↓reduceIte, Nat.reduceEqDiff, reduceCtorEq]
    refine q _ _ ?_
    simpa only [featB, List.append_assoc] using w4
end
section
variable {P : Program}
theorem wopsl (g : Pg P tab) {l : List Op} {a : AV} (ha : IsL 112 ROp a l) (hl : l.length ≤ 1000) (hs : ∀ o ∈ l, opSmall o) {K : List (Nat × Blk)} {b : Nat} (acc : List Nat) (hacc : acc.length ≤ 10000) (n : Nat) :
    ∀ (i : Nat) (s : T AV) (h : Heap) (k : List Fr) (Q : Ex → T AV → Heap → Prop), i + n = l.length → WR K h b (acc ++ ((l.take i).map opB).flatten) → sg s 0 = .ptr b 0 → sg s 2 = a → sg s 17 = .int .i64 l.length → sg s 18 = .int .i64 i →
      (∀ s' h', WR K h' b (acc ++ (l.map opB).flatten) → Un P k Q (.exit 0) s' h') → Lp P b49_0 s h (Un P k Q) := by
  have hb := ha.bound (by decide)
  induction n with
  | zero =>
    intro i s h k Q hi w h0 h2 h17 h18 hK
    refine g.lpe b49_0.eq_1 ?_
    have c1 : ¬ ((i : Int) < (l.length : Int)) := by omega
    simp only [h0, h2, h17, h18, c1, RX, VOp.fresh, bxC, bsC, un, most, callsOf, seval, Int.reducePow, ↓reduceIte, Nat.reduceEqDiff, reduceCtorEq]
    have : l.take i = l := List.take_of_length_le (by omega)
    rw [this] at w
    exact hK _ _ w
  | succ n ih =>
    intro i s h k Q hi w h0 h2 h17 h18 hK
    refine g.lpe b49_0.eq_1 ?_
    have c1 : (i : Int) < (l.length : Int) := by omega
    obtain ⟨c, r, hc, tc, tr, g1⟩ := getOp ha i (by omega)
    have hos : opSmall (l.getD i op0) := by rw [getD_op (by omega)]; exact hs _ (List.getElem_mem _)
    have w1 : IntKind.i64.wrap ((i : Int) + 1) = ((i + 1 : Nat) : Int) := by rw [w64 (by omega) (by omega)]; push_cast; rfl
    have hA0 : (acc ++ ((l.take i).map opB).flatten).length ≤ 10000000000 := by
      have := flat_lenT (F := opB) (B := 9000001) (l := l) (fun x hx => opB_len (hs x hx)) i
      rw [List.length_append]; omega
    have hA1 : acc ++ ((l.take i).map opB).flatten ++ opB (l.getD i op0) = acc ++ ((l.take (i + 1)).map opB).flatten := by
      rw [getD_op (by omega), List.append_assoc, flat_take opB l i (by omega)]
    generalize acc ++ ((l.take i).map opB).flatten = A at *
    generalize l.getD i op0 = o at *
    obtain ⟨fv, sv, uv, rfl, _, _, _, hfv, _, _, hsv, huv⟩ := hc
    simp only [h0, h2, h17, h18, c1, g1, List.cons_append, List.nil_append, RX, VOp.fresh, bxC, bsC, un, most, callsOf, seval, Int.reducePow, ↓reduceIte, Nat.reduceEqDiff, reduceCtorEq]
    refine wnum (n := 1) g (num1_pu g _) (by decide) w (by omega) fun _ h1 w2 => ?_
    have next : ∀ s' h', WR K h' b (A ++ opB o) → sg s' 0 = .ptr b 0 → sg s' 2 = a → sg s' 17 = .int .i64 l.length → sg s' 18 = .int .i64 ((i + 1 : Nat) : Int) → Lp P b49_0 s' h' (Un P k Q) := by
      intro s' h' w' a1 a2 a3 a4
      exact ih (i + 1) s' h' k Q (by omega) (by rw [← hA1]; exact w') a1 a2 a3 a4 hK
    by_cases e0 : o.kind = 0
    · simp only [h0, h2, h17, h18, e0, RX, VOp.fresh, bxC, bsC, un, most, callsOf, seval, Int.reducePow, ↓reduceIte, Nat.reduceEqDiff, reduceCtorEq]
      refine wfeat g hfv hos.1 w2 (by rw [List.length_append, numB_len]; omega) fun _ h3 w3 => ?_
      simp only [h0, h2, h17, h18, w1, RX, VOp.fresh, bxC, bsC, un, most, callsOf, seval, Int.reducePow, ↓reduceIte, Nat.reduceEqDiff, reduceCtorEq]
      refine next _ _ ?_ ?_ ?_ ?_ ?_
      · rw [opB, e0, if_pos rfl, ← List.append_assoc, ← e0]; exact w3
      · simp only [h0, sg_set, Nat.reduceEqDiff, ↓reduceIte]
      · simp only [h2, sg_set, Nat.reduceEqDiff, ↓reduceIte]
      · simp only [h17, sg_set, Nat.reduceEqDiff, ↓reduceIte]
      · simp only [sg_set, Nat.reduceEqDiff, ↓reduceIte]
    · by_cases e1 : o.kind = 1
      · simp only [h0, h2, h17, h18, e1, RX, VOp.fresh, bxC, bsC, un, most, callsOf, seval, Int.reducePow, ↓reduceIte, Nat.reduceEqDiff, reduceCtorEq]
        refine wnum (n := 2) g (num2_pu g _) (by decide) w2 (by rw [List.length_append, numB_len]; omega) fun _ h3 w3 => ?_
        simp only [h0, h2, h17, h18, w1, RX, VOp.fresh, bxC, bsC, un, most, callsOf, seval, Int.reducePow, ↓reduceIte, Nat.reduceEqDiff, reduceCtorEq]
        refine next _ _ ?_ ?_ ?_ ?_ ?_
        · rw [opB, if_neg e0, if_pos e1, ← List.append_assoc]; exact w3
        · simp only [h0, sg_set, Nat.reduceEqDiff, ↓reduceIte]
        · simp only [h2, sg_set, Nat.reduceEqDiff, ↓reduceIte]
        · simp only [h17, sg_set, Nat.reduceEqDiff, ↓reduceIte]
        · simp only [sg_set, Nat.reduceEqDiff, ↓reduceIte]
      · simp only [h0, h2, h17, h18, e0, e1, RX, VOp.fresh, bxC, bsC, un, most, callsOf, seval, Int.reducePow, ↓reduceIte, Nat.reduceEqDiff, reduceCtorEq]
        refine wmap g hsv huv hos.2.1 hos.2.2 (.inl ⟨_, rfl⟩) w2 (by rw [List.length_append, numB_len]; omega) fun _ h3 w3 => ?_
        simp only [h0, h2, h17, h18, w1, RX, VOp.fresh, bxC, bsC, un, most, callsOf, seval, Int.reducePow, ↓reduceIte, Nat.reduceEqDiff, reduceCtorEq]
        refine next _ _ ?_ ?_ ?_ ?_ ?_
        · rw [opB, if_neg e0, if_neg e1, ← List.append_assoc]; exact w3
        · simp only [h0, sg_set, Nat.reduceEqDiff, ↓reduceIte]
        · simp only [h2, sg_set, Nat.reduceEqDiff, ↓reduceIte]
        · simp only [h17, sg_set, Nat.reduceEqDiff, ↓reduceIte]
        · simp only [sg_set, Nat.reduceEqDiff, ↓reduceIte]
theorem wops (g : Pg P tab) {l : List Op} {a : AV} (ha : IsL 112 ROp a l) (hl : l.length ≤ 1000) (hs : ∀ o ∈ l, opSmall o) {base : Int} (hb1 : -100000 ≤ base) (hb2 : base ≤ 100000) {K : List (Nat × Blk)} {h : Heap} {b : Nat} {s : List Nat} (w : WR K h b s)
    (hsl : s.length ≤ 1000) {Q : AV → Heap → Prop} (q : ∀ v h', WR K h' b (s ++ (numB (base + 1) 4 ++ opsB l)) → Q v h') : Cl P 49 [.ptr b 0, .int .i64 base, a] h Q := by
  refine g.cl (vf := v49) rfl rfl ?_
  have w0 : IntKind.i64.wrap (base + 1) = base + 1 := w64 (by omega) (by omega)
  simp only [v49, w0, RX, VOp.fresh, bxC, bsC, un, most, callsOf, seval, Int.reducePow, ↓reduceIte, Nat.reduceEqDiff, reduceCtorEq]
  refine wnum (n := 4) g (num4_pu g _) (by decide) w (by omega) fun _ h1 w1 => ?_
  simp only [ha.len, RX, VOp.fresh, bxC, bsC, un, most, callsOf, seval, Int.reducePow, ↓reduceIte, Nat.reduceEqDiff, reduceCtorEq]
  refine wnum (n := 1) g (num1_pu g _) (by decide) w1 (by rw [List.length_append, numB_len]; omega) fun _ h2 w2 => ?_
  simp only [ha.len, RX, VOp.fresh, bxC, bsC, un, most, callsOf, seval, Int.reducePow, ↓reduceIte, Nat.reduceEqDiff, reduceCtorEq]
  refine wopsl g ha hl hs (s ++ numB (base + 1) 4 ++ numB l.length 1) ?_ l.length 0 _ _ _ _ (by omega) (by simpa using w2) ?_ ?_ ?_ ?_ ?_
  · simp only [List.length_append, numB_len]; omega
  · simp only [sg_set, Nat.reduceEqDiff, ↓reduceIte]
  · simp only [sg_set, Nat.reduceEqDiff, ↓reduceIte]
  · simp only [sg_set, Nat.reduceEqDiff, ↓reduceIte]
  · simp only [sg_set, Nat.reduceEqDiff, ↓reduceIte]
    rfl
  · intro s' h4 w4
    simp only [RX, VOp.fresh, bxC, bsC, un, most, callsOf, seval, Int.reducePow, ↓reduceIte, Nat.reduceEqDiff, reduceCtorEq]
    refine q _ _ ?_
    simpa only [opsB, List.append_assoc] using w4
def By (l : List Nat) : Prop := ∀ n ∈ l, n < 256
theorem By.app {l k : List Nat} (a : By l) (b : By k) : By (l ++ k) := fun n h => (List.mem_append.1 h).elim (a n) (b n)
theorem By.nil : By [] := fun n h => by simp at h
theorem By.flat {α : Type} {F : α → List Nat} {l : List α} (h : ∀ x, By (F x)) : By (l.map F).flatten := by
  intro n hn
  obtain ⟨x, hx, hn⟩ := List.mem_flatten.1 hn
  obtain ⟨a, _, rfl⟩ := List.mem_map.1 hx
  exact h a n hn
theorem By.num (x : Int) : ∀ n, By (numB x n)
  | 0 => By.nil
  | n + 1 => by
    intro k hk
    rw [numB] at hk
    rcases List.mem_cons.1 hk with rfl | hk
    · have h1 := Int.emod_lt_of_pos (x / (256 ^ n : Nat)) (show (0 : Int) < 256 by decide)
      have h2 := Int.emod_nonneg (x / (256 ^ n : Nat)) (show (256 : Int) ≠ 0 by decide)
      omega
    · exact By.num x n k hk
theorem By.mp (m : Mp) : By (mpB m) := (By.num _ _).app ((By.num _ _).app ((By.flat fun x => By.num x 4).app (By.flat fun x => By.num x 1)))
theorem By.pt (p : Pt) : By (ptB p) := (By.num _ _).app (By.num _ _)
theorem By.ring (p : List Pt) : By (ringB p) := (By.num _ _).app (By.flat By.pt)
theorem By.feat (f : Feat) : By (featB f) := (By.num _ _).app ((By.num _ _).app ((By.num _ _).app (By.flat By.ring)))
theorem By.op (o : Op) : By (opB o) := (By.num _ _).app (by split; exact By.feat _; split; exact By.num _ _; exact By.mp _)
theorem By.ops (l : List Op) : By (opsB l) := (By.num _ _).app (By.flat By.op)
theorem mb_bytes : ∀ {l : List Nat}, By l → (l.map byteV).mapM AV.byte = some l
  | [], _ => rfl
  | n :: l, h => by
    have h1 : n < 256 := h n (by simp)
    have h2 : AV.byte (byteV n) = some n := by
      simp only [byteV, AV.byte]
      rw [if_pos ⟨by omega, by omega⟩]
      rfl
    rw [List.map_cons, List.mapM_cons, h2, mb_bytes fun k hk => h k (List.mem_cons_of_mem _ hk)]
    rfl
end
end Go.Proofs.Ytinonmcnofjeeaa.VM
namespace Go.Proofs.Ytinonmcnofjeeaa.VM
attribute [local irreducible] Af Nx EvO Ev Un Gd Cd EvR EvQ EvC Nc Gc Lp EvM NxM AfM GdM EvMR EvMQ EvMD EvMC Nm Gm
def beV (l : List Nat) : Nat := l.foldl (fun x b => x * 256 + b) 0
/-- so many bytes as a number, and what is left -/
def rdN (n : Nat) (s : List Nat) : Int × List Nat := if s.length < n then (0, []) else ((beV (s.take n) : Int), s.drop n)
theorem By.drop {s : List Nat} (h : By s) (n : Nat) : By (s.drop n) := fun x hx => h x (List.mem_of_mem_drop hx)
theorem By.take {s : List Nat} (h : By s) (n : Nat) : By (s.take n) := fun x hx => h x (List.mem_of_mem_take hx)
theorem rdN_by {n : Nat} {s : List Nat} (h : By s) : By (rdN n s).2 := by
  unfold rdN; split
  · exact By.nil
  · exact h.drop n
theorem rdN_len (n : Nat) (s : List Nat) : (rdN n s).2.length ≤ s.length := by
  unfold rdN; split
  · simp
  · simp
theorem beV_snoc (l : List Nat) (b : Nat) : beV (l ++ [b]) = beV l * 256 + b := by simp [beV]
theorem beV_from : ∀ (l : List Nat) (x : Nat), By l → l.foldl (fun x b => x * 256 + b) x + 1 ≤ (x + 1) * 256 ^ l.length
  | [], x, _ => by simp
  | b :: l, x, h => by
    have h1 := beV_from l (x * 256 + b) fun y hy => h y (List.mem_cons_of_mem _ hy)
    have h2 := h b List.mem_cons_self
    have h3 : (x * 256 + b + 1) * 256 ^ l.length ≤ ((x + 1) * 256) * 256 ^ l.length := Nat.mul_le_mul_right _ (by omega)
    rw [List.foldl_cons, List.length_cons, Nat.pow_succ, Nat.mul_comm (256 ^ l.length) 256, ← Nat.mul_assoc]
    omega
theorem beV_lt {l : List Nat} (h : By l) : beV l < 256 ^ l.length := by
  have := beV_from l 0 h
  simp only [Nat.zero_add, Nat.one_mul] at this
  exact this
theorem rdN_le {n : Nat} (hn : n ≤ 4) {s : List Nat} (h : By s) : 0 ≤ (rdN n s).1 ∧ (rdN n s).1 ≤ 4294967295 := by
  unfold rdN; split
  · simp
  · rename_i hl
    have := beV_lt (h.take n)
    rw [List.length_take, Nat.min_eq_left (by omega)] at this
    have h4 : 256 ^ n ≤ 256 ^ 4 := Nat.pow_le_pow_right (by decide) hn
    simp only
    omega
theorem rdN1_le {s : List Nat} (h : By s) : (rdN 1 s).1 ≤ 255 := by
  unfold rdN; split
  · simp
  · rename_i hl
    have := beV_lt (h.take 1)
    rw [List.length_take, Nat.min_eq_left (by omega)] at this
    simp only
    omega
theorem or_low {x b : Nat} (hb : b < 256) (hx : x < 16777216) : bitsOf .or .i64 (((x : Nat) : Int) * 256) (b : Int) = ((x * 256 + b : Nat) : Int) := by
  have e : ((x : Int) * 256) = ((x * 256 : Nat) : Int) := (Int.natCast_mul x 256).symm
  rw [e]
  unfold bitsOf
  simp only
  rw [mod64 (by omega), mod64 (by omega)]
  have : Nat.lor (x * 256) b = x * 256 + b := by
    have := Nat.two_pow_add_eq_or_of_lt (i := 8) (b := b) (by omega) x
    have e2 : 2 ^ 8 * x = x * 256 := Nat.mul_comm _ _
    rw [e2] at this
    exact this.symm
  rw [this]
  exact w64 (by omega) (by omega)
theorem sliceS_lo {s : List Nat} {k : IntKind} {n : Nat} (hn : n ≤ s.length) : sliceS (.str s) (some (.int k (n : Int))) none = some (.str (s.drop n)) := by
  have h1 : (0 : Int) ≤ (n : Int) ∧ (n : Int) ≤ (s.length : Int) := by omega
  simp only [sliceS, bounds, natOf, Option.isSome_none, Bool.false_eq_true, if_false]
  rw [if_pos h1, Int.toNat_natCast]
  have : (s.drop n).take (s.length - n) = s.drop n := List.take_of_length_le (by simp)
  simp only [this]
theorem OK.of_cl {P : Program} {f : Nat} {args : List AV} {h h0 : Heap} {v : AV} (c : Cl P f args h fun v' h' => v' = v ∧ h' = h0) : OK P f args h v h0 :=
  let ⟨_, _, o, e1, e2⟩ := c
  e1 ▸ e2 ▸ o
section
variable {P : Program}
theorem rnum_loop (g : Pg P tab) {rb N : Nat} (hN : N ≤ 4) {t : List Nat} (ht : By t) (hl : N ≤ t.length) {h : Heap} {e : TypeId} {ver : Nat} (hb : h.get rb = some (.cells [.str t] e ver)) (n : Nat) : ∀ (i : Nat) (s : T AV) (k : List Fr) (Q : Ex → T AV → Heap → Prop), i + n = N →
    sg s 0 = .ptr rb 0 → sg s 1 = .int .i64 N → sg s 17 = .int .i64 N → sg s 18 = .int .i64 i → sg s 5 = .int .i64 (beV (t.take i)) →
    (∀ s', sg s' 0 = .ptr rb 0 → sg s' 1 = .int .i64 N → sg s' 5 = .int .i64 (beV (t.take N)) → Un P k Q (.exit 0) s' h) → Lp P b57_0 s h (Un P k Q) := by
  induction n with
  | zero =>
    intro i s k Q hi h0 h1 h17 h18 h5 hQ
    refine g.lpe b57_0.eq_1 ?_
    have c1 : ¬ ((i : Int) < (N : Int)) := by omega
    simp only [h17, h18, c1, RX, VOp.fresh, bxC, bsC, un, most, callsOf, seval, Int.reducePow, ↓reduceIte, Nat.reduceEqDiff, reduceCtorEq]
    have e : i = N := by omega
    subst e
    refine hQ _ ?_ ?_ ?_
    · simp only [h0, sg_set, Nat.reduceEqDiff, ↓reduceIte]
    · simp only [h1, sg_set, Nat.reduceEqDiff, ↓reduceIte]
    · simp only [h5, sg_set, Nat.reduceEqDiff, ↓reduceIte]
  | succ n ih =>
    intro i s k Q hi h0 h1 h17 h18 h5 hQ
    refine g.lpe b57_0.eq_1 ?_
    have c1 : (i : Int) < (N : Int) := by omega
    have c2 : (0 : Int) ≤ (i : Int) := by omega
    have hb' : t[i]? = some t[i] := List.getElem?_eq_getElem (by omega)
    have h256 : t[i] < 256 := ht _ (List.getElem_mem _)
    have hx := beV_lt (ht.take i)
    rw [List.length_take, Nat.min_eq_left (by omega)] at hx
    have hp : 256 ^ i ≤ 256 ^ 3 := Nat.pow_le_pow_right (by decide) (by omega)
    have w1 : IntKind.i64.wrap ((i : Int) + 1) = ((i + 1 : Nat) : Int) := by rw [w64 (by omega) (by omega)]; push_cast; rfl
    have w2 : IntKind.i64.wrap ((beV (t.take i) : Int) * 256) = (beV (t.take i) : Int) * 256 := w64 (by omega) (by omega)
    have w3 : IntKind.i64.wrap (t[i] : Int) = (t[i] : Int) := w64 (by omega) (by omega)
    have w4 := or_low (x := beV (t.take i)) h256 (by omega)
    have w5 : beV (t.take i) * 256 + t[i] = beV (t.take (i + 1)) := by
      rw [List.take_add_one, hb']
      exact (beV_snoc _ _).symm
    simp only [h0, h1, h5, h17, h18, c1, c2, hb, RS, hb', w1, w2, w3, w4, w5, RX, VOp.fresh, bxC, bsC, un, most, callsOf, seval, Int.reducePow, ↓reduceIte, Nat.reduceEqDiff, reduceCtorEq]
    refine ih (i + 1) _ k Q (by omega) ?_ ?_ ?_ ?_ ?_ hQ
    · simp only [h0, sg_set, Nat.reduceEqDiff, ↓reduceIte]
    · simp only [h1, sg_set, Nat.reduceEqDiff, ↓reduceIte]
    · simp only [h17, sg_set, Nat.reduceEqDiff, ↓reduceIte]
    · simp only [sg_set, Nat.reduceEqDiff, ↓reduceIte]
    · simp only [sg_set, Nat.reduceEqDiff, ↓reduceIte]
theorem rnum (g : Pg P tab) {rb N : Nat} (hN : N ≤ 4) {t : List Nat} (ht : By t) (hlt : t.length < 4611686018427387904) {h : Heap} {e : TypeId} {ver : Nat} (hb : h.get rb = some (.cells [.str t] e ver)) :
    OK P 57 [.ptr rb 0, .int .i64 N] h (.int .i64 (rdN N t).1) (h.put rb (.cells [.str (rdN N t).2] e (ver + 1))) := by
  refine OK.of_cl (g.cl (vf := v57) rfl rfl ?_)
  by_cases hl : t.length < N
  · have c1 : (t.length : Int) < (N : Int) := by omega
    simp only [v57, hb, c1, RW, rdN, hl, RX, VOp.fresh, bxC, bsC, un, most, callsOf, seval, Int.reducePow, ↓reduceIte, Nat.reduceEqDiff, reduceCtorEq]
  · have c1 : ¬ ((t.length : Int) < (N : Int)) := by omega
    have c2 := sliceS_lo (s := t) (k := .i64) (n := N) (by omega)
    simp only [v57, hb, c1, RX, VOp.fresh, bxC, bsC, un, most, callsOf, seval, Int.reducePow, ↓reduceIte, Nat.reduceEqDiff, reduceCtorEq]
    refine rnum_loop g hN ht (by omega) hb N 0 _ _ _ (by omega) ?_ ?_ ?_ ?_ ?_ ?_
    · simp only [sg_set, Nat.reduceEqDiff, ↓reduceIte]
    · simp only [sg_set, Nat.reduceEqDiff, ↓reduceIte]
    · simp only [sg_set, Nat.reduceEqDiff, ↓reduceIte]
    · simp only [sg_set, Nat.reduceEqDiff, ↓reduceIte]
      rfl
    · simp only [sg_set, Nat.reduceEqDiff, ↓reduceIte]
      rfl
    · intro s' a0 a1 a5
      simp only [a0, a1, a5, hb, c2, RW, rdN, hl, RX, VOp.fresh, bxC, bsC, un, most, callsOf, seval, Int.reducePow, ↓reduceIte, Nat.reduceEqDiff, reduceCtorEq]
end
end Go.Proofs.Ytinonmcnofjeeaa.VM
namespace Go.Proofs.Ytinonmcnofjeeaa.VM
attribute [local irreducible] Af Nx EvO Ev Un Gd Cd EvR EvQ EvC Nc Gc Lp EvM NxM AfM GdM EvMR EvMQ EvMD EvMC Nm Gm
def cPt (p : Pt) : List AV := [.int .i64 p.x, .int .i64 p.y]
def cRing (r : List Pt) : AV := cRow ((r.map cPt).flatten) r.length
def cRings (rs : List (List Pt)) : AV := cRow (rs.map cRing) rs.length
def cFeat (f : Feat) : List AV := [.int .i64 f.id, .int .i64 f.shape, cRings f.rings]
def cInts (l : List Int) : AV := cRow (l.map (AV.int .i64)) l.length
def cOpL (o : Op) : List AV := [.int .i64 o.kind, .int .i64 o.f.id, .int .i64 o.f.shape, cRings o.f.rings, .int .i64 o.id, .int .i64 o.m.epoch, cInts o.m.starts, cInts o.m.owners]
def cOpsL (l : List Op) : AV := cRow ((l.map cOpL).flatten) l.length
/-- sizes of data that stay small -/
def ringSm (r : List Pt) : Prop := r.length ≤ 1000000 ∧ ∀ p ∈ r, I64 p.x ∧ I64 p.y
def featSm (f : Feat) : Prop := I64 f.id ∧ I64 f.shape ∧ f.rings.length ≤ 1000000 ∧ ∀ r ∈ f.rings, ringSm r
def intsSm (l : List Int) : Prop := l.length ≤ 1000000 ∧ ∀ x ∈ l, I64 x
def mpSm (m : Mp) : Prop := I64 m.epoch ∧ intsSm m.starts ∧ intsSm m.owners
def opSm (o : Op) : Prop := I64 o.kind ∧ featSm o.f ∧ I64 o.id ∧ mpSm o.m
def opsSm (l : List Op) : Prop := l.length ≤ 1000000 ∧ ∀ o ∈ l, opSm o
theorem row_isL {α : Type} {b : Nat} {R : α → List AV → Prop} {l : List α} {c : List AV} (hb : l.length * b ≤ reachBytes) (h : Cat R l c) : IsL b R (cRow c l.length) l := by
  cases l with
  | nil => exact isL_nil b R
  | cons x l => rw [cRow_s _ (by simp)]; exact isL_rs h hb
theorem cat_map {α : Type} {R : α → List AV → Prop} {F : α → List AV} : ∀ {l : List α}, (∀ x ∈ l, R x (F x)) → Cat R l (l.map F).flatten
  | [], _ => .nil
  | x :: l, h => .cons (h x List.mem_cons_self) (cat_map fun y hy => h y (List.mem_cons_of_mem _ hy))
theorem cat_map1 {α : Type} {R : α → List AV → Prop} {F : α → AV} : ∀ {l : List α}, (∀ x ∈ l, R x [F x]) → Cat R l (l.map F)
  | [], _ => .nil
  | x :: l, h => .cons (c := [F x]) (h x List.mem_cons_self) (cat_map1 fun y hy => h y (List.mem_cons_of_mem _ hy))
theorem reach_eq : reachBytes = 140737488351232 := rfl
theorem cRing_is {r : List Pt} (h : ringSm r) : IsL 16 RPt (cRing r) r := row_isL (by rw [reach_eq]; have := h.1; omega) (cat_map fun p hp => ⟨rfl, h.2 p hp⟩)
theorem cRings_is {f : List (List Pt)} (h1 : f.length ≤ 1000000) (h2 : ∀ r ∈ f, ringSm r) : IsL 24 RRing (cRings f) f := row_isL (by rw [reach_eq]; omega) (cat_map1 fun r hr => ⟨_, rfl, cRing_is (h2 r hr)⟩)
theorem cFeat_is {f : Feat} (h : featSm f) : RFeat f (cFeat f) := ⟨_, rfl, h.1, h.2.1, cRings_is h.2.2.1 h.2.2.2⟩
theorem cInts_is {l : List Int} (h : intsSm l) : IsL 8 RInt (cInts l) l := row_isL (by rw [reach_eq]; have := h.1; omega) (cat_map1 fun x hx => ⟨rfl, h.2 x hx⟩)
theorem cOp_is {o : Op} (h : opSm o) : ROp o (cOpL o) := ⟨_, _, _, rfl, h.1, h.2.1.1, h.2.1.2.1, cRings_is h.2.1.2.2.1 h.2.1.2.2.2, h.2.2.1, h.2.2.2.1, cInts_is h.2.2.2.2.1, cInts_is h.2.2.2.2.2⟩
theorem cOpsL_is {l : List Op} (h : opsSm l) : IsL 112 ROp (cOpsL l) l := row_isL (by rw [reach_eq]; have := h.1; omega) (cat_map fun o ho => cOp_is (h.2 o ho))
section
variable {α : Type}
def rep (f : List Nat → α × List Nat) : Nat → List Nat → List α × List Nat
  | 0, s => ([], s)
  | n + 1, s => ((f s).1 :: (rep f n (f s).2).1, (rep f n (f s).2).2)
theorem rep_len (f : List Nat → α × List Nat) : ∀ n s, (rep f n s).1.length = n
  | 0, _ => rfl
  | n + 1, s => by rw [rep, List.length_cons, rep_len f n]
theorem rep_by {f : List Nat → α × List Nat} (hf : ∀ s, By s → By (f s).2) : ∀ n s, By s → By (rep f n s).2
  | 0, _, h => h
  | n + 1, s, h => rep_by hf n _ (hf s h)
theorem rep_all {f : List Nat → α × List Nat} {p : α → Prop} (hb : ∀ s, By s → By (f s).2) (hf : ∀ s, By s → p (f s).1) : ∀ n s, By s → ∀ x ∈ (rep f n s).1, p x
  | 0, _, _, x, hx => by simp [rep] at hx
  | n + 1, s, h, x, hx => by
    rcases List.mem_cons.1 hx with rfl | hx
    · exact hf s h
    · exact rep_all hb hf n _ (hb s h) x hx
/-- what was written is read -/
theorem rep_put {f : List Nat → α × List Nat} {F : α → List Nat} : ∀ (l : List α) (t : List Nat), (∀ x ∈ l, ∀ t, f (F x ++ t) = (x, t)) → rep f l.length ((l.map F).flatten ++ t) = (l, t)
  | [], t, _ => rfl
  | x :: l, t, h => by
    rw [List.length_cons, rep, List.map_cons, List.flatten_cons, List.append_assoc, h x List.mem_cons_self, rep_put l t fun y hy => h y (List.mem_cons_of_mem _ hy)]
end
def rdPt (s : List Nat) : Pt × List Nat := (⟨(rdN 4 s).1, (rdN 4 (rdN 4 s).2).1⟩, (rdN 4 (rdN 4 s).2).2)
def rdRing (s : List Nat) : List Pt × List Nat := rep rdPt (rdN 1 s).1.toNat (rdN 1 s).2
def rdFeat (s : List Nat) : Feat × List Nat :=
  let a := rdN 2 s; let b := rdN 1 a.2; let c := rdN 1 b.2; let d := rep rdRing c.1.toNat c.2
  (⟨a.1, b.1, d.1⟩, d.2)
def rdMp (s : List Nat) : Mp × List Nat :=
  let a := rdN 2 s; let b := rdN 1 a.2; let c := rep (rdN 4) b.1.toNat b.2; let d := rep (rdN 1) b.1.toNat c.2
  (⟨a.1, c.1, d.1⟩, d.2)
def rdOp (s : List Nat) : Op × List Nat :=
  let k := rdN 1 s
  if k.1 = 0 then (⟨k.1, (rdFeat k.2).1, 0, ⟨0, [], []⟩⟩, (rdFeat k.2).2)
  else if k.1 = 1 then (⟨k.1, ⟨0, 0, []⟩, (rdN 2 k.2).1, ⟨0, [], []⟩⟩, (rdN 2 k.2).2)
  else if k.1 = 2 then (⟨k.1, ⟨0, 0, []⟩, 0, (rdMp k.2).1⟩, (rdMp k.2).2)
  else (⟨k.1, ⟨0, 0, []⟩, 0, ⟨0, [], []⟩⟩, k.2)
def rdOps (s : List Nat) : List Op × List Nat := rep rdOp (rdN 1 s).1.toNat (rdN 1 s).2
theorem rdPt_by {s : List Nat} (h : By s) : By (rdPt s).2 := rdN_by (rdN_by h)
theorem rdRing_by {s : List Nat} (h : By s) : By (rdRing s).2 := rep_by (fun _ h => rdPt_by h) _ _ (rdN_by h)
theorem rdFeat_by {s : List Nat} (h : By s) : By (rdFeat s).2 := rep_by (fun _ h => rdRing_by h) _ _ (rdN_by (rdN_by (rdN_by h)))
theorem rdMp_by {s : List Nat} (h : By s) : By (rdMp s).2 := rep_by (fun _ h => rdN_by h) _ _ (rep_by (fun _ h => rdN_by h) _ _ (rdN_by (rdN_by h)))
theorem rdOp_by {s : List Nat} (h : By s) : By (rdOp s).2 := by
  unfold rdOp
  simp only
  split
  · exact rdFeat_by (rdN_by h)
  · split
    · exact rdN_by (rdN_by h)
    · split
      · exact rdMp_by (rdN_by h)
      · exact rdN_by h
theorem i64_rdN {n : Nat} (hn : n ≤ 4) {s : List Nat} (h : By s) : I64 (rdN n s).1 := by
  have := rdN_le hn h
  exact ⟨by omega, by omega⟩
theorem rdRing_sm {s : List Nat} (h : By s) : ringSm (rdRing s).1 := by
  refine ⟨?_, rep_all (fun _ h => rdPt_by h) (fun s h => ⟨i64_rdN (by decide) h, i64_rdN (by decide) (rdN_by h)⟩) _ _ (rdN_by h)⟩
  rw [rdRing, rep_len]
  have := rdN1_le h
  omega
theorem rdFeat_sm {s : List Nat} (h : By s) : featSm (rdFeat s).1 := by
  refine ⟨i64_rdN (by decide) h, i64_rdN (by decide) (rdN_by h), ?_, rep_all (fun _ h => rdRing_by h) (fun s h => rdRing_sm h) _ _ (rdN_by (rdN_by (rdN_by h)))⟩
  have := rdN1_le (rdN_by (n := 1) (rdN_by (n := 2) h))
  show (rep rdRing _ _).1.length ≤ _
  rw [rep_len]
  omega
theorem rdMp_sm {s : List Nat} (h : By s) : mpSm (rdMp s).1 := by
  have := rdN1_le (rdN_by (n := 2) h)
  refine ⟨i64_rdN (by decide) h, ⟨?_, rep_all (fun _ h => rdN_by h) (fun s h => i64_rdN (by decide) h) _ _ (rdN_by (rdN_by h))⟩, ⟨?_, rep_all (fun _ h => rdN_by h) (fun s h => i64_rdN (by decide) h) _ _ (rep_by (fun _ h => rdN_by h) _ _ (rdN_by (rdN_by h)))⟩⟩
  · show (rep (rdN 4) _ _).1.length ≤ _
    rw [rep_len]; omega
  · show (rep (rdN 1) _ _).1.length ≤ _
    rw [rep_len]; omega
theorem i64z : I64 0 := ⟨by decide, by decide⟩
theorem mpSm0 : mpSm ⟨0, [], []⟩ := ⟨i64z, ⟨by simp, by simp⟩, ⟨by simp, by simp⟩⟩
theorem featSm0 : featSm ⟨0, 0, []⟩ := ⟨i64z, i64z, by simp, by simp⟩
theorem rdOp_sm {s : List Nat} (h : By s) : opSm (rdOp s).1 := by
  unfold rdOp
  simp only
  split
  · exact ⟨i64_rdN (by decide) h, rdFeat_sm (rdN_by h), i64z, mpSm0⟩
  · split
    · exact ⟨i64_rdN (by decide) h, featSm0, i64_rdN (by decide) (rdN_by h), mpSm0⟩
    · split
      · exact ⟨i64_rdN (by decide) h, featSm0, i64z, rdMp_sm (rdN_by h)⟩
      · exact ⟨i64_rdN (by decide) h, featSm0, i64z, mpSm0⟩
theorem rdOps_sm {s : List Nat} (h : By s) : opsSm (rdOps s).1 := by
  have := rdN1_le h
  refine ⟨?_, rep_all (fun _ h => rdOp_by h) (fun s h => rdOp_sm h) _ _ (rdN_by h)⟩
  show (rep rdOp _ _).1.length ≤ _
  rw [rep_len]; omega
theorem beV_acc : ∀ (l : List Nat) (x : Nat), l.foldl (fun x b => x * 256 + b) x = x * 256 ^ l.length + beV l
  | [], x => by simp [beV]
  | b :: l, x => by
    have e : beV (b :: l) = l.foldl (fun x b => x * 256 + b) (0 * 256 + b) := rfl
    rw [e, List.foldl_cons, beV_acc l (x * 256 + b), beV_acc l (0 * 256 + b), List.length_cons, Nat.pow_succ, Nat.zero_mul, Nat.zero_add, Nat.add_mul, Nat.mul_assoc, Nat.mul_comm 256 (256 ^ l.length), Nat.add_assoc]
theorem beV_cons (b : Nat) (l : List Nat) : beV (b :: l) = b * 256 ^ l.length + beV l := by
  have e : beV (b :: l) = l.foldl (fun x b => x * 256 + b) (0 * 256 + b) := rfl
  rw [e, beV_acc, Nat.zero_mul, Nat.zero_add]
theorem beV_numN (x : Nat) : ∀ n : Nat, beV (numB (x : Int) n) = x % 256 ^ n
  | 0 => by simp [numB, beV, Nat.mod_one]
  | n + 1 => by
    have e : ((x : Int) / ((256 ^ n : Nat) : Int) % 256).toNat = x / 256 ^ n % 256 := by
      rw [← Int.natCast_ediv]
      omega
    rw [numB, beV_cons, numB_len, e, beV_numN x n, Nat.pow_succ, Nat.mod_mul, Nat.mul_comm, Nat.add_comm]
theorem beV_num {x : Int} {n : Nat} (h0 : 0 ≤ x) (h1 : x < ((256 ^ n : Nat) : Int)) : (beV (numB x n) : Int) = x := by
  obtain ⟨k, rfl⟩ := Int.eq_ofNat_of_zero_le h0
  rw [beV_numN, Nat.mod_eq_of_lt (by omega)]
theorem rdN_put {x : Int} {n : Nat} (h0 : 0 ≤ x) (h1 : x < ((256 ^ n : Nat) : Int)) (t : List Nat) : rdN n (numB x n ++ t) = (x, t) := by
  have hl := numB_len x n
  rw [rdN, if_neg (by rw [List.length_append]; omega), List.take_left' hl, List.drop_left' hl, beV_num h0 h1]
theorem rdPt_put {p : Pt} (h : ptOk p) (t : List Nat) : rdPt (ptB p ++ t) = (p, t) := by
  obtain ⟨⟨a, b⟩, ⟨c, d⟩⟩ := h
  rw [rdPt, ptB, List.append_assoc, rdN_put a (by omega), rdN_put c (by omega)]
theorem rdRing_put {r : List Pt} (hl : r.length ≤ 255) (h : ∀ p ∈ r, ptOk p) (t : List Nat) : rdRing (ringB r ++ t) = (r, t) := by
  rw [rdRing, ringB, List.append_assoc, rdN_put (by omega) (by omega)]
  simp only [Int.toNat_natCast]
  exact rep_put r t fun p hp t => rdPt_put (h p hp) t
theorem featOk_pts {f : Feat} (h : featOk f) : 0 ≤ f.shape ∧ f.shape ≤ 2 ∧ ∀ r ∈ f.rings, r.length ≤ 255 ∧ ∀ p ∈ r, ptOk p := by
  obtain ⟨a1, a2, a3, a4, h⟩ := h
  have all : ∀ {r : List Pt} {least : Int} {c : Bool}, ringOk least c r → r.length ≤ 255 ∧ ∀ p ∈ r, ptOk p := fun {r least c} ⟨_, q, k⟩ => ⟨by omega, fun p hp => by
    obtain ⟨i, hi, rfl⟩ := List.mem_iff_getElem.1 hp
    have := (k i hi).1
    rwa [getD_pt hi] at this⟩
  have one : f.rings.length = 1 → ∀ r ∈ f.rings, r = f.rings.getD 0 [] := fun hl r hr => by
    obtain ⟨i, hi, rfl⟩ := List.mem_iff_getElem.1 hr
    have : i = 0 := by omega
    subst this
    rw [getD_ring hi]
  rcases h with ⟨b1, b2, b3, b4⟩ | ⟨b1, b2, b3⟩ | ⟨b1, b2⟩
  · refine ⟨by omega, by omega, fun r hr => ?_⟩
    rw [one b2 r hr]
    refine ⟨by omega, fun p hp => ?_⟩
    obtain ⟨i, hi, rfl⟩ := List.mem_iff_getElem.1 hp
    have : i = 0 := by omega
    subst this
    rwa [getD_pt hi] at b4
  · refine ⟨by omega, by omega, fun r hr => ?_⟩
    rw [one b2 r hr]
    exact all b3
  · refine ⟨by omega, by omega, fun r hr => ?_⟩
    obtain ⟨i, hi, rfl⟩ := List.mem_iff_getElem.1 hr
    have := b2 i hi
    rw [getD_ring hi] at this
    exact all this
theorem rdFeat_put {f : Feat} (h : featOk f) (t : List Nat) : rdFeat (featB f ++ t) = (f, t) := by
  obtain ⟨s0, s2, hp⟩ := featOk_pts h
  obtain ⟨a1, a2, a3, a4, _⟩ := h
  rw [rdFeat, featB]
  simp only [List.append_assoc]
  rw [rdN_put (by omega) (by omega)]
  simp only
  rw [rdN_put (by omega) (by omega)]
  simp only
  rw [rdN_put (by omega) (by omega)]
  simp only [Int.toNat_natCast]
  rw [rep_put f.rings t fun r hr t => rdRing_put (hp r hr).1 (hp r hr).2 t]
theorem mpOk_pts {m : Mp} {nodes : Int} (h : mpOk nodes m) : (∀ x ∈ m.starts, 0 ≤ x ∧ x < 4294967296) ∧ ∀ x ∈ m.owners, 0 ≤ x ∧ x < 8 := by
  obtain ⟨a1, a2, a3, a4, a5, a6, a7, a8, h⟩ := h
  have pos : ∀ i, i < m.starts.length → 0 ≤ m.starts.getD i 0 := by
    intro i
    induction i with
    | zero => intro _; omega
    | succ i ih =>
      intro hi
      have := (h (i + 1) hi).2.1
      have := ih (by omega)
      simp at *
      omega
  refine ⟨fun x hx => ?_, fun x hx => ?_⟩
  · obtain ⟨i, hi, rfl⟩ := List.mem_iff_getElem.1 hx
    have := h i hi
    have := pos i hi
    rw [getD_int hi] at *
    exact ⟨this, by have := (h i hi).1; rw [getD_int hi] at this; exact this⟩
  · obtain ⟨i, hi, rfl⟩ := List.mem_iff_getElem.1 hx
    have := (h i (by omega)).2.2
    rw [getD_int hi] at this
    omega
theorem rdMp_put {m : Mp} {nodes : Int} (h : mpOk nodes m) (t : List Nat) : rdMp (mpB m ++ t) = (m, t) := by
  obtain ⟨h1, h2⟩ := mpOk_pts h
  obtain ⟨a1, a2, a3, a4, a5, a6, a7, a8, _⟩ := h
  rw [rdMp, mpB]
  simp only [List.append_assoc]
  rw [rdN_put (by omega) (by omega)]
  simp only
  rw [rdN_put (by omega) (by omega)]
  simp only [Int.toNat_natCast]
  rw [rep_put m.starts _ fun x hx t => rdN_put (h1 x hx).1 (by have := (h1 x hx).2; omega) t]
  simp only
  rw [← a7, rep_put m.owners t fun x hx t => rdN_put (h2 x hx).1 (by have := (h2 x hx).2; omega) t]
theorem rdOp_put {o : Op} {nodes : Int} (h : opOk nodes o) (t : List Nat) : rdOp (opB o ++ t) = (o, t) := by
  have z1 : ∀ {f : Feat}, ftZero f → f = ⟨0, 0, []⟩ := fun {f} ⟨a, b, c⟩ => by cases f; simp only at a b c; rw [a, b, c]
  have z2 : ∀ {f : Mp}, mpZero f → f = ⟨0, [], []⟩ := fun {f} ⟨a, b, c⟩ => by cases f; simp only at a b c; rw [a, b, c]
  obtain ⟨kind, f, id, m⟩ := o
  rcases h with ⟨hk, h1, h2, h3⟩ | ⟨hk, h1, h2, h3, h4⟩ | ⟨hk, h1, h2, h3⟩
  · simp only at hk h1 h2 h3
    subst hk h2
    rw [rdOp, opB, List.append_assoc, rdN_put (by simp only; omega) (by simp only; omega)]
    simp only [if_true]
    rw [rdFeat_put h1, z2 h3]
  · simp only at hk h1 h2 h3 h4
    subst hk
    rw [rdOp, opB, List.append_assoc, rdN_put (by simp only; omega) (by simp only; omega)]
    simp only [if_true, if_false, Int.one_ne_zero]
    rw [rdN_put (by omega) (by omega), z1 h3, z2 h4]
  · simp only at hk h1 h2 h3
    subst hk h2
    have e2 : ¬ (2 : Int) = 0 := by decide
    have e3 : ¬ (2 : Int) = 1 := by decide
    rw [rdOp, opB, List.append_assoc, rdN_put (by simp only; omega) (by simp only; omega)]
    simp only [if_true, if_neg e2, if_neg e3]
    rw [rdMp_put h1, z1 h3]
theorem rdOps_put {l : List Op} {nodes : Int} (h : opsOk nodes l) (t : List Nat) : rdOps (opsB l ++ t) = (l, t) := by
  obtain ⟨h1, h2, h3⟩ := h
  rw [rdOps, opsB, List.append_assoc, rdN_put (by omega) (by omega)]
  simp only [Int.toNat_natCast]
  refine rep_put l t fun o ho t => ?_
  obtain ⟨i, hi, rfl⟩ := List.mem_iff_getElem.1 ho
  have := (h3 i hi).1
  rw [getD_op hi] at this
  exact rdOp_put this t
end Go.Proofs.Ytinonmcnofjeeaa.VM
namespace Go.Proofs.Ytinonmcnofjeeaa.VM
attribute [local irreducible] Af Nx EvO Ev Un Gd Cd EvR EvQ EvC Nc Gc Lp EvM NxM AfM GdM EvMR EvMQ EvMD EvMC Nm Gm
/-- a reader with these bytes left -/
def RP (rb : Nat) (t : List Nat) (h : Heap) : Prop := rb < h.next ∧ By t ∧ t.length < 4611686018427387904 ∧ ∃ e ver, h.get rb = some (.cells [.str t] e ver)
theorem RP.frame {rb : Nat} {t : List Nat} {h h' : Heap} (r : RP rb t h) (hn : h.next ≤ h'.next) (k : h'.get rb = h.get rb) : RP rb t h' := by
  obtain ⟨a, b, c, e, ver, d⟩ := r
  exact ⟨by omega, b, c, e, ver, k.trans d⟩
/-- where a call may write: this block, and new ones -/
structure Nx1 (rb : Nat) (h h' : Heap) : Prop where
  next : h'.next = h.next
  keep : ∀ b, b ≠ rb → h'.get b = h.get b
theorem Nx1.x {rb : Nat} {h h' : Heap} (n : Nx1 rb h h') : ExtX rb h h' := ⟨by rw [n.next]; exact Nat.le_refl _, fun b _ hx => n.keep b hx⟩
theorem LR.nx {rb : Nat} {h h' : Heap} {B : Nat → Prop} {v : AV} {sz n : Nat} {t : List AV} (r : LR h B v sz t n) (x : Nx1 rb h h') (hB : ¬ B rb) : LR h' B v sz t n :=
  r.frame (by rw [x.next]; exact Nat.le_refl _) fun b hb _ => x.keep b fun e => hB (e ▸ hb)
section
variable {P : Program}
theorem rnum_cl (g : Pg P tab) {rb N : Nat} (hN : N ≤ 4) {t : List Nat} {h : Heap} (r : RP rb t h) {Q : AV → Heap → Prop} (q : ∀ h', RP rb (rdN N t).2 h' → Nx1 rb h h' → Q (.int .i64 (rdN N t).1) h') : Cl P 57 [.ptr rb 0, .int .i64 N] h Q := by
  obtain ⟨a, b, c, e, ver, d⟩ := r
  refine (rnum g hN b c d).cl (q _ ⟨a, rdN_by b, Nat.lt_of_le_of_lt (rdN_len _ _) c, e, ver + 1, by rw [Heap.get_put, if_pos rfl]⟩ ⟨rfl, fun b hb => by rw [Heap.get_put, if_neg hb]⟩)
theorem rd_pts (g : Pg P tab) {rb : Nat} {h1 : Heap} (hrb : rb < h1.next) (n : Nat) : ∀ (done : List Pt) (t : List Nat) (s : T AV) (h : Heap) (k : List Fr) (Q : Ex → T AV → Heap → Prop), done.length + n ≤ 1000 →
    LR h (h1.next ≤ ·) (sg s 4) 2 ((done.map cPt).flatten) done.length → RP rb t h → ExtX rb h1 h → sg s 0 = .ptr rb 0 → sg s 16 = .int .i64 (done.length + n : Nat) → sg s 17 = .int .i64 done.length →
    (∀ s' h', LR h' (h1.next ≤ ·) (sg s' 4) 2 (((done ++ (rep rdPt n t).1).map cPt).flatten) (done.length + n) → RP rb (rep rdPt n t).2 h' → ExtX rb h1 h' → (∀ j, j = 0 ∨ j = 2 ∨ j = 3 ∨ j = 12 ∨ j = 13 → sg s' j = sg s j) → Un P k Q (.exit 2) s' h') → Lp P b95_0 s h (Un P k Q) := by
  induction n with
  | zero =>
    intro done t s h k Q hl r rp ex h0 h16 h17 hQ
    refine g.lpe b95_0.eq_1 ?_
    have c1 : ¬ ((done.length : Int) < (done.length : Int)) := by omega
    rw [Nat.add_zero] at h16
    simp only [h16, h17, c1, RX, VOp.fresh, bxC, bsC, un, most, callsOf, seval, Int.reducePow, ↓reduceIte, Nat.reduceEqDiff, reduceCtorEq]
    refine hQ _ _ ?_ rp ex ?_
    · simp only [sg_set, Nat.reduceEqDiff, ↓reduceIte]
      simpa [rep] using r
    · rintro j (rfl | rfl | rfl | rfl | rfl) <;> simp only [sg_set, Nat.reduceEqDiff, ↓reduceIte]
  | succ n ih =>
    intro done t s h k Q hl r rp ex h0 h16 h17 hQ
    refine g.lpe b95_0.eq_1 ?_
    have c1 : (done.length : Int) < ((done.length + (n + 1) : Nat) : Int) := by omega
    have w1 : IntKind.i64.wrap ((done.length : Int) + 1) = ((done.length + 1 : Nat) : Int) := by rw [w64 (by omega) (by omega)]; push_cast; rfl
    simp only [h0, h16, h17, c1, RX, VOp.fresh, bxC, bsC, un, most, callsOf, seval, Int.reducePow, ↓reduceIte, Nat.reduceEqDiff, reduceCtorEq]
    refine rnum_cl g (N := 4) (by decide) rp fun h2 rp2 x2 => ?_
    simp only [h0, RX, VOp.fresh, bxC, bsC, un, most, callsOf, seval, Int.reducePow, ↓reduceIte, Nat.reduceEqDiff, reduceCtorEq]
    refine rnum_cl g (N := 4) (by decide) rp2 fun h3 rp3 x3 => ?_
    have hnb : ¬ h1.next ≤ rb := by omega
    have r3 := (r.nx x2 hnb).nx x3 hnb
    have ex3 := (ex.trans x2.x).trans x3.x
    have em := Ext.mk (h := h3) (.cells [.int .i64 (rdN 4 t).1, .int .i64 (rdN 4 (rdN 4 t).2).1] 48 0)
    have hn3 : (h3.mk' h3.next (.cells [.int .i64 (rdN 4 t).1, .int .i64 (rdN 4 (rdN 4 t).2).1] 48 0)).next = h3.next + 1 := by rw [mk_next]; omega
    obtain ⟨h4, e4, r4, n4, k4⟩ := (r3.frame em.1 fun b _ hb => em.2 b hb).push (nb := h3.next) (eb := 48) (vb := 0) (c := [.int .i64 (rdN 4 t).1, .int .i64 (rdN 4 (rdN 4 t).2).1]) (by rw [Heap.get_mk, if_pos rfl]) rfl rfl (Lvs.tolds rfl rfl) (by rw [hn3]; have := ex3.1; omega) (bytes := 16) (by unfold most2; omega) 48
    rw [hn3] at e4 r4 n4 k4
    have hv := r3.inB
    have kk : ∀ b, b < h3.next → b ∉ blkOf (sg s 4) → h4.get b = h3.get b := fun b hb hn => (k4 b hn (by omega)).trans (em.2 b hb)
    have hrb3 : rb < h3.next := rp3.1
    simp only [h0, h17, e4, w1, RX, VOp.fresh, bxC, bsC, un, most, callsOf, seval, Int.reducePow, ↓reduceIte, Nat.reduceEqDiff, reduceCtorEq]
    refine ih (done ++ [⟨(rdN 4 t).1, (rdN 4 (rdN 4 t).2).1⟩]) (rdN 4 (rdN 4 t).2).2 _ h4 k Q (by rw [List.length_append, List.length_singleton]; omega) ?_ ?_ ?_ ?_ ?_ ?_ ?_
    · simp only [sg_set, Nat.reduceEqDiff, ↓reduceIte]
      simpa only [List.map_append, List.flatten_append, List.map_cons, List.map_nil, List.flatten_cons, List.flatten_nil, List.append_nil, List.length_append, List.length_singleton, cPt] using r4
    · exact rp3.frame (by omega) (kk rb hrb3 fun hc => hnb (hv rb hc))
    · exact ⟨by have := ex3.1; omega, fun b hb hx => (kk b (by have := ex3.1; omega) fun hc => by have := hv b hc; omega).trans (ex3.2 b hb hx)⟩
    · simp only [h0, sg_set, Nat.reduceEqDiff, ↓reduceIte]
    · simp only [h16, sg_set, Nat.reduceEqDiff, ↓reduceIte]
      rw [List.length_append, List.length_singleton]
      congr 2; omega
    · simp only [sg_set, Nat.reduceEqDiff, ↓reduceIte]
      rw [List.length_append, List.length_singleton]
    · intro s' h' q1 q2 q3 q4
      refine hQ s' h' ?_ q2 q3 fun j hj => (q4 j hj).trans ?_
      · simpa only [rep, rdPt, List.append_assoc, List.cons_append, List.nil_append, List.length_append, List.length_singleton, Nat.add_assoc, Nat.add_comm 1 n] using q1
      · rcases hj with rfl | rfl | rfl | rfl | rfl <;> simp only [sg_set, Nat.reduceEqDiff, ↓reduceIte]
theorem rd_rings (g : Pg P tab) {rb fb N0 : Nat} {G : Nat → Option Blk} {p0 p1 : AV} (hrb : rb < N0) (hfb : fb < N0) (hne : fb ≠ rb) (n : Nat) : ∀ (done : List (List Pt)) (t : List Nat) (s : T AV) (h : Heap) (rv : AV) (k : List Fr) (Q : Ex → T AV → Heap → Prop), done.length + n ≤ 1000 →
    N0 ≤ h.next → (∃ e ver, h.get fb = some (.cells [p0, p1, rv] e ver)) → LR h (N0 ≤ ·) rv 1 (done.map cRing) done.length → RP rb t h → (∀ b, b < N0 → b ≠ rb → b ≠ fb → h.get b = G b) → sg s 0 = .ptr rb 0 → sg s 3 = .ptr fb 0 → sg s 12 = .int .i64 (done.length + n : Nat) → sg s 13 = .int .i64 done.length →
    (∀ s' h' rv', (∃ e ver, h'.get fb = some (.cells [p0, p1, rv'] e ver)) → LR h' (N0 ≤ ·) rv' 1 ((done ++ (rep rdRing n t).1).map cRing) (done.length + n) → RP rb (rep rdRing n t).2 h' → (∀ b, b < N0 → b ≠ rb → b ≠ fb → h'.get b = G b) → N0 ≤ h'.next → (∀ j, j = 2 ∨ j = 3 → sg s' j = sg s j) → Un P k Q (.exit 0) s' h') → Lp P b95_1 s h (Un P k Q) := by
  induction n with
  | zero =>
    intro done t s h rv k Q hl hn0 hf r rp ex h0 h3 h12 h13 hQ
    refine g.lpe b95_1.eq_1 ?_
    have c1 : ¬ ((done.length : Int) < (done.length : Int)) := by omega
    rw [Nat.add_zero] at h12
    simp only [h12, h13, c1, RX, VOp.fresh, bxC, bsC, un, most, callsOf, seval, Int.reducePow, ↓reduceIte, Nat.reduceEqDiff, reduceCtorEq]
    refine hQ _ _ rv hf ?_ rp ex hn0 ?_
    · simpa [rep] using r
    · rintro j (rfl | rfl) <;> simp only [sg_set, Nat.reduceEqDiff, ↓reduceIte]
  | succ n ih =>
    intro done t s h rv k Q hl hn0 hf r rp ex h0 h3 h12 h13 hQ
    refine g.lpe b95_1.eq_1 ?_
    have c1 : (done.length : Int) < ((done.length + (n + 1) : Nat) : Int) := by omega
    have w1 : IntKind.i64.wrap ((done.length : Int) + 1) = ((done.length + 1 : Nat) : Int) := by rw [w64 (by omega) (by omega)]; push_cast; rfl
    have hnb : ¬ N0 ≤ rb := by omega
    simp only [h0, h12, h13, c1, RX, VOp.fresh, bxC, bsC, un, most, callsOf, seval, Int.reducePow, ↓reduceIte, Nat.reduceEqDiff, reduceCtorEq]
    refine rnum_cl g (N := 1) (by decide) rp fun h2 rp2 x2 => ?_
    have hby := rp.2.1
    have hk := rdN1_le hby
    have hk0 := (rdN_le (n := 1) (by decide) hby).1
    obtain ⟨m, hm⟩ : ∃ m : Nat, (rdN 1 t).1 = (m : Int) := ⟨(rdN 1 t).1.toNat, by omega⟩
    have e2 := x2.next
    simp only [h0, h3, h12, h13, hm, RX, VOp.fresh, bxC, bsC, un, most, callsOf, seval, Int.reducePow, ↓reduceIte, Nat.reduceEqDiff, reduceCtorEq]
    refine rd_pts g (h1 := h2) (by omega) m [] _ _ h2 _ _ (by simp; omega) ?_ rp2 ExtX.refl ?_ ?_ ?_ ?_
    · simp only [sg_set, Nat.reduceEqDiff, ↓reduceIte]
      exact .nil _ _ _
    · simp only [h0, sg_set, Nat.reduceEqDiff, ↓reduceIte]
    · simp only [sg_set, Nat.reduceEqDiff, ↓reduceIte]
      simp
    · simp only [sg_set, Nat.reduceEqDiff, ↓reduceIte]
      rfl
    intro s' h4 r4 rp4 x4 ks
    have a0 := ks 0 (by simp)
    have a2 := ks 2 (by simp)
    have a3 := ks 3 (by simp)
    have a12 := ks 12 (by simp)
    have a13 := ks 13 (by simp)
    simp only [sg_set, Nat.reduceEqDiff, ↓reduceIte, h0, h3, h12, h13] at a0 a2 a3 a12 a13
    clear ks
    obtain ⟨ef, vf, hf⟩ := hf
    have hf4 : h4.get fb = some (.cells [p0, p1, rv] ef vf) := (x4.2 fb (by omega) hne).trans ((x2.keep fb hne).trans hf)
    have r4' : LR h4 (N0 ≤ ·) rv 1 (done.map cRing) done.length := (r.nx x2 hnb).frame x4.1 fun b hb hlt => x4.2 b hlt fun e => hnb (e ▸ hb)
    have q4 : 4 ≤ 4 := Nat.le_refl _
    rw [List.nil_append] at r4
    generalize hv4 : sg s' 4 = v4 at r4
    have em := Ext.mk (h := h4) (.cells [v4] 49 0)
    have hn4 : (h4.mk' h4.next (.cells [v4] 49 0)).next = h4.next + 1 := by rw [mk_next]; omega
    have hlt4 := r4'.lt
    have hlt2 := (r.nx x2 hnb).lt
    have lv4 : Lvs (h4.mk' h4.next (.cells [v4] 49 0)) (fun b => N0 ≤ b ∧ b ∉ blkOf rv) [v4] [cRing (rep rdPt m (rdN 1 t).2).1] := by
      refine .cons ?_ .nil
      have l := r4.lv
      rw [show ([] : List Pt).length + m = (rep rdPt m (rdN 1 t).2).1.length by rw [rep_len]; simp] at l
      exact (l.frame em.1 fun b _ hb => em.2 b hb).weak fun b hb _ => ⟨by omega, fun hc => by have := hlt2 b hc; omega⟩
    obtain ⟨h5, e5, r5, n5, k5⟩ := (r4'.frame em.1 fun b _ hb => em.2 b hb).push (nb := h4.next) (eb := 49) (vb := 0) (c := [v4]) (by rw [Heap.get_mk, if_pos rfl]) rfl (by simp [r4.one]) lv4 (by rw [hn4]; have := x4.1; omega) (bytes := 24) (by unfold most2; omega) 49
    rw [hn4] at e5 r5 n5 k5
    have kk : ∀ b, b < h4.next → b ∉ blkOf rv → h5.get b = h4.get b := fun b hb hn => (k5 b hn (by omega)).trans (em.2 b hb)
    have hv := r4'.inB
    have hf5 : h5.get fb = some (.cells [p0, p1, rv] ef vf) := (kk fb (by have := x4.1; omega) fun hc => by have := hv fb hc; omega).trans hf4
    have hfn : ¬ fb = h4.next := by have := x4.1; omega
    have hvc := r4.cells
    simp only [a0, a3, a12, a13, hv4, hf4, hf5, hfn, e5, w1, RW, hvc, RX, VOp.fresh, bxC, bsC, un, most, callsOf, seval, Int.reducePow, ↓reduceIte, Nat.reduceEqDiff, reduceCtorEq]
    have er : rdRing t = (rep rdPt m (rdN 1 t).2) := by rw [rdRing, hm, Int.toNat_natCast]
    rw [← er] at lv4 r5 rp4
    refine ih (done ++ [(rdRing t).1]) (rdRing t).2 _ _ (.sl (h4.next + 1) 0 (done.length + 1) (done.length + 1) 1) k Q (by rw [List.length_append, List.length_singleton]; omega) ?_ ?_ ?_ ?_ ?_ ?_ ?_ ?_ ?_ ?_
    · rw [put_next]; have := x4.1; omega
    · exact ⟨ef, vf + 1, by rw [Heap.get_put, if_pos rfl]⟩
    · have r6 := (r5.weak (B' := fun b => N0 ≤ b ∧ b ≠ fb) fun b hb _ => ⟨hb, by omega⟩).frame (h' := h5.put fb (.cells [p0, p1, .sl (h4.next + 1) 0 (done.length + 1) (done.length + 1) 1] ef (vf + 1))) (by rw [put_next]; exact Nat.le_refl _) fun b hb _ => by rw [Heap.get_put, if_neg hb.2]
      have r7 := r6.weak (B' := (N0 ≤ ·)) fun b hb _ => hb.1
      simpa only [List.map_append, List.map_cons, List.map_nil, List.length_append, List.length_singleton] using r7
    · exact (rp4.frame (by omega) (kk rb rp4.1 fun hc => by have := hv rb hc; omega)).frame (by rw [put_next]; exact Nat.le_refl _) (by rw [Heap.get_put, if_neg (fun e => hne e.symm)])
    · intro b hb hx hf'
      rw [Heap.get_put, if_neg hf', kk b (by have := x4.1; omega) (fun hc => by have := hv b hc; omega), x4.2 b (by omega) hx, x2.keep b hx, ex b hb hx hf']
    · simp only [a0, sg_set, Nat.reduceEqDiff, ↓reduceIte]
    · simp only [a3, sg_set, Nat.reduceEqDiff, ↓reduceIte]
    · simp only [a12, sg_set, Nat.reduceEqDiff, ↓reduceIte]
      rw [List.length_append, List.length_singleton]
      congr 2; omega
    · simp only [sg_set, Nat.reduceEqDiff, ↓reduceIte]
      rw [List.length_append, List.length_singleton]
    · intro s'' h' rv' q0 q1 q2 q3 q4 q5
      refine hQ s'' h' rv' q0 ?_ q2 q3 q4 fun j hj => (q5 j hj).trans ?_
      · simpa only [rep, List.append_assoc, List.cons_append, List.nil_append, List.length_append, List.length_singleton, Nat.add_assoc, Nat.add_comm 1 n] using q1
      · rcases hj with rfl | rfl
        · simp only [a2, sg_set, Nat.reduceEqDiff, ↓reduceIte]
        · simp only [a3, h3, sg_set, Nat.reduceEqDiff, ↓reduceIte]
theorem rd_feat (g : Pg P tab) {rb : Nat} {t : List Nat} {h : Heap} (rp : RP rb t h) {Q : AV → Heap → Prop} (q : ∀ rv h', LR h' (h.next ≤ ·) rv 1 ((rdFeat t).1.rings.map cRing) (rdFeat t).1.rings.length → RP rb (rdFeat t).2 h' → ExtX rb h h' → Q (.agg [.int .i64 (rdFeat t).1.id, .int .i64 (rdFeat t).1.shape, rv]) h') : Cl P 95 [.ptr rb 0] h Q := by
  refine g.cl (vf := v95) rfl rfl ?_
  have hrb := rp.1
  have x1 := Ext.mk (h := h) (.cells [.int .i64 0, .int .i64 0, .nils] 52 0)
  have n1 : (h.mk' h.next (.cells [.int .i64 0, .int .i64 0, .nils] 52 0)).next = h.next + 1 := by rw [mk_next]; omega
  have g1 : (h.mk' h.next (.cells [.int .i64 0, .int .i64 0, .nils] 52 0)).get h.next = some (.cells [.int .i64 0, .int .i64 0, .nils] 52 0) := by rw [Heap.get_mk, if_pos rfl]
  have rp1 := rp.frame x1.1 (x1.2 rb hrb)
  simp only [v95, RX, VOp.fresh, bxC, bsC, un, most, callsOf, seval, Int.reducePow, ↓reduceIte, Nat.reduceEqDiff, reduceCtorEq]
  generalize h.mk' h.next (.cells [.int .i64 0, .int .i64 0, .nils] 52 0) = h1 at *
  refine rnum_cl g (N := 2) (by decide) rp1 fun h2 rp2 x2 => ?_
  simp only [RX, VOp.fresh, bxC, bsC, un, most, callsOf, seval, Int.reducePow, ↓reduceIte, Nat.reduceEqDiff, reduceCtorEq]
  refine rnum_cl g (N := 1) (by decide) rp2 fun h3 rp3 x3 => ?_
  simp only [RW, RX, VOp.fresh, bxC, bsC, un, most, callsOf, seval, Int.reducePow, ↓reduceIte, Nat.reduceEqDiff, reduceCtorEq]
  have e2 := x2.next
  have e3 := x3.next
  have g3 : h3.get h.next = some (.cells [.int .i64 0, .int .i64 0, .nils] 52 0) := (x3.keep _ (by omega)).trans ((x2.keep _ (by omega)).trans g1)
  have n4 : ((h3.mk' h3.next (.cells [.int .i64 0, .int .i64 0, .nils] 52 0)).put h3.next (.cells [.int .i64 (rdN 2 t).1, .int .i64 (rdN 1 (rdN 2 t).2).1, .nils] 52 1)).next = h3.next + 1 := by rw [put_next, mk_next]; omega
  have x4 : Ext h3 ((h3.mk' h3.next (.cells [.int .i64 0, .int .i64 0, .nils] 52 0)).put h3.next (.cells [.int .i64 (rdN 2 t).1, .int .i64 (rdN 1 (rdN 2 t).2).1, .nils] 52 1)) := ⟨by omega, fun b hb => by rw [Heap.get_put, if_neg (by omega), Heap.get_mk, if_neg (by omega)]⟩
  have g4 : ((h3.mk' h3.next (.cells [.int .i64 0, .int .i64 0, .nils] 52 0)).put h3.next (.cells [.int .i64 (rdN 2 t).1, .int .i64 (rdN 1 (rdN 2 t).2).1, .nils] 52 1)).get h3.next = some (.cells [.int .i64 (rdN 2 t).1, .int .i64 (rdN 1 (rdN 2 t).2).1, .nils] 52 1) := by rw [Heap.get_put, if_pos rfl]
  have rp4 := rp3.frame x4.1 (x4.2 rb rp3.1)
  generalize (h3.mk' h3.next (.cells [.int .i64 0, .int .i64 0, .nils] 52 0)).put h3.next (.cells [.int .i64 (rdN 2 t).1, .int .i64 (rdN 1 (rdN 2 t).2).1, .nils] 52 1) = h4 at *
  refine rnum_cl g (N := 1) (by decide) rp4 fun h5 rp5 x5 => ?_
  have e5 := x5.next
  have hby := rp3.2.1
  have hk := rdN1_le hby
  have hk0 := (rdN_le (n := 1) (by decide) hby).1
  obtain ⟨m, hm⟩ : ∃ m : Nat, (rdN 1 (rdN 1 (rdN 2 t).2).2).1 = (m : Int) := ⟨(rdN 1 (rdN 1 (rdN 2 t).2).2).1.toNat, by omega⟩
  have xa : ExtX rb h h5 := ((((x1.x).trans x2.x).trans x3.x).trans x4.x).trans x5.x
  have g5 : h5.get h3.next = some (.cells [.int .i64 (rdN 2 t).1, .int .i64 (rdN 1 (rdN 2 t).2).1, .nils] 52 1) := (x5.keep _ (by omega)).trans g4
  have g5b : h5.get h.next = some (.cells [.int .i64 0, .int .i64 0, .nils] 52 0) := (x5.keep _ (by omega)).trans ((x4.2 _ (by omega)).trans g3)
  simp only [hm, RX, VOp.fresh, bxC, bsC, un, most, callsOf, seval, Int.reducePow, ↓reduceIte, Nat.reduceEqDiff, reduceCtorEq]
  refine rd_rings g (N0 := h5.next) (G := h5.get) (fb := h3.next) (p0 := .int .i64 (rdN 2 t).1) (p1 := .int .i64 (rdN 1 (rdN 2 t).2).1) (by have := rp5.1; omega) (by omega) (by omega) m [] _ _ h5 .nils _ _ (by simp; omega) (Nat.le_refl _) ⟨_, _, g5⟩ (.nil _ _ _) rp5 (fun _ _ _ _ => rfl) ?_ ?_ ?_ ?_ ?_
  · simp only [sg_set, Nat.reduceEqDiff, ↓reduceIte]
  · simp only [sg_set, Nat.reduceEqDiff, ↓reduceIte]
  · simp only [sg_set, Nat.reduceEqDiff, ↓reduceIte]
    simp
  · simp only [sg_set, Nat.reduceEqDiff, ↓reduceIte]
    rfl
  intro s' h6 rv ⟨ef, vf, g6⟩ r6 rp6 x6 n6 ks
  have a2 := ks 2 (by simp)
  have a3 := ks 3 (by simp)
  simp only [sg_set, Nat.reduceEqDiff, ↓reduceIte] at a2 a3
  have er : (rdFeat t) = (⟨(rdN 2 t).1, (rdN 1 (rdN 2 t).2).1, (rep rdRing m (rdN 1 (rdN 1 (rdN 2 t).2).2).2).1⟩, (rep rdRing m (rdN 1 (rdN 1 (rdN 2 t).2).2).2).2) := by
    rw [rdFeat]
    simp only [hm, Int.toNat_natCast]
  have hfn : ¬ h3.next = h.next := by omega
  have g6b : h6.get h.next = some (.cells [.int .i64 0, .int .i64 0, .nils] 52 0) := (x6 _ (by omega) (by omega) (by omega)).trans g5b
  simp only [a2, a3, g6, g6b, RW, r6.one, RX, VOp.fresh, bxC, bsC, un, most, callsOf, seval, Int.reducePow, ↓reduceIte, Nat.reduceEqDiff, reduceCtorEq]
  rw [List.nil_append] at r6
  rw [show ([] : List (List Pt)).length + m = (rep rdRing m (rdN 1 (rdN 1 (rdN 2 t).2).2).2).1.length by rw [rep_len]; simp] at r6
  have hq := q rv (h6.put h.next (.cells [.int .i64 (rdN 2 t).1, .int .i64 (rdN 1 (rdN 2 t).2).1, rv] 52 1))
  rw [er] at hq
  refine hq ?_ ?_ ?_
  · exact ((r6.weak (B' := fun b => h.next ≤ b ∧ b ≠ h.next) fun b hb _ => ⟨by omega, by omega⟩).frame (by rw [put_next]; exact Nat.le_refl _) fun b hb _ => by rw [Heap.get_put, if_neg hb.2]).weak fun b hb _ => hb.1
  · exact rp6.frame (by rw [put_next]; exact Nat.le_refl _) (by rw [Heap.get_put, if_neg (by omega)])
  · refine ⟨by rw [put_next]; omega, fun b hb hx => ?_⟩
    rw [Heap.get_put, if_neg (by omega), x6 b (by have := xa.1; omega) hx (by omega)]
    exact xa.2 b hb hx
end
end Go.Proofs.Ytinonmcnofjeeaa.VM
namespace Go.Proofs.Ytinonmcnofjeeaa.VM
attribute [local irreducible] Af Nx EvO Ev Un Gd Cd EvR EvQ EvC Nc Gc Lp EvM NxM AfM GdM EvMR EvMQ EvMD EvMC Nm Gm
section
variable {P : Program}
theorem rd_ints0 (g : Pg P tab) {rb fb N0 : Nat} {G : Nat → Option Blk} {p0 p1 : AV} (hrb : rb < N0) (hfb : fb < N0) (hne : fb ≠ rb) (n : Nat) : ∀ (done : List Int) (t : List Nat) (s : T AV) (h : Heap) (rv : AV) (k : List Fr) (Q : Ex → T AV → Heap → Prop), done.length + n ≤ 1000 →
    N0 ≤ h.next → (∃ e ver, h.get fb = some (.cells [p0, rv, p1] e ver)) → LR h (N0 ≤ ·) rv 1 (done.map (AV.int .i64)) done.length → RP rb t h → (∀ b, b < N0 → b ≠ rb → b ≠ fb → h.get b = G b) → sg s 0 = .ptr rb 0 → sg s 3 = .ptr fb 0 → sg s 10 = .int .i64 (done.length + n : Nat) → sg s 11 = .int .i64 done.length →
    (∀ s' h' rv', (∃ e ver, h'.get fb = some (.cells [p0, rv', p1] e ver)) → LR h' (N0 ≤ ·) rv' 1 ((done ++ (rep (rdN 4) n t).1).map (AV.int .i64)) (done.length + n) → RP rb (rep (rdN 4) n t).2 h' → (∀ b, b < N0 → b ≠ rb → b ≠ fb → h'.get b = G b) → N0 ≤ h'.next → (∀ j, j = 0 ∨ j = 2 ∨ j = 3 ∨ j = 4 → sg s' j = sg s j) → Un P k Q (.exit 0) s' h') → Lp P b58_0 s h (Un P k Q) := by
  induction n with
  | zero =>
    intro done t s h rv k Q hl hn0 hf r rp ex h0 h3 h12 h13 hQ
    refine g.lpe b58_0.eq_1 ?_
    have c1 : ¬ ((done.length : Int) < (done.length : Int)) := by omega
    rw [Nat.add_zero] at h12
    simp only [h12, h13, c1, RX, VOp.fresh, bxC, bsC, un, most, callsOf, seval, Int.reducePow, ↓reduceIte, Nat.reduceEqDiff, reduceCtorEq]
    refine hQ _ _ rv hf ?_ rp ex hn0 ?_
    · simpa [rep] using r
    · rintro j (rfl | rfl | rfl | rfl) <;> simp only [sg_set, Nat.reduceEqDiff, ↓reduceIte]
  | succ n ih =>
    intro done t s h rv k Q hl hn0 hf r rp ex h0 h3 h12 h13 hQ
    refine g.lpe b58_0.eq_1 ?_
    have c1 : (done.length : Int) < ((done.length + (n + 1) : Nat) : Int) := by omega
    have w1 : IntKind.i64.wrap ((done.length : Int) + 1) = ((done.length + 1 : Nat) : Int) := by rw [w64 (by omega) (by omega)]; push_cast; rfl
    have hnb : ¬ N0 ≤ rb := by omega
    obtain ⟨ef, vf, hf⟩ := hf
    have rp0 := rp
    obtain ⟨_, hby, hlt, e, ver, hg⟩ := rp0
    simp only [h0, h3, h12, h13, c1, RX, VOp.fresh, bxC, bsC, un, most, callsOf, seval, Int.reducePow, ↓reduceIte, Nat.reduceEqDiff, reduceCtorEq]
    refine EvD.lk (fun _ _ h => (.int .i64 (rdN 4 t).1, h.put rb (.cells [.str (rdN 4 t).2] e (ver + 1)))) ?_
    have hok : OK P 57 [.ptr rb 0, .int .i64 4] h (.int .i64 (rdN 4 t).1) (h.put rb (.cells [.str (rdN 4 t).2] e (ver + 1))) := rnum g (N := 4) (by decide) hby hlt hg
    have x2 : Nx1 rb h (h.put rb (.cells [.str (rdN 4 t).2] e (ver + 1))) := ⟨rfl, fun b hb => by rw [Heap.get_put, if_neg hb]⟩
    have rp2 : RP rb (rdN 4 t).2 (h.put rb (.cells [.str (rdN 4 t).2] e (ver + 1))) := ⟨rp.1, rdN_by hby, Nat.lt_of_le_of_lt (rdN_len _ _) hlt, e, ver + 1, by rw [Heap.get_put, if_pos rfl]⟩
    generalize hh2 : h.put rb (.cells [.str (rdN 4 t).2] e (ver + 1)) = h2 at hok x2 rp2
    have e2 := x2.next
    have r2 := r.nx x2 hnb
    have hf2 := (x2.keep fb hne).trans hf
    have em := Ext.mk (h := h2) (.cells [.int .i64 (rdN 4 t).1] 3 0)
    have hn4 : (h2.mk' h2.next (.cells [.int .i64 (rdN 4 t).1] 3 0)).next = h2.next + 1 := by rw [mk_next]; omega
    obtain ⟨h5, e5, r5, n5, k5⟩ := (r2.frame em.1 fun b _ hb => em.2 b hb).push (nb := h2.next) (eb := 3) (vb := 0) (c := [.int .i64 (rdN 4 t).1]) (by rw [Heap.get_mk, if_pos rfl]) rfl rfl (Lvs.tolds rfl rfl) (by rw [hn4]; omega) (bytes := 8) (by unfold most2; omega) 3
    rw [hn4] at e5 r5 n5 k5
    have hv := r2.inB
    have kk : ∀ b, b < h2.next → b ∉ blkOf rv → h5.get b = h2.get b := fun b hb hn => (k5 b hn (by omega)).trans (em.2 b hb)
    have hf5 := (kk fb (by omega) fun hc => by have := hv fb hc; omega).trans hf2
    have hfn : ¬ fb = h2.next := by omega
    have hfr : ¬ fb = rb := hne
    simp only [h0, h3, hf, hf2, hf5, hfn, hok, hh2, e5, w1, RW, r2.one, RX, VOp.fresh, bxC, bsC, un, most, callsOf, seval, Int.reducePow, ↓reduceIte, Nat.reduceEqDiff, reduceCtorEq]
    refine ⟨⟨⟨?_, ?_, trivial⟩, trivial⟩, ?_⟩
    · show Lk _ _ _ _
      simp only [Lk, wanted, hf2, RX, VOp.fresh, bxC, bsC, un, most, callsOf, seval, Int.reducePow, ↓reduceIte, Nat.reduceEqDiff, reduceCtorEq]
    · show Lk _ _ _ _
      simp only [Lk, wanted, hf2, hfn, RX, VOp.fresh, bxC, bsC, un, most, callsOf, seval, Int.reducePow, ↓reduceIte, Nat.reduceEqDiff, reduceCtorEq]
    simp only [h13, w1, RX, VOp.fresh, bxC, bsC, un, most, callsOf, seval, Int.reducePow, ↓reduceIte, Nat.reduceEqDiff, reduceCtorEq]
    refine ih (done ++ [(rdN 4 t).1]) (rdN 4 t).2 _ _ (.sl (h2.next + 1) 0 (done.length + 1) (done.length + 1) 1) k Q (by rw [List.length_append, List.length_singleton]; omega) ?_ ?_ ?_ ?_ ?_ ?_ ?_ ?_ ?_ ?_
    · rw [put_next]; omega
    · exact ⟨ef, vf + 1, by rw [Heap.get_put, if_pos rfl]⟩
    · have r6 := (r5.weak (B' := fun b => N0 ≤ b ∧ b ≠ fb) fun b hb _ => ⟨hb, by omega⟩).frame (h' := h5.put fb (.cells [p0, .sl (h2.next + 1) 0 (done.length + 1) (done.length + 1) 1, p1] ef (vf + 1))) (by rw [put_next]; exact Nat.le_refl _) fun b hb _ => by rw [Heap.get_put, if_neg hb.2]
      have r7 := r6.weak (B' := (N0 ≤ ·)) fun b hb _ => hb.1
      simpa only [List.map_append, List.map_cons, List.map_nil, List.length_append, List.length_singleton] using r7
    · exact (rp2.frame (by omega) (kk rb rp2.1 fun hc => by have := hv rb hc; omega)).frame (by rw [put_next]; exact Nat.le_refl _) (by rw [Heap.get_put, if_neg (fun e => hne e.symm)])
    · intro b hb hx hf'
      rw [Heap.get_put, if_neg hf', kk b (by omega) (fun hc => by have := hv b hc; omega), x2.keep b hx, ex b hb hx hf']
    · simp only [h0, sg_set, Nat.reduceEqDiff, ↓reduceIte]
    · simp only [h3, sg_set, Nat.reduceEqDiff, ↓reduceIte]
    · simp only [h12, sg_set, Nat.reduceEqDiff, ↓reduceIte]
      rw [List.length_append, List.length_singleton]
      congr 2; omega
    · simp only [sg_set, Nat.reduceEqDiff, ↓reduceIte]
      rw [List.length_append, List.length_singleton]
    · intro s'' h' rv' q0 q1 q2 q3 q4 q5
      refine hQ s'' h' rv' q0 ?_ q2 q3 q4 fun j hj => (q5 j hj).trans ?_
      · simpa only [rep, List.append_assoc, List.cons_append, List.nil_append, List.length_append, List.length_singleton, Nat.add_assoc, Nat.add_comm 1 n] using q1
      · rcases hj with rfl | rfl | rfl | rfl <;> simp only [sg_set, Nat.reduceEqDiff, ↓reduceIte]
theorem rd_ints1 (g : Pg P tab) {rb fb N0 : Nat} {G : Nat → Option Blk} {p0 p1 : AV} (hrb : rb < N0) (hfb : fb < N0) (hne : fb ≠ rb) (n : Nat) : ∀ (done : List Int) (t : List Nat) (s : T AV) (h : Heap) (rv : AV) (k : List Fr) (Q : Ex → T AV → Heap → Prop), done.length + n ≤ 1000 →
    N0 ≤ h.next → (∃ e ver, h.get fb = some (.cells [p0, p1, rv] e ver)) → LR h (N0 ≤ ·) rv 1 (done.map (AV.int .i64)) done.length → RP rb t h → (∀ b, b < N0 → b ≠ rb → b ≠ fb → h.get b = G b) → sg s 0 = .ptr rb 0 → sg s 3 = .ptr fb 0 → sg s 21 = .int .i64 (done.length + n : Nat) → sg s 22 = .int .i64 done.length →
    (∀ s' h' rv', (∃ e ver, h'.get fb = some (.cells [p0, p1, rv'] e ver)) → LR h' (N0 ≤ ·) rv' 1 ((done ++ (rep (rdN 1) n t).1).map (AV.int .i64)) (done.length + n) → RP rb (rep (rdN 1) n t).2 h' → (∀ b, b < N0 → b ≠ rb → b ≠ fb → h'.get b = G b) → N0 ≤ h'.next → (∀ j, j = 0 ∨ j = 2 ∨ j = 3 ∨ j = 4 → sg s' j = sg s j) → Un P k Q (.exit 2) s' h') → Lp P b58_1 s h (Un P k Q) := by
  induction n with
  | zero =>
    intro done t s h rv k Q hl hn0 hf r rp ex h0 h3 h12 h13 hQ
    refine g.lpe b58_1.eq_1 ?_
    have c1 : ¬ ((done.length : Int) < (done.length : Int)) := by omega
    rw [Nat.add_zero] at h12
    simp only [h12, h13, c1, RX, VOp.fresh, bxC, bsC, un, most, callsOf, seval, Int.reducePow, ↓reduceIte, Nat.reduceEqDiff, reduceCtorEq]
    refine hQ _ _ rv hf ?_ rp ex hn0 ?_
    · simpa [rep] using r
    · rintro j (rfl | rfl | rfl | rfl) <;> simp only [sg_set, Nat.reduceEqDiff, ↓reduceIte]
  | succ n ih =>
    intro done t s h rv k Q hl hn0 hf r rp ex h0 h3 h12 h13 hQ
    refine g.lpe b58_1.eq_1 ?_
    have c1 : (done.length : Int) < ((done.length + (n + 1) : Nat) : Int) := by omega
    have w1 : IntKind.i64.wrap ((done.length : Int) + 1) = ((done.length + 1 : Nat) : Int) := by rw [w64 (by omega) (by omega)]; push_cast; rfl
    have hnb : ¬ N0 ≤ rb := by omega
    obtain ⟨ef, vf, hf⟩ := hf
    have rp0 := rp
    obtain ⟨_, hby, hlt, e, ver, hg⟩ := rp0
    simp only [h0, h3, h12, h13, c1, RX, VOp.fresh, bxC, bsC, un, most, callsOf, seval, Int.reducePow, ↓reduceIte, Nat.reduceEqDiff, reduceCtorEq]
    refine EvD.lk (fun _ _ h => (.int .i64 (rdN 1 t).1, h.put rb (.cells [.str (rdN 1 t).2] e (ver + 1)))) ?_
    have hok : OK P 57 [.ptr rb 0, .int .i64 1] h (.int .i64 (rdN 1 t).1) (h.put rb (.cells [.str (rdN 1 t).2] e (ver + 1))) := rnum g (N := 1) (by decide) hby hlt hg
    have x2 : Nx1 rb h (h.put rb (.cells [.str (rdN 1 t).2] e (ver + 1))) := ⟨rfl, fun b hb => by rw [Heap.get_put, if_neg hb]⟩
    have rp2 : RP rb (rdN 1 t).2 (h.put rb (.cells [.str (rdN 1 t).2] e (ver + 1))) := ⟨rp.1, rdN_by hby, Nat.lt_of_le_of_lt (rdN_len _ _) hlt, e, ver + 1, by rw [Heap.get_put, if_pos rfl]⟩
    generalize hh2 : h.put rb (.cells [.str (rdN 1 t).2] e (ver + 1)) = h2 at hok x2 rp2
    have e2 := x2.next
    have r2 := r.nx x2 hnb
    have hf2 := (x2.keep fb hne).trans hf
    have em := Ext.mk (h := h2) (.cells [.int .i64 (rdN 1 t).1] 3 0)
    have hn4 : (h2.mk' h2.next (.cells [.int .i64 (rdN 1 t).1] 3 0)).next = h2.next + 1 := by rw [mk_next]; omega
    obtain ⟨h5, e5, r5, n5, k5⟩ := (r2.frame em.1 fun b _ hb => em.2 b hb).push (nb := h2.next) (eb := 3) (vb := 0) (c := [.int .i64 (rdN 1 t).1]) (by rw [Heap.get_mk, if_pos rfl]) rfl rfl (Lvs.tolds rfl rfl) (by rw [hn4]; omega) (bytes := 8) (by unfold most2; omega) 3
    rw [hn4] at e5 r5 n5 k5
    have hv := r2.inB
    have kk : ∀ b, b < h2.next → b ∉ blkOf rv → h5.get b = h2.get b := fun b hb hn => (k5 b hn (by omega)).trans (em.2 b hb)
    have hf5 := (kk fb (by omega) fun hc => by have := hv fb hc; omega).trans hf2
    have hfn : ¬ fb = h2.next := by omega
    have hfr : ¬ fb = rb := hne
    simp only [h0, h3, hf, hf2, hf5, hfn, hok, hh2, e5, w1, RW, r2.one, RX, VOp.fresh, bxC, bsC, un, most, callsOf, seval, Int.reducePow, ↓reduceIte, Nat.reduceEqDiff, reduceCtorEq]
    refine ⟨⟨⟨?_, ?_, trivial⟩, trivial⟩, ?_⟩
    · show Lk _ _ _ _
      simp only [Lk, wanted, hf2, RX, VOp.fresh, bxC, bsC, un, most, callsOf, seval, Int.reducePow, ↓reduceIte, Nat.reduceEqDiff, reduceCtorEq]
    · show Lk _ _ _ _
      simp only [Lk, wanted, hf2, hfn, RX, VOp.fresh, bxC, bsC, un, most, callsOf, seval, Int.reducePow, ↓reduceIte, Nat.reduceEqDiff, reduceCtorEq]
    simp only [h13, w1, RX, VOp.fresh, bxC, bsC, un, most, callsOf, seval, Int.reducePow, ↓reduceIte, Nat.reduceEqDiff, reduceCtorEq]
    refine ih (done ++ [(rdN 1 t).1]) (rdN 1 t).2 _ _ (.sl (h2.next + 1) 0 (done.length + 1) (done.length + 1) 1) k Q (by rw [List.length_append, List.length_singleton]; omega) ?_ ?_ ?_ ?_ ?_ ?_ ?_ ?_ ?_ ?_
    · rw [put_next]; omega
    · exact ⟨ef, vf + 1, by rw [Heap.get_put, if_pos rfl]⟩
    · have r6 := (r5.weak (B' := fun b => N0 ≤ b ∧ b ≠ fb) fun b hb _ => ⟨hb, by omega⟩).frame (h' := h5.put fb (.cells [p0, p1, .sl (h2.next + 1) 0 (done.length + 1) (done.length + 1) 1] ef (vf + 1))) (by rw [put_next]; exact Nat.le_refl _) fun b hb _ => by rw [Heap.get_put, if_neg hb.2]
      have r7 := r6.weak (B' := (N0 ≤ ·)) fun b hb _ => hb.1
      simpa only [List.map_append, List.map_cons, List.map_nil, List.length_append, List.length_singleton] using r7
    · exact (rp2.frame (by omega) (kk rb rp2.1 fun hc => by have := hv rb hc; omega)).frame (by rw [put_next]; exact Nat.le_refl _) (by rw [Heap.get_put, if_neg (fun e => hne e.symm)])
    · intro b hb hx hf'
      rw [Heap.get_put, if_neg hf', kk b (by omega) (fun hc => by have := hv b hc; omega), x2.keep b hx, ex b hb hx hf']
    · simp only [h0, sg_set, Nat.reduceEqDiff, ↓reduceIte]
    · simp only [h3, sg_set, Nat.reduceEqDiff, ↓reduceIte]
    · simp only [h12, sg_set, Nat.reduceEqDiff, ↓reduceIte]
      rw [List.length_append, List.length_singleton]
      congr 2; omega
    · simp only [sg_set, Nat.reduceEqDiff, ↓reduceIte]
      rw [List.length_append, List.length_singleton]
    · intro s'' h' rv' q0 q1 q2 q3 q4 q5
      refine hQ s'' h' rv' q0 ?_ q2 q3 q4 fun j hj => (q5 j hj).trans ?_
      · simpa only [rep, List.append_assoc, List.cons_append, List.nil_append, List.length_append, List.length_singleton, Nat.add_assoc, Nat.add_comm 1 n] using q1
      · rcases hj with rfl | rfl | rfl | rfl <;> simp only [sg_set, Nat.reduceEqDiff, ↓reduceIte]
theorem rd_map (g : Pg P tab) {rb : Nat} {t : List Nat} {h : Heap} (rp : RP rb t h) {Q : AV → Heap → Prop} (q : ∀ sv ov h', LR h' (h.next ≤ ·) sv 1 ((rdMp t).1.starts.map (AV.int .i64)) (rdMp t).1.starts.length → LR h' (h.next ≤ ·) ov 1 ((rdMp t).1.owners.map (AV.int .i64)) (rdMp t).1.owners.length → RP rb (rdMp t).2 h' → ExtX rb h h' → Q (.agg [.int .i64 (rdMp t).1.epoch, sv, ov]) h') : Cl P 58 [.ptr rb 0] h Q := by
  refine g.cl (vf := v58) rfl rfl ?_
  have hrb := rp.1
  have x1 := Ext.mk (h := h) (.cells [.int .i64 0, .nils, .nils] 26 0)
  have n1 : (h.mk' h.next (.cells [.int .i64 0, .nils, .nils] 26 0)).next = h.next + 1 := by rw [mk_next]; omega
  have g1 : (h.mk' h.next (.cells [.int .i64 0, .nils, .nils] 26 0)).get h.next = some (.cells [.int .i64 0, .nils, .nils] 26 0) := by rw [Heap.get_mk, if_pos rfl]
  have rp1 := rp.frame x1.1 (x1.2 rb hrb)
  simp only [v58, RX, VOp.fresh, bxC, bsC, un, most, callsOf, seval, Int.reducePow, ↓reduceIte, Nat.reduceEqDiff, reduceCtorEq]
  generalize h.mk' h.next (.cells [.int .i64 0, .nils, .nils] 26 0) = h1 at *
  refine rnum_cl g (N := 2) (by decide) rp1 fun h3 rp3 x3 => ?_
  have e3 := x3.next
  simp only [RW, RX, VOp.fresh, bxC, bsC, un, most, callsOf, seval, Int.reducePow, ↓reduceIte, Nat.reduceEqDiff, reduceCtorEq]
  have g3 : h3.get h.next = some (.cells [.int .i64 0, .nils, .nils] 26 0) := (x3.keep _ (by omega)).trans g1
  have n4 : ((h3.mk' h3.next (.cells [.int .i64 0, .nils, .nils] 26 0)).put h3.next (.cells [.int .i64 (rdN 2 t).1, .nils, .nils] 26 1)).next = h3.next + 1 := by rw [put_next, mk_next]; omega
  have x4 : Ext h3 ((h3.mk' h3.next (.cells [.int .i64 0, .nils, .nils] 26 0)).put h3.next (.cells [.int .i64 (rdN 2 t).1, .nils, .nils] 26 1)) := ⟨by omega, fun b hb => by rw [Heap.get_put, if_neg (by omega), Heap.get_mk, if_neg (by omega)]⟩
  have g4 : ((h3.mk' h3.next (.cells [.int .i64 0, .nils, .nils] 26 0)).put h3.next (.cells [.int .i64 (rdN 2 t).1, .nils, .nils] 26 1)).get h3.next = some (.cells [.int .i64 (rdN 2 t).1, .nils, .nils] 26 1) := by rw [Heap.get_put, if_pos rfl]
  have rp4 := rp3.frame x4.1 (x4.2 rb rp3.1)
  generalize (h3.mk' h3.next (.cells [.int .i64 0, .nils, .nils] 26 0)).put h3.next (.cells [.int .i64 (rdN 2 t).1, .nils, .nils] 26 1) = h4 at *
  refine rnum_cl g (N := 1) (by decide) rp4 fun h5 rp5 x5 => ?_
  have e5 := x5.next
  have hby := rp3.2.1
  have hk := rdN1_le hby
  have hk0 := (rdN_le (n := 1) (by decide) hby).1
  obtain ⟨m, hm⟩ : ∃ m : Nat, (rdN 1 (rdN 2 t).2).1 = (m : Int) := ⟨(rdN 1 (rdN 2 t).2).1.toNat, by omega⟩
  have xa : ExtX rb h h5 := (((x1.x).trans x3.x).trans x4.x).trans x5.x
  have g5 : h5.get h3.next = some (.cells [.int .i64 (rdN 2 t).1, .nils, .nils] 26 1) := (x5.keep _ (by omega)).trans g4
  have g5b : h5.get h.next = some (.cells [.int .i64 0, .nils, .nils] 26 0) := (x5.keep _ (by omega)).trans ((x4.2 _ (by omega)).trans g3)
  simp only [hm, RX, VOp.fresh, bxC, bsC, un, most, callsOf, seval, Int.reducePow, ↓reduceIte, Nat.reduceEqDiff, reduceCtorEq]
  refine rd_ints0 g (N0 := h5.next) (G := h5.get) (fb := h3.next) (p0 := .int .i64 (rdN 2 t).1) (p1 := .nils) (by have := rp5.1; omega) (by omega) (by omega) m [] _ _ h5 .nils _ _ (by simp; omega) (Nat.le_refl _) ⟨_, _, g5⟩ (.nil _ _ _) rp5 (fun _ _ _ _ => rfl) ?_ ?_ ?_ ?_ ?_
  · simp only [sg_set, Nat.reduceEqDiff, ↓reduceIte]
  · simp only [sg_set, Nat.reduceEqDiff, ↓reduceIte]
  · simp only [sg_set, Nat.reduceEqDiff, ↓reduceIte]
    simp
  · simp only [sg_set, Nat.reduceEqDiff, ↓reduceIte]
    rfl
  intro s' h6 sv ⟨ef, vf, g6⟩ r6 rp6 x6 n6 ks
  have a0 := ks 0 (by simp)
  have a2 := ks 2 (by simp)
  have a3 := ks 3 (by simp)
  have a4 := ks 4 (by simp)
  simp only [sg_set, Nat.reduceEqDiff, ↓reduceIte] at a0 a2 a3 a4
  clear ks
  simp only [a0, a2, a3, a4, RX, VOp.fresh, bxC, bsC, un, most, callsOf, seval, Int.reducePow, ↓reduceIte, Nat.reduceEqDiff, reduceCtorEq]
  refine rd_ints1 g (N0 := h6.next) (G := h6.get) (fb := h3.next) (p0 := .int .i64 (rdN 2 t).1) (p1 := sv) (by have := rp6.1; omega) (by omega) (by omega) m [] _ _ h6 .nils _ _ (by simp; omega) (Nat.le_refl _) ⟨_, _, g6⟩ (.nil _ _ _) rp6 (fun _ _ _ _ => rfl) ?_ ?_ ?_ ?_ ?_
  · simp only [a0, sg_set, Nat.reduceEqDiff, ↓reduceIte]
  · simp only [a3, sg_set, Nat.reduceEqDiff, ↓reduceIte]
  · simp only [sg_set, Nat.reduceEqDiff, ↓reduceIte]
    simp
  · simp only [sg_set, Nat.reduceEqDiff, ↓reduceIte]
    rfl
  intro s'' h7 ov ⟨ef', vf', g7⟩ r7 rp7 x7 n7 ks
  have b2 := ks 2 (by simp)
  have b3 := ks 3 (by simp)
  simp only [sg_set, Nat.reduceEqDiff, ↓reduceIte, a2, a3] at b2 b3
  clear ks
  have er : (rdMp t) = (⟨(rdN 2 t).1, (rep (rdN 4) m (rdN 1 (rdN 2 t).2).2).1, (rep (rdN 1) m (rep (rdN 4) m (rdN 1 (rdN 2 t).2).2).2).1⟩, (rep (rdN 1) m (rep (rdN 4) m (rdN 1 (rdN 2 t).2).2).2).2) := by
    rw [rdMp]
    simp only [hm, Int.toNat_natCast]
  have g7b : h7.get h.next = some (.cells [.int .i64 0, .nils, .nils] 26 0) := (x7 _ (by omega) (by omega) (by omega)).trans ((x6 _ (by omega) (by omega) (by omega)).trans g5b)
  have hvs := r6.inB
  have r6' : LR h7 (h5.next ≤ ·) sv 1 (([] ++ (rep (rdN 4) m (rdN 1 (rdN 2 t).2).2).1).map (AV.int .i64)) (([] : List Int).length + m) := r6.frame n7 fun b hb hlt => x7 b hlt (by have := rp5.1; omega) (by omega)
  simp only [b2, b3, g7, g7b, RW, r6.one, r7.one, RX, VOp.fresh, bxC, bsC, un, most, callsOf, seval, Int.reducePow, ↓reduceIte, Nat.reduceEqDiff, reduceCtorEq]
  rw [List.nil_append] at r6' r7
  rw [show ([] : List Int).length + m = (rep (rdN 4) m (rdN 1 (rdN 2 t).2).2).1.length by rw [rep_len]; simp] at r6'
  rw [show ([] : List Int).length + m = (rep (rdN 1) m (rep (rdN 4) m (rdN 1 (rdN 2 t).2).2).2).1.length by rw [rep_len]; simp] at r7
  have hq := q sv ov (h7.put h.next (.cells [.int .i64 (rdN 2 t).1, sv, ov] 26 1))
  rw [er] at hq
  have fin : ∀ {v : AV} {N : Nat} {tl : List AV} {n : Nat}, h.next < N → LR h7 (N ≤ ·) v 1 tl n → LR (h7.put h.next (.cells [.int .i64 (rdN 2 t).1, sv, ov] 26 1)) (h.next ≤ ·) v 1 tl n := fun hN r => ((r.weak (B' := fun b => h.next ≤ b ∧ b ≠ h.next) fun b hb _ => ⟨by omega, by omega⟩).frame (by rw [put_next]; exact Nat.le_refl _) fun b hb _ => by rw [Heap.get_put, if_neg hb.2]).weak fun b hb _ => hb.1
  refine hq (fin (by omega) r6') (fin (by omega) r7) ?_ ?_
  · exact rp7.frame (by rw [put_next]; exact Nat.le_refl _) (by rw [Heap.get_put, if_neg (by omega)])
  · refine ⟨by rw [put_next]; omega, fun b hb hx => ?_⟩
    rw [Heap.get_put, if_neg (by omega), x7 b (by have := xa.1; omega) hx (by omega), x6 b (by have := xa.1; omega) hx (by omega)]
    exact xa.2 b hb hx
theorem rd_name (g : Pg P tab) {rb : Nat} {t : List Nat} {h : Heap} (rp : RP rb t h) {Q : AV → Heap → Prop} (q : ∀ h', RP rb (rdN 2 (rdN 1 t).2).2 h' → ExtX rb h h' → Q (.agg [.int .i64 (rdN 1 t).1, .int .i64 (rdN 2 (rdN 1 t).2).1]) h') : Cl P 59 [.ptr rb 0] h Q := by
  refine g.cl (vf := v59) rfl rfl ?_
  have hrb := rp.1
  have x1 := Ext.mk (h := h) (.cells [.int .i64 0, .int .i64 0] 23 0)
  have n1 : (h.mk' h.next (.cells [.int .i64 0, .int .i64 0] 23 0)).next = h.next + 1 := by rw [mk_next]; omega
  have g1 : (h.mk' h.next (.cells [.int .i64 0, .int .i64 0] 23 0)).get h.next = some (.cells [.int .i64 0, .int .i64 0] 23 0) := by rw [Heap.get_mk, if_pos rfl]
  have rp1 := rp.frame x1.1 (x1.2 rb hrb)
  simp only [v59, RX, VOp.fresh, bxC, bsC, un, most, callsOf, seval, Int.reducePow, ↓reduceIte, Nat.reduceEqDiff, reduceCtorEq]
  generalize h.mk' h.next (.cells [.int .i64 0, .int .i64 0] 23 0) = h1 at *
  refine rnum_cl g (N := 1) (by decide) rp1 fun h2 rp2 x2 => ?_
  simp only [RX, VOp.fresh, bxC, bsC, un, most, callsOf, seval, Int.reducePow, ↓reduceIte, Nat.reduceEqDiff, reduceCtorEq]
  refine rnum_cl g (N := 2) (by decide) rp2 fun h3 rp3 x3 => ?_
  have e2 := x2.next
  have e3 := x3.next
  have g3 : h3.get h.next = some (.cells [.int .i64 0, .int .i64 0] 23 0) := (x3.keep _ (by omega)).trans ((x2.keep _ (by omega)).trans g1)
  simp only [g3, RW, RX, VOp.fresh, bxC, bsC, un, most, callsOf, seval, Int.reducePow, ↓reduceIte, Nat.reduceEqDiff, reduceCtorEq]
  refine q _ (rp3.frame (by rw [put_next]; exact Nat.le_refl _) (by rw [Heap.get_put, if_neg (by omega)])) ⟨by rw [put_next]; omega, fun b hb hx => ?_⟩
  rw [Heap.get_put, if_neg (by omega)]
  exact (((x1.x).trans x2.x).trans x3.x).2 b hb hx
theorem rd_bool (g : Pg P tab) {rb : Nat} {t : List Nat} {h : Heap} (rp : RP rb t h) {Q : AV → Heap → Prop} (q : ∀ h', RP rb (rdN 1 t).2 h' → ExtX rb h h' → Q (.bool (decide ((rdN 1 t).1 = 1))) h') : Cl P 61 [.ptr rb 0] h Q := by
  refine g.cl (vf := v61) rfl rfl ?_
  simp only [v61, RX, VOp.fresh, bxC, bsC, un, most, callsOf, seval, Int.reducePow, ↓reduceIte, Nat.reduceEqDiff, reduceCtorEq]
  refine rnum_cl g (N := 1) (by decide) rp fun h2 rp2 x2 => ?_
  simp only [RX, VOp.fresh, bxC, bsC, un, most, callsOf, seval, Int.reducePow, ↓reduceIte, Nat.reduceEqDiff, reduceCtorEq]
  exact q _ rp2 x2.x
end
end Go.Proofs.Ytinonmcnofjeeaa.VM
namespace Go.Proofs.Ytinonmcnofjeeaa.VM
attribute [local irreducible] Af Nx EvO Ev Un Gd Cd EvR EvQ EvC Nc Gc Lp EvM NxM AfM GdM EvMR EvMQ EvMD EvMC Nm Gm
theorem lv_ints {h : Heap} {B : Nat → Prop} {v : AV} {l : List Int} (r : LR h B v 1 (l.map (AV.int .i64)) l.length) : Lv h B v (cInts l) := r.lv
theorem Lvs.cells8 {h : Heap} {B : Nat → Prop} {o : Op} {rv sv ov : AV} (a : Lv h B rv (cRings o.f.rings)) (b : Lv h B sv (cInts o.m.starts)) (c : Lv h B ov (cInts o.m.owners)) :
    Lvs h B [.int .i64 o.kind, .int .i64 o.f.id, .int .i64 o.f.shape, rv, .int .i64 o.id, .int .i64 o.m.epoch, sv, ov] (cOpL o) :=
  .cons .int (.cons .int (.cons .int (.cons a (.cons .int (.cons .int (.cons b (.cons c .nil)))))))
section
variable {P : Program}
theorem rd_opsl (g : Pg P tab) {rb : Nat} {H0 : Heap} (hrb : rb < H0.next) (n : Nat) : ∀ (done : List Op) (t : List Nat) (s : T AV) (h : Heap) (k : List Fr) (Q : Ex → T AV → Heap → Prop), done.length + n ≤ 1000 →
    LR h (H0.next ≤ ·) (sg s 5) 8 ((done.map cOpL).flatten) done.length → RP rb t h → ExtX rb H0 h → sg s 0 = .ptr rb 0 → sg s 11 = .int .i64 (done.length + n : Nat) → sg s 12 = .int .i64 done.length →
    (∀ s' h', LR h' (H0.next ≤ ·) (sg s' 5) 8 (((done ++ (rep rdOp n t).1).map cOpL).flatten) (done.length + n) → RP rb (rep rdOp n t).2 h' → ExtX rb H0 h' → sg s' 4 = sg s 4 → Un P k Q (.exit 0) s' h') → Lp P b60_0 s h (Un P k Q) := by
  induction n with
  | zero =>
    intro done t s h k Q hl r rp ex h0 h11 h12 hQ
    refine g.lpe b60_0.eq_1 ?_
    have c1 : ¬ ((done.length : Int) < (done.length : Int)) := by omega
    rw [Nat.add_zero] at h11
    simp only [h11, h12, c1, RX, VOp.fresh, bxC, bsC, un, most, callsOf, seval, Int.reducePow, ↓reduceIte, Nat.reduceEqDiff, reduceCtorEq]
    refine hQ _ _ ?_ rp ex ?_
    · simp only [sg_set, Nat.reduceEqDiff, ↓reduceIte]
      simpa [rep] using r
    · simp only [sg_set, Nat.reduceEqDiff, ↓reduceIte]
  | succ n ih =>
    intro done t s h k Q hl r rp ex h0 h11 h12 hQ
    refine g.lpe b60_0.eq_1 ?_
    have c1 : (done.length : Int) < ((done.length + (n + 1) : Nat) : Int) := by omega
    have w1 : IntKind.i64.wrap ((done.length : Int) + 1) = ((done.length + 1 : Nat) : Int) := by rw [w64 (by omega) (by omega)]; push_cast; rfl
    have hnb : ¬ H0.next ≤ rb := by omega
    have fin : ∀ (s' : T AV) (h' : Heap), LR h' (H0.next ≤ ·) (sg s' 5) 8 (((done ++ [(rdOp t).1]).map cOpL).flatten) (done ++ [(rdOp t).1]).length → RP rb (rdOp t).2 h' → ExtX rb H0 h' → sg s' 0 = .ptr rb 0 → sg s' 11 = .int .i64 (done.length + (n + 1) : Nat) → sg s' 12 = .int .i64 (done.length + 1 : Nat) → sg s' 4 = sg s 4 → Lp P b60_0 s' h' (Un P k Q) := by
      intro s' h' q1 q2 q3 q4 q5 q6 q7
      refine ih (done ++ [(rdOp t).1]) (rdOp t).2 s' h' k Q (by rw [List.length_append, List.length_singleton]; omega) q1 q2 q3 q4 ?_ ?_ ?_
      · rw [q5, List.length_append, List.length_singleton]
        congr 2; omega
      · rw [q6, List.length_append, List.length_singleton]
      · intro s'' h'' p1 p2 p3 p4
        refine hQ s'' h'' ?_ p2 p3 (p4.trans q7)
        simpa only [rep, List.append_assoc, List.cons_append, List.nil_append, List.length_append, List.length_singleton, Nat.add_assoc, Nat.add_comm 1 n] using p1
    -- what is put behind
    have put : ∀ (h4 : Heap) (ob e4 v4 : Nat) (rv sv ov : AV), h4.get ob = some (.cells [.int .i64 (rdOp t).1.kind, .int .i64 (rdOp t).1.f.id, .int .i64 (rdOp t).1.f.shape, rv, .int .i64 (rdOp t).1.id, .int .i64 (rdOp t).1.m.epoch, sv, ov] e4 v4) →
        rv.one = true → sv.one = true → ov.one = true → Lv h4 (h.next ≤ ·) rv (cRings (rdOp t).1.f.rings) → Lv h4 (h.next ≤ ·) sv (cInts (rdOp t).1.m.starts) → Lv h4 (h.next ≤ ·) ov (cInts (rdOp t).1.m.owners) → RP rb (rdOp t).2 h4 → ExtX rb h h4 →
        ∃ h5, appendV (h4.mk' h4.next (.cells [.int .i64 (rdOp t).1.kind, .int .i64 (rdOp t).1.f.id, .int .i64 (rdOp t).1.f.shape, rv, .int .i64 (rdOp t).1.id, .int .i64 (rdOp t).1.m.epoch, sv, ov] 54 0)) 8 112 54 (sg s 5) (.sl h4.next 0 1 1 8) = some (.sl (h4.next + 1) 0 (done.length + 1) (done.length + 1) 8, h5) ∧
          LR h5 (H0.next ≤ ·) (.sl (h4.next + 1) 0 (done.length + 1) (done.length + 1) 8) 8 (((done ++ [(rdOp t).1]).map cOpL).flatten) (done ++ [(rdOp t).1]).length ∧ RP rb (rdOp t).2 h5 ∧ ExtX rb H0 h5 := by
      intro h4 ob e4 v4 rv sv ov g4 o1 o2 o3 l1 l2 l3 rp4 x4
      have hle := ex.1
      have em := Ext.mk (h := h4) (.cells [.int .i64 (rdOp t).1.kind, .int .i64 (rdOp t).1.f.id, .int .i64 (rdOp t).1.f.shape, rv, .int .i64 (rdOp t).1.id, .int .i64 (rdOp t).1.m.epoch, sv, ov] 54 0)
      have hn4 : (h4.mk' h4.next (.cells [.int .i64 (rdOp t).1.kind, .int .i64 (rdOp t).1.f.id, .int .i64 (rdOp t).1.f.shape, rv, .int .i64 (rdOp t).1.id, .int .i64 (rdOp t).1.m.epoch, sv, ov] 54 0)).next = h4.next + 1 := by rw [mk_next]; omega
      have hlt := r.lt
      have r4 : LR h4 (H0.next ≤ ·) (sg s 5) 8 ((done.map cOpL).flatten) done.length := r.frame x4.1 fun b hb hlt => x4.2 b hlt fun e => hnb (e ▸ hb)
      have l4 : Lvs (h4.mk' h4.next (.cells [.int .i64 (rdOp t).1.kind, .int .i64 (rdOp t).1.f.id, .int .i64 (rdOp t).1.f.shape, rv, .int .i64 (rdOp t).1.id, .int .i64 (rdOp t).1.m.epoch, sv, ov] 54 0)) (fun b => H0.next ≤ b ∧ b ∉ blkOf (sg s 5)) [.int .i64 (rdOp t).1.kind, .int .i64 (rdOp t).1.f.id, .int .i64 (rdOp t).1.f.shape, rv, .int .i64 (rdOp t).1.id, .int .i64 (rdOp t).1.m.epoch, sv, ov] (cOpL (rdOp t).1) :=
        ((Lvs.cells8 l1 l2 l3).frame em.1 fun b _ hb => em.2 b hb).weak fun b hb _ => ⟨by omega, fun hc => by have := hlt b hc; omega⟩
      obtain ⟨h5, e5, r5, n5, k5⟩ := (r4.frame em.1 fun b _ hb => em.2 b hb).push (nb := h4.next) (eb := 54) (vb := 0) (by rw [Heap.get_mk, if_pos rfl]) rfl (by simp only [List.all_cons, List.all_nil, one_int, o1, o2, o3, Bool.and_self]) l4 (by rw [hn4]; have := x4.1; omega) (bytes := 112) (by unfold most2; omega) 54
      rw [hn4] at e5 r5 n5 k5
      have hv := r4.inB
      have kk : ∀ b, b < h4.next → b ∉ blkOf (sg s 5) → h5.get b = h4.get b := fun b hb hn => (k5 b hn (by omega)).trans (em.2 b hb)
      refine ⟨h5, e5, ?_, rp4.frame (by omega) (kk rb rp4.1 fun hc => by have := hv rb hc; omega), ⟨by have := x4.1; omega, fun b hb hx => ?_⟩⟩
      · simpa only [List.map_append, List.flatten_append, List.map_cons, List.map_nil, List.flatten_cons, List.flatten_nil, List.append_nil, List.length_append, List.length_singleton] using r5
      · rw [kk b (by have := x4.1; omega) (fun hc => by have := hv b hc; omega), x4.2 b (by omega) hx, ex.2 b hb hx]
    simp only [h0, h11, h12, c1, RX, VOp.fresh, bxC, bsC, un, most, callsOf, seval, Int.reducePow, ↓reduceIte, Nat.reduceEqDiff, reduceCtorEq]
    refine rnum_cl g (N := 1) (by decide) rp fun h2 rp2 x2 => ?_
    have e2 := x2.next
    have x3 : Ext h2 ((h2.mk' h2.next (.cells [.int .i64 0, .int .i64 0, .int .i64 0, .nils, .int .i64 0, .int .i64 0, .nils, .nils] 54 0)).put h2.next (.cells [.int .i64 (rdN 1 t).1, .int .i64 0, .int .i64 0, .nils, .int .i64 0, .int .i64 0, .nils, .nils] 54 1)) := ⟨by rw [put_next, mk_next]; omega, fun b hb => by rw [Heap.get_put, if_neg (by omega), Heap.get_mk, if_neg (by omega)]⟩
    have g3 : ((h2.mk' h2.next (.cells [.int .i64 0, .int .i64 0, .int .i64 0, .nils, .int .i64 0, .int .i64 0, .nils, .nils] 54 0)).put h2.next (.cells [.int .i64 (rdN 1 t).1, .int .i64 0, .int .i64 0, .nils, .int .i64 0, .int .i64 0, .nils, .nils] 54 1)).get h2.next = some (.cells [.int .i64 (rdN 1 t).1, .int .i64 0, .int .i64 0, .nils, .int .i64 0, .int .i64 0, .nils, .nils] 54 1) := by rw [Heap.get_put, if_pos rfl]
    have n3 : ((h2.mk' h2.next (.cells [.int .i64 0, .int .i64 0, .int .i64 0, .nils, .int .i64 0, .int .i64 0, .nils, .nils] 54 0)).put h2.next (.cells [.int .i64 (rdN 1 t).1, .int .i64 0, .int .i64 0, .nils, .int .i64 0, .int .i64 0, .nils, .nils] 54 1)).next = h2.next + 1 := by rw [put_next, mk_next]; omega
    have rp3 := rp2.frame x3.1 (x3.2 rb rp2.1)
    simp only [RW, RX, VOp.fresh, bxC, bsC, un, most, callsOf, seval, Int.reducePow, ↓reduceIte, Nat.reduceEqDiff, reduceCtorEq]
    generalize (h2.mk' h2.next (.cells [.int .i64 0, .int .i64 0, .int .i64 0, .nils, .int .i64 0, .int .i64 0, .nils, .nils] 54 0)).put h2.next (.cells [.int .i64 (rdN 1 t).1, .int .i64 0, .int .i64 0, .nils, .int .i64 0, .int .i64 0, .nils, .nils] 54 1) = h3 at *

    by_cases k0 : (rdN 1 t).1 = 0
    · have eo : rdOp t = (⟨0, (rdFeat (rdN 1 t).2).1, 0, ⟨0, [], []⟩⟩, (rdFeat (rdN 1 t).2).2) := by rw [rdOp]; simp only [k0, if_true, if_false, Int.one_ne_zero, Int.reduceEq]
      rw [k0] at g3
      simp only [k0, h0, RX, VOp.fresh, bxC, bsC, un, most, callsOf, seval, Int.reducePow, ↓reduceIte, Nat.reduceEqDiff, reduceCtorEq]
      refine rd_feat g rp3 fun rv h4 r4 rp4 x4 => ?_
      have g4 := (x4.2 h2.next (by omega) (by have := rp2.1; omega)).trans g3
      obtain ⟨h5, e5, r5, rp5, ex5⟩ := put (h4.put h2.next (.cells [.int .i64 0, .int .i64 (rdFeat (rdN 1 t).2).1.id, .int .i64 (rdFeat (rdN 1 t).2).1.shape, rv, .int .i64 0, .int .i64 0, .nils, .nils] 54 2)) h2.next 54 2 rv .nils .nils
        (by rw [Heap.get_put, if_pos rfl, eo]) r4.one rfl rfl (by rw [eo]; exact (r4.lv.weak (B' := fun b => h.next ≤ b ∧ b ≠ h2.next) fun b hb _ => ⟨by omega, by omega⟩).frame (by rw [put_next]; exact Nat.le_refl _) (fun b hb _ => by rw [Heap.get_put, if_neg hb.2]) |>.weak fun b hb _ => hb.1) (by rw [eo]; exact .nils) (by rw [eo]; exact .nils)
        (by rw [eo]; exact rp4.frame (by rw [put_next]; exact Nat.le_refl _) (by rw [Heap.get_put, if_neg (by have := rp2.1; omega)])) (((x2.x.trans x3.x).trans x4).put' (by omega) _)
      rw [eo] at e5
      simp only [put_next] at e5 r5
      simp only [h0, h12, g4, k0, e5, w1, RW, r4.one, r4.cells, RX, VOp.fresh, bxC, bsC, un, most, callsOf, seval, Int.reducePow, ↓reduceIte, Nat.reduceEqDiff, reduceCtorEq]
      refine fin _ _ ?_ rp5 ex5 ?_ ?_ ?_ ?_
      · simp only [sg_set, Nat.reduceEqDiff, ↓reduceIte]
        exact r5
      · simp only [h0, sg_set, Nat.reduceEqDiff, ↓reduceIte]
      · simp only [h11, sg_set, Nat.reduceEqDiff, ↓reduceIte]
      · simp only [sg_set, Nat.reduceEqDiff, ↓reduceIte]
      · simp only [sg_set, Nat.reduceEqDiff, ↓reduceIte]
    · by_cases k1 : (rdN 1 t).1 = 1
      · have eo : rdOp t = (⟨1, ⟨0, 0, []⟩, (rdN 2 (rdN 1 t).2).1, ⟨0, [], []⟩⟩, (rdN 2 (rdN 1 t).2).2) := by rw [rdOp]; simp only [k1, if_true, if_false, Int.one_ne_zero, Int.reduceEq]
        rw [k1] at g3
        simp only [k1, h0, RX, VOp.fresh, bxC, bsC, un, most, callsOf, seval, Int.reducePow, ↓reduceIte, Nat.reduceEqDiff, reduceCtorEq]
        refine rnum_cl g (N := 2) (by decide) rp3 fun h4 rp4 x4' => ?_
        have x4 := x4'.x
        have g4 := (x4.2 h2.next (by omega) (by have := rp2.1; omega)).trans g3
        obtain ⟨h5, e5, r5, rp5, ex5⟩ := put (h4.put h2.next (.cells [.int .i64 1, .int .i64 0, .int .i64 0, .nils, .int .i64 (rdN 2 (rdN 1 t).2).1, .int .i64 0, .nils, .nils] 54 2)) h2.next 54 2 .nils .nils .nils
          (by rw [Heap.get_put, if_pos rfl, eo]) rfl rfl rfl (by rw [eo]; exact .nils) (by rw [eo]; exact .nils) (by rw [eo]; exact .nils)
          (by rw [eo]; exact rp4.frame (by rw [put_next]; exact Nat.le_refl _) (by rw [Heap.get_put, if_neg (by have := rp2.1; omega)])) (((x2.x.trans x3.x).trans x4).put' (by omega) _)
        rw [eo] at e5
        simp only [put_next] at e5 r5
        simp only [h0, h12, g4, k1, e5, w1, RW, RX, VOp.fresh, bxC, bsC, un, most, callsOf, seval, Int.reducePow, ↓reduceIte, Nat.reduceEqDiff, reduceCtorEq]
        refine fin _ _ ?_ rp5 ex5 ?_ ?_ ?_ ?_
        · simp only [sg_set, Nat.reduceEqDiff, ↓reduceIte]
          exact r5
        · simp only [h0, sg_set, Nat.reduceEqDiff, ↓reduceIte]
        · simp only [h11, sg_set, Nat.reduceEqDiff, ↓reduceIte]
        · simp only [sg_set, Nat.reduceEqDiff, ↓reduceIte]
        · simp only [sg_set, Nat.reduceEqDiff, ↓reduceIte]
      · by_cases k2 : (rdN 1 t).1 = 2
        · have eo : rdOp t = (⟨2, ⟨0, 0, []⟩, 0, (rdMp (rdN 1 t).2).1⟩, (rdMp (rdN 1 t).2).2) := by rw [rdOp]; simp only [k2, if_true, if_false, Int.one_ne_zero, Int.reduceEq]
          rw [k2] at g3
          simp only [k2, h0, RX, VOp.fresh, bxC, bsC, un, most, callsOf, seval, Int.reducePow, ↓reduceIte, Nat.reduceEqDiff, reduceCtorEq]
          refine rd_map g rp3 fun sv ov h4 r4 q4 rp4 x4 => ?_
          have g4 := (x4.2 h2.next (by omega) (by have := rp2.1; omega)).trans g3
          obtain ⟨h5, e5, r5, rp5, ex5⟩ := put (h4.put h2.next (.cells [.int .i64 2, .int .i64 0, .int .i64 0, .nils, .int .i64 0, .int .i64 (rdMp (rdN 1 t).2).1.epoch, sv, ov] 54 2)) h2.next 54 2 .nils sv ov
            (by rw [Heap.get_put, if_pos rfl, eo]) rfl r4.one q4.one (by rw [eo]; exact .nils) (by rw [eo]; exact ((lv_ints r4).weak (B' := fun b => h.next ≤ b ∧ b ≠ h2.next) fun b hb _ => ⟨by omega, by omega⟩).frame (by rw [put_next]; exact Nat.le_refl _) (fun b hb _ => by rw [Heap.get_put, if_neg hb.2]) |>.weak fun b hb _ => hb.1) (by rw [eo]; exact ((lv_ints q4).weak (B' := fun b => h.next ≤ b ∧ b ≠ h2.next) fun b hb _ => ⟨by omega, by omega⟩).frame (by rw [put_next]; exact Nat.le_refl _) (fun b hb _ => by rw [Heap.get_put, if_neg hb.2]) |>.weak fun b hb _ => hb.1)
            (by rw [eo]; exact rp4.frame (by rw [put_next]; exact Nat.le_refl _) (by rw [Heap.get_put, if_neg (by have := rp2.1; omega)])) (((x2.x.trans x3.x).trans x4).put' (by omega) _)
          rw [eo] at e5
          simp only [put_next] at e5 r5
          simp only [h0, h12, g4, k2, e5, w1, RW, r4.one, r4.cells, q4.one, q4.cells, RX, VOp.fresh, bxC, bsC, un, most, callsOf, seval, Int.reducePow, ↓reduceIte, Nat.reduceEqDiff, reduceCtorEq]
          refine fin _ _ ?_ rp5 ex5 ?_ ?_ ?_ ?_
          · simp only [sg_set, Nat.reduceEqDiff, ↓reduceIte]
            exact r5
          · simp only [h0, sg_set, Nat.reduceEqDiff, ↓reduceIte]
          · simp only [h11, sg_set, Nat.reduceEqDiff, ↓reduceIte]
          · simp only [sg_set, Nat.reduceEqDiff, ↓reduceIte]
          · simp only [sg_set, Nat.reduceEqDiff, ↓reduceIte]
        · have eo : rdOp t = (⟨(rdN 1 t).1, ⟨0, 0, []⟩, 0, ⟨0, [], []⟩⟩, (rdN 1 t).2) := by rw [rdOp]; simp only [k0, k1, k2, if_false]
          have g4 := g3
          obtain ⟨h5, e5, r5, rp5, ex5⟩ := put h3 h2.next 54 1 .nils .nils .nils (by rw [g3, eo]) rfl rfl rfl (by rw [eo]; exact .nils) (by rw [eo]; exact .nils) (by rw [eo]; exact .nils) (by rw [eo]; exact rp3) (x2.x.trans x3.x)
          rw [eo, n3] at e5
          rw [n3] at r5
          simp only [h0, h12, g4, k0, k1, k2, e5, w1, RW, RX, VOp.fresh, bxC, bsC, un, most, callsOf, seval, Int.reducePow, ↓reduceIte, Nat.reduceEqDiff, reduceCtorEq]
          refine fin _ _ ?_ rp5 ex5 ?_ ?_ ?_ ?_
          · simp only [sg_set, Nat.reduceEqDiff, ↓reduceIte]
            exact r5
          · simp only [h0, sg_set, Nat.reduceEqDiff, ↓reduceIte]
          · simp only [h11, sg_set, Nat.reduceEqDiff, ↓reduceIte]
          · simp only [sg_set, Nat.reduceEqDiff, ↓reduceIte]
          · simp only [sg_set, Nat.reduceEqDiff, ↓reduceIte]
end
end Go.Proofs.Ytinonmcnofjeeaa.VM
namespace Go.Proofs.Ytinonmcnofjeeaa.VM
attribute [local irreducible] Af Nx EvO Ev Un Gd Cd EvR EvQ EvC Nc Gc Lp EvM NxM AfM GdM EvMR EvMQ EvMD EvMC Nm Gm
theorem lv_opsL {h : Heap} {B : Nat → Prop} {v : AV} {l : List Op} (r : LR h B v 8 ((l.map cOpL).flatten) l.length) : Lv h B v (cOpsL l) := r.lv
theorem Lv.put {h : Heap} {B : Nat → Prop} {x y : AV} (l : Lv h B x y) {b : Nat} (hb : ¬ B b) (o : Blk) : Lv (h.put b o) B x y := l.frame (by rw [put_next]; exact Nat.le_refl _) fun c hc _ => by rw [Heap.get_put, if_neg (show ¬ c = b from fun e => hb (e ▸ hc))]
theorem Lvs.put {h : Heap} {B : Nat → Prop} {x y : List AV} (l : Lvs h B x y) {b : Nat} (hb : ¬ B b) (o : Blk) : Lvs (h.put b o) B x y := l.frame (by rw [put_next]; exact Nat.le_refl _) fun c hc _ => by rw [Heap.get_put, if_neg (show ¬ c = b from fun e => hb (e ▸ hc))]
section
variable {P : Program}
theorem rd_ops (g : Pg P tab) {rb : Nat} {t : List Nat} {h : Heap} (rp : RP rb t h) {Q : AV → Heap → Prop} (q : ∀ v h', LR h' (h.next ≤ ·) v 8 (((rdOps (rdN 4 t).2).1.map cOpL).flatten) (rdOps (rdN 4 t).2).1.length → RP rb (rdOps (rdN 4 t).2).2 h' → ExtX rb h h' → Q (.tup [.int .i64 ((rdN 4 t).1 - 1), v]) h') : Cl P 60 [.ptr rb 0] h Q := by
  refine g.cl (vf := v60) rfl rfl ?_
  simp only [v60, RX, VOp.fresh, bxC, bsC, un, most, callsOf, seval, Int.reducePow, ↓reduceIte, Nat.reduceEqDiff, reduceCtorEq]
  refine rnum_cl g (N := 4) (by decide) rp fun h2 rp2 x2 => ?_
  have hb4 := rdN_le (n := 4) (by decide) rp.2.1
  have w1 : IntKind.i64.wrap ((rdN 4 t).1 - 1) = (rdN 4 t).1 - 1 := w64 (by omega) (by omega)
  simp only [w1, RX, VOp.fresh, bxC, bsC, un, most, callsOf, seval, Int.reducePow, ↓reduceIte, Nat.reduceEqDiff, reduceCtorEq]
  refine rnum_cl g (N := 1) (by decide) rp2 fun h3 rp3 x3 => ?_
  have hk := rdN1_le rp2.2.1
  have hk0 := (rdN_le (n := 1) (by decide) rp2.2.1).1
  obtain ⟨m, hm⟩ : ∃ m : Nat, (rdN 1 (rdN 4 t).2).1 = (m : Int) := ⟨(rdN 1 (rdN 4 t).2).1.toNat, by omega⟩
  simp only [hm, RX, VOp.fresh, bxC, bsC, un, most, callsOf, seval, Int.reducePow, ↓reduceIte, Nat.reduceEqDiff, reduceCtorEq]
  refine rd_opsl g (H0 := h3) rp3.1 m [] _ _ h3 _ _ (by simp; omega) ?_ rp3 ExtX.refl ?_ ?_ ?_ ?_
  · simp only [sg_set, Nat.reduceEqDiff, ↓reduceIte]
    exact .nil _ _ _
  · simp only [sg_set, Nat.reduceEqDiff, ↓reduceIte]
  · simp only [sg_set, Nat.reduceEqDiff, ↓reduceIte]
    simp
  · simp only [sg_set, Nat.reduceEqDiff, ↓reduceIte]
    rfl
  intro s' h4 r4 rp4 x4 a4
  simp only [sg_set, Nat.reduceEqDiff, ↓reduceIte] at a4
  have e2 := x2.next
  have e3 := x3.next
  have er : rdOps (rdN 4 t).2 = rep rdOp m (rdN 1 (rdN 4 t).2).2 := by rw [rdOps, hm, Int.toNat_natCast]
  simp only [a4, RX, VOp.fresh, bxC, bsC, un, most, callsOf, seval, Int.reducePow, ↓reduceIte, Nat.reduceEqDiff, reduceCtorEq]
  refine q _ _ ?_ (by rw [er]; exact rp4) ((x2.x.trans x3.x).trans x4)
  rw [er]
  rw [List.nil_append, show ([] : List Op).length + m = (rep rdOp m (rdN 1 (rdN 4 t).2).2).1.length by rw [rep_len]; simp] at r4
  exact r4.weak fun b hb _ => by omega
end
end Go.Proofs.Ytinonmcnofjeeaa.VM
namespace Go.Proofs.Ytinonmcnofjeeaa.VM
attribute [local irreducible] Af Nx EvO Ev Un Gd Cd EvR EvQ EvC Nc Gc Lp EvM NxM AfM GdM EvMR EvMQ EvMD EvMC Nm Gm
section
variable {P : Program}
theorem rPoint_pu (g : Pg P tab) (p : Pt) : Pu P 114 [.agg [.int .i64 p.x, .int .i64 p.y]] (IsB (ptOk p)) := by
  refine g.pu (vf := v114) rfl rfl ?_
  simp +contextual (maxSteps := 2000000) (disch := omega) only [v114, ptOk, coordOk, and_assoc, RX, VOp.fresh, bxC, bsC, un, most, callsOf, seval, Int.reducePow, ↓reduceIte, Nat.reduceEqDiff, reduceCtorEq]
theorem rTx_pu (g : Pg P tab) (a b : Int) : Pu P 91 [.agg [.int .i64 a, .int .i64 b]] (IsB (txOk a b)) := by
  refine g.pu (vf := v91) rfl rfl ?_
  simp +contextual (maxSteps := 2000000) (disch := omega) only [v91, txOk, RX, VOp.fresh, bxC, bsC, un, most, callsOf, seval, Int.reducePow, ↓reduceIte, Nat.reduceEqDiff, reduceCtorEq]
theorem rBase_pu (g : Pg P tab) (a : Int) : Pu P 93 [.int .i64 a] (fun v => v = .bool (decide (-1 ≤ a ∧ a ≤ 65535))) := by
  refine g.pu (vf := v93) rfl rfl ?_
  simp +contextual (maxSteps := 2000000) (disch := omega) only [v93, RX, VOp.fresh, bxC, bsC, un, most, callsOf, seval, Int.reducePow, ↓reduceIte, Nat.reduceEqDiff, reduceCtorEq]
theorem rZeroMap_pu (g : Pg P tab) {m : Mp} {v u : AV} (hv : IsL 8 RInt v m.starts) (hu : IsL 8 RInt u m.owners) : Pu P 92 [.agg [.int .i64 m.epoch, v, u]] (IsB (mpZero m)) := by
  refine g.pu (vf := v92) rfl rfl ?_
  simp +contextual (maxSteps := 2000000) (disch := omega) only [v92, hv.len, hu.len, mpZero, len0, RX, VOp.fresh, bxC, bsC, un, most, callsOf, seval, Int.reducePow, ↓reduceIte, Nat.reduceEqDiff, reduceCtorEq]
theorem rZeroFeat_pu (g : Pg P tab) {f : Feat} {v : AV} (hv : IsL 24 RRing v f.rings) : Pu P 121 [.agg [.int .i64 f.id, .int .i64 f.shape, v]] (IsB (ftZero f)) := by
  refine g.pu (vf := v121) rfl rfl ?_
  simp +contextual (maxSteps := 2000000) (disch := omega) only [v121, hv.len, ftZero, len0, RX, VOp.fresh, bxC, bsC, un, most, callsOf, seval, Int.reducePow, ↓reduceIte, Nat.reduceEqDiff, reduceCtorEq]
def rrAt (r : List Pt) (i : Nat) : Prop := ptOk (r.getD i ⟨0, 0⟩) ∧ (0 < i → r.getD i ⟨0, 0⟩ ≠ r.getD (i - 1) ⟨0, 0⟩)
theorem rRing_loop (g : Pg P tab) {r : List Pt} {v : AV} {sh : Int} (hv : IsL 16 RPt v r) (hr : r.length ≤ 16) (n : Nat) :
    ∀ (i : Nat) (s : T AV) (hh : Heap) (k : List Fr) (Q : Ex → T AV → Heap → Prop), i + n = r.length → sg s 1 = v → sg s 0 = .int .i64 sh → sg s 5 = .int .i64 i →
      ((∀ j, i ≤ j → j < r.length → rrAt r j) → ∀ s' h', sg s' 1 = v → sg s' 0 = .int .i64 sh → Un P k Q (.exit 0) s' h') → ((¬ ∀ j, i ≤ j → j < r.length → rrAt r j) → ∀ s' h', sg s' 4 = .bool false → Un P k Q .ret s' h') → Lp P b123_0 s hh (Un P k Q) := by
  induction n with
  | zero =>
    intro i s hh k Q hi h1 h0 h5 hK hR
    refine g.lpe b123_0.eq_1 ?_
    have c1 : ¬ ((i : Int) < (r.length : Int)) := by omega
    simp only [h1, h5, hv.len, c1, RX, VOp.fresh, bxC, bsC, un, most, callsOf, seval, Int.reducePow, ↓reduceIte, Nat.reduceEqDiff, reduceCtorEq]
    exact hK (fun j h1 h2 => by omega) _ _ (by simp only [h1, sg_set, Nat.reduceEqDiff, ↓reduceIte]) (by simp only [h0, sg_set, Nat.reduceEqDiff, ↓reduceIte])
  | succ n ih =>
    intro i s hh k Q hi h1 h0 h5 hK hR
    refine g.lpe b123_0.eq_1 ?_
    have c1 : (i : Int) < (r.length : Int) := by omega
    obtain ⟨r1, _, g1⟩ := getPt hv i (by omega)
    have w1 : IntKind.i64.wrap ((i : Int) + 1) = ((i + 1 : Nat) : Int) := by rw [w64 (by omega) (by omega)]; push_cast; rfl
    have w2 : IntKind.i64.wrap ((i : Int) - 1) = (i : Int) - 1 := w64 (by omega) (by omega)
    have no : ¬ rrAt r i → ¬ ∀ j, i ≤ j → j < r.length → rrAt r j := fun h hall => h (hall i (Nat.le_refl _) (by omega))
    have step : rrAt r i → ∀ s' h', sg s' 1 = v → sg s' 0 = .int .i64 sh → sg s' 5 = .int .i64 (i + 1 : Nat) → Lp P b123_0 s' h' (Un P k Q) := fun hok s' h' a1 a0 a5 => by
      have all : (∀ j, i ≤ j → j < r.length → rrAt r j) ↔ ∀ j, i + 1 ≤ j → j < r.length → rrAt r j := ⟨fun h j h1 h2 => h j (by omega) h2, fun h j h1 h2 => by
        rcases Nat.lt_or_ge i j with h3 | h3
        · exact h j h3 h2
        · rw [show j = i by omega]; exact hok⟩
      exact ih (i + 1) _ _ k Q (by omega) a1 a0 a5 (fun h => hK (all.2 h)) (fun h => hR (fun h' => h (all.1 h')))
    simp only [h1, h5, hv.len, c1, g1, RX, VOp.fresh, bxC, bsC, un, most, callsOf, seval, Int.reducePow, ↓reduceIte, Nat.reduceEqDiff, reduceCtorEq]
    refine (rPoint_pu g _).go rfl ?_
    rintro x ⟨b, rfl, hb⟩
    cases b
    · simp only [h1, h5, RX, VOp.fresh, bxC, bsC, un, most, callsOf, seval, Int.reducePow, ↓reduceIte, Nat.reduceEqDiff, reduceCtorEq]
      exact hR (no fun h => by have := hb.2 h.1; cases this) _ _ (by simp only [sg_set, Nat.reduceEqDiff, ↓reduceIte])
    · simp only [h1, h5, RX, VOp.fresh, bxC, bsC, un, most, callsOf, seval, Int.reducePow, ↓reduceIte, Nat.reduceEqDiff, reduceCtorEq]
      by_cases hi0 : i = 0
      · have c2 : ¬ ((0 : Int) < (i : Int)) := by omega
        simp only [c2, h5, w1, RX, VOp.fresh, bxC, bsC, un, most, callsOf, seval, Int.reducePow, ↓reduceIte, Nat.reduceEqDiff, reduceCtorEq]
        refine step ⟨hb.1 rfl, fun h => by omega⟩ _ _ ?_ ?_ ?_
        · simp only [h1, sg_set, Nat.reduceEqDiff, ↓reduceIte]
        · simp only [h0, sg_set, Nat.reduceEqDiff, ↓reduceIte]
        · simp only [sg_set, Nat.reduceEqDiff, ↓reduceIte]
      · have c2 : (0 : Int) < (i : Int) := by omega
        obtain ⟨r2, _, g2⟩ := getPt hv (i - 1) (by omega)
        have ec : ((i - 1 : Nat) : Int) = (i : Int) - 1 := by omega
        rw [ec] at g2
        by_cases he : r.getD i ⟨0, 0⟩ = r.getD (i - 1) ⟨0, 0⟩
        · have he' : (r.getD i ⟨0, 0⟩).x = (r.getD (i - 1) ⟨0, 0⟩).x ∧ (r.getD i ⟨0, 0⟩).y = (r.getD (i - 1) ⟨0, 0⟩).y := by rw [he]; exact ⟨rfl, rfl⟩
          simp only [c2, w2, g2, g1, h1, h5, flat2, he', RX, VOp.fresh, bxC, bsC, un, most, callsOf, seval, Int.reducePow, ↓reduceIte, Nat.reduceEqDiff, reduceCtorEq]
          exact hR (no fun h => h.2 (by omega) he) _ _ (by simp only [sg_set, Nat.reduceEqDiff, ↓reduceIte])
        · have he' : ¬ ((r.getD i ⟨0, 0⟩).x = (r.getD (i - 1) ⟨0, 0⟩).x ∧ (r.getD i ⟨0, 0⟩).y = (r.getD (i - 1) ⟨0, 0⟩).y) := by rw [pt_eq]; exact he
          simp only [c2, w2, g2, g1, h1, h5, flat2, he', w1, RX, VOp.fresh, bxC, bsC, un, most, callsOf, seval, Int.reducePow, ↓reduceIte, Nat.reduceEqDiff, reduceCtorEq]
          refine step ⟨hb.1 rfl, fun h => he⟩ _ _ ?_ ?_ ?_
          · simp only [h1, sg_set, Nat.reduceEqDiff, ↓reduceIte]
          · simp only [h0, sg_set, Nat.reduceEqDiff, ↓reduceIte]
          · simp only [sg_set, Nat.reduceEqDiff, ↓reduceIte]
def rRing (sh : Int) (r : List Pt) : Prop := r.length ≤ 16 ∧ (∀ i, i < r.length → rrAt r i) ∧ ((sh = 0 ∧ r.length = 1) ∨ (sh = 1 ∧ 2 ≤ r.length) ∨ (sh = 2 ∧ 3 ≤ r.length ∧ r.getD 0 ⟨0, 0⟩ ≠ r.getD (r.length - 1) ⟨0, 0⟩))
theorem rRing_pu (g : Pg P tab) {r : List Pt} {v : AV} {sh : Int} (hv : IsL 16 RPt v r) : Pu P 123 [.int .i64 sh, v] (IsB (rRing sh r)) := by
  refine g.pu (vf := v123) rfl rfl ?_
  have hb := hv.bound (by decide)
  by_cases hl : r.length ≤ 16
  · have c1 : ¬ ((16 : Int) < (r.length : Int)) := by omega
    simp only [v123, hv.len, c1, RX, VOp.fresh, bxC, bsC, un, most, callsOf, seval, Int.reducePow, ↓reduceIte, Nat.reduceEqDiff, reduceCtorEq]
    refine rRing_loop g hv (sh := sh) hl r.length 0 _ _ _ _ (by omega) ?_ ?_ ?_ ?_ ?_
    · simp only [sg_set, Nat.reduceEqDiff, ↓reduceIte]
    · simp only [sg_set, Nat.reduceEqDiff, ↓reduceIte]
    · simp only [sg_set, Nat.reduceEqDiff, ↓reduceIte]
      rfl
    · intro hall s' h' a1 a0
      have hall' : ∀ i, i < r.length → rrAt r i := fun i hi => hall i (by omega) hi
      by_cases k0 : sh = 0
      · have d1 : ((r.length : Int) = 1) = (r.length = 1) := by rw [eq_iff_iff]; omega
        simp only [a0, a1, k0, hv.len, d1, RX, VOp.fresh, bxC, bsC, un, most, callsOf, seval, Int.reducePow, ↓reduceIte, Nat.reduceEqDiff, reduceCtorEq]
        exact ⟨fun h => ⟨hl, hall', .inl ⟨rfl, h⟩⟩, fun h => by rcases h.2.2 with h | h | h; exact h.2; exact absurd h.1 (by decide); exact absurd h.1 (by decide)⟩
      · by_cases k1 : sh = 1
        · have d1 : ((2 : Int) ≤ (r.length : Int)) = (2 ≤ r.length) := by rw [eq_iff_iff]; omega
          simp only [a0, a1, k1, hv.len, d1, RX, VOp.fresh, bxC, bsC, un, most, callsOf, seval, Int.reducePow, ↓reduceIte, Nat.reduceEqDiff, reduceCtorEq]
          exact ⟨fun h => ⟨hl, hall', .inr (.inl ⟨rfl, h⟩)⟩, fun h => by rcases h.2.2 with h | h | h; exact absurd h.1 (by decide); exact h.2; exact absurd h.1 (by decide)⟩
        · by_cases k2 : sh = 2
          · by_cases h3 : 3 ≤ r.length
            · have d1 : (3 : Int) ≤ (r.length : Int) := by omega
              obtain ⟨r1, _, g1⟩ := getPt hv 0 (by omega)
              obtain ⟨r2, _, g2⟩ := getPt hv (r.length - 1) (by omega)
              have ec : ((r.length - 1 : Nat) : Int) = (r.length : Int) - 1 := by omega
              rw [ec] at g2
              simp only [Int.natCast_zero, Int.ofNat_zero, Int.ofNat_eq_natCast] at g1
              have w2 : IntKind.i64.wrap ((r.length : Int) - 1) = (r.length : Int) - 1 := w64 (by omega) (by omega)
              simp only [a0, a1, k2, hv.len, d1, g1, g2, w2, flat2, pt_eq, RX, VOp.fresh, bxC, bsC, un, most, callsOf, seval, Int.reducePow, ↓reduceIte, Nat.reduceEqDiff, reduceCtorEq]
              refine ⟨fun h => ⟨hl, hall', .inr (.inr ⟨rfl, h3, by simpa using h⟩)⟩, fun h => ?_⟩
              rcases h.2.2 with h | h | h
              · exact absurd h.1 (by decide)
              · exact absurd h.1 (by decide)
              · simpa using h.2.2
            · have d1 : ¬ (3 : Int) ≤ (r.length : Int) := by omega
              simp only [a0, a1, k2, hv.len, d1, RX, VOp.fresh, bxC, bsC, un, most, callsOf, seval, Int.reducePow, ↓reduceIte, Nat.reduceEqDiff, reduceCtorEq]
              intro h
              rcases h.2.2 with h | h | h
              · exact absurd h.1 (by decide)
              · exact absurd h.1 (by decide)
              · exact h3 h.2.1
          · simp only [a0, a1, k0, k1, k2, RX, VOp.fresh, bxC, bsC, un, most, callsOf, seval, Int.reducePow, ↓reduceIte, Nat.reduceEqDiff, reduceCtorEq]
            intro h
            rcases h.2.2 with h | h | h
            · exact k0 h.1
            · exact k1 h.1
            · exact k2 h.1
    · intro hn s' h' h4
      simp only [h4, RX, VOp.fresh, bxC, bsC, un, most, callsOf, seval, Int.reducePow, ↓reduceIte, Nat.reduceEqDiff, reduceCtorEq]
      exact fun h => hn fun j _ hj => h.2.1 j hj
  · have c1 : (16 : Int) < (r.length : Int) := by omega
    simp only [v123, hv.len, c1, RX, VOp.fresh, bxC, bsC, un, most, callsOf, seval, Int.reducePow, ↓reduceIte, Nat.reduceEqDiff, reduceCtorEq]
    exact fun h => hl h.1
theorem rings_eq {r : List Pt} {c : Bool} (h1 : 1 ≤ r.length) : (∀ i, i < r.length → ringAt c r i) ↔ (∀ i, i < r.length → rrAt r i) ∧ (c = true → r.getD 0 ⟨0, 0⟩ ≠ r.getD (r.length - 1) ⟨0, 0⟩) := by
  constructor
  · intro h
    refine ⟨fun i hi => ⟨(h i hi).1, fun h0 => ?_⟩, fun hc => ?_⟩
    · have := (h (i - 1) (by omega)).2
      have e : nxt r.length (i - 1) = i := by unfold nxt; rw [if_neg (by omega)]; omega
      rw [e] at this
      exact fun e => this (.inl h0) e.symm
    · have := (h (r.length - 1) (by omega)).2 (.inr hc)
      have e : nxt r.length (r.length - 1) = 0 := by unfold nxt; rw [if_pos (by omega)]
      rw [e] at this
      exact fun e => this e.symm
  · rintro ⟨h, k⟩ i hi
    refine ⟨(h i hi).1, fun hc => ?_⟩
    unfold nxt at hc ⊢
    by_cases e : i + 1 = r.length
    · rw [if_pos e] at hc ⊢
      rcases hc with hc | hc
      · omega
      · have := k hc
        rw [show r.length - 1 = i by omega] at this
        exact fun e => this e.symm
    · rw [if_neg e] at hc ⊢
      have := (h (i + 1) (by omega)).2 (by omega)
      rw [Nat.add_sub_cancel] at this
      exact fun e => this e.symm
def rFeat (f : Feat) : Prop := 1 ≤ f.id ∧ f.id ≤ 65535 ∧ 1 ≤ f.rings.length ∧ f.rings.length ≤ 4 ∧ (f.shape = 2 ∨ f.rings.length = 1) ∧ ∀ i, i < f.rings.length → rRing f.shape (f.rings.getD i [])
theorem rFeat_eq (f : Feat) : rFeat f ↔ featOk f := by
  constructor
  · rintro ⟨a1, a2, a3, a4, a5, a6⟩
    refine ⟨a1, a2, a3, a4, ?_⟩
    have h0 := a6 0 (by omega)
    rcases h0.2.2 with ⟨k, h⟩ | ⟨k, h⟩ | ⟨k, h⟩
    · exact .inl ⟨k, by omega, h, (h0.2.1 0 (by omega)).1⟩
    · exact .inr (.inl ⟨k, by omega, by omega, by have := h0.1; omega, (rings_eq (by omega)).2 ⟨h0.2.1, fun e => by cases e⟩⟩)
    · refine .inr (.inr ⟨k, fun i hi => ?_⟩)
      have hi' := a6 i hi
      rcases hi'.2.2 with ⟨k', h⟩ | ⟨k', h⟩ | ⟨k', h, h2⟩
      · omega
      · omega
      · exact ⟨by omega, by have := hi'.1; omega, (rings_eq (by omega)).2 ⟨hi'.2.1, fun _ => h2⟩⟩
  · rintro ⟨a1, a2, a3, a4, h⟩
    rcases h with ⟨k, b2, b3, b4⟩ | ⟨k, b2, b3⟩ | ⟨k, b2⟩
    · refine ⟨a1, a2, a3, a4, .inr b2, fun i hi => ?_⟩
      have : i = 0 := by omega
      subst this
      refine ⟨by omega, fun j hj => ?_, .inl ⟨k, b3⟩⟩
      have : j = 0 := by omega
      subst this
      exact ⟨b4, fun h => by omega⟩
    · refine ⟨a1, a2, a3, a4, .inr b2, fun i hi => ?_⟩
      have : i = 0 := by omega
      subst this
      obtain ⟨c1, c2, c3⟩ := b3
      exact ⟨by omega, ((rings_eq (by omega)).1 c3).1, .inr (.inl ⟨k, by omega⟩)⟩
    · refine ⟨a1, a2, a3, a4, .inl k, fun i hi => ?_⟩
      obtain ⟨c1, c2, c3⟩ := b2 i hi
      have := (rings_eq (by omega)).1 c3
      exact ⟨by omega, this.1, .inr (.inr ⟨k, by omega, this.2 rfl⟩)⟩
theorem rFeat_loop (g : Pg P tab) {f : Feat} {v : AV} (hv : IsL 24 RRing v f.rings) {hh : Heap} {e : TypeId} {ver : Nat} (hg : hh.get 0 = some (.cells [.int .i64 f.id, .int .i64 f.shape, v] e ver)) (n : Nat) :
    ∀ (i : Nat) (s : T AV) (k : List Fr) (Q : Ex → T AV → Heap → Prop), i + n = f.rings.length → sg s 1 = .ptr 0 0 → sg s 3 = .int .i64 i →
      ((∀ j, i ≤ j → j < f.rings.length → rRing f.shape (f.rings.getD j [])) → ∀ s', Un P k Q (.exit 0) s' hh) → ((¬ ∀ j, i ≤ j → j < f.rings.length → rRing f.shape (f.rings.getD j [])) → ∀ s', sg s' 2 = .bool false → Un P k Q .ret s' hh) → Lp P b115_0 s hh (Un P k Q) := by
  have hb := hv.bound (by decide)
  induction n with
  | zero =>
    intro i s k Q hi h1 h3 hK hR
    refine g.lpe b115_0.eq_1 ?_
    have c1 : ¬ ((i : Int) < (f.rings.length : Int)) := by omega
    simp only [h1, h3, hg, hv.len, c1, RX, VOp.fresh, bxC, bsC, un, most, callsOf, seval, Int.reducePow, ↓reduceIte, Nat.reduceEqDiff, reduceCtorEq]
    exact hK (fun j h1 h2 => by omega) _
  | succ n ih =>
    intro i s k Q hi h1 h3 hK hR
    refine g.lpe b115_0.eq_1 ?_
    have c1 : (i : Int) < (f.rings.length : Int) := by omega
    obtain ⟨rv, r1, hrv, _, g1⟩ := getRing hv i (by omega)
    have w1 : IntKind.i64.wrap ((i : Int) + 1) = ((i + 1 : Nat) : Int) := by rw [w64 (by omega) (by omega)]; push_cast; rfl
    simp only [h1, h3, hg, hv.len, c1, g1, RX, VOp.fresh, bxC, bsC, un, most, callsOf, seval, Int.reducePow, ↓reduceIte, Nat.reduceEqDiff, reduceCtorEq]
    refine (rRing_pu g hrv).go (by simp [AV.tolds, AV.told, hrv.told tPt]) ?_
    rintro x ⟨b, rfl, hbb⟩
    cases b
    · simp only [h3, RX, VOp.fresh, bxC, bsC, un, most, callsOf, seval, Int.reducePow, ↓reduceIte, Nat.reduceEqDiff, reduceCtorEq]
      refine hR (fun hall => ?_) _ (by simp only [sg_set, Nat.reduceEqDiff, ↓reduceIte])
      have := hbb.2 (hall i (Nat.le_refl _) (by omega))
      cases this
    · simp only [h3, w1, RX, VOp.fresh, bxC, bsC, un, most, callsOf, seval, Int.reducePow, ↓reduceIte, Nat.reduceEqDiff, reduceCtorEq]
      have hok := hbb.1 rfl
      have all : (∀ j, i ≤ j → j < f.rings.length → rRing f.shape (f.rings.getD j [])) ↔ ∀ j, i + 1 ≤ j → j < f.rings.length → rRing f.shape (f.rings.getD j []) := ⟨fun h j h1 h2 => h j (by omega) h2, fun h j h1 h2 => by
        rcases Nat.lt_or_ge i j with h3 | h3
        · exact h j h3 h2
        · rw [show j = i by omega]; exact hok⟩
      refine ih (i + 1) _ k Q (by omega) ?_ ?_ (fun h => hK (all.2 h)) (fun h => hR (fun h' => h (all.1 h')))
      · simp only [h1, sg_set, Nat.reduceEqDiff, ↓reduceIte]
      · simp only [sg_set, Nat.reduceEqDiff, ↓reduceIte]
theorem rShape_pu (g : Pg P tab) {f : Feat} {v : AV} (hv : IsL 24 RRing v f.rings) : Pu P 115 [.agg [.int .i64 f.id, .int .i64 f.shape, v]] (IsB (featOk f)) := by
  rw [show IsB (featOk f) = IsB (rFeat f) from by rw [show featOk f = rFeat f from propext (rFeat_eq f).symm]]
  refine g.pu (vf := v115) rfl rfl ?_
  have d1 : ((f.rings.length : Int) < 1) = ¬ (1 ≤ f.rings.length) := by rw [eq_iff_iff]; omega
  have d2 : ((4 : Int) < (f.rings.length : Int)) = ¬ (f.rings.length ≤ 4) := by rw [eq_iff_iff]; omega
  have d3 : ((f.rings.length : Int) = 1) = (f.rings.length = 1) := by rw [eq_iff_iff]; omega
  by_cases hc : 1 ≤ f.id ∧ f.id ≤ 65535 ∧ 1 ≤ f.rings.length ∧ f.rings.length ≤ 4 ∧ (f.shape = 2 ∨ f.rings.length = 1)
  · obtain ⟨e1, e2, e3, e4, e5⟩ := hc
    have f1 : ¬ f.id < 1 := by omega
    have f2 : ¬ 65535 < f.id := by omega
    have go : ∀ (s : T AV) (k : List Fr) (Q : Ex → T AV → Heap → Prop), True := fun _ _ _ => trivial
    rcases e5 with e5 | e5
    · simp only [v115, hv.len, d1, d2, d3, f1, f2, e3, e4, e5, RX, VOp.fresh, bxC, bsC, un, most, callsOf, seval, Int.reducePow, ↓reduceIte, Nat.reduceEqDiff, reduceCtorEq]
      refine rFeat_loop g hv (by rw [Heap.get_mk, if_pos rfl, e5]) f.rings.length 0 _ _ _ (by omega) ?_ ?_ ?_ ?_
      · simp only [sg_set, Nat.reduceEqDiff, ↓reduceIte]
      · simp only [sg_set, Nat.reduceEqDiff, ↓reduceIte]
        rfl
      · intro hall s'
        simp only [RX, VOp.fresh, bxC, bsC, un, most, callsOf, seval, Int.reducePow, ↓reduceIte, Nat.reduceEqDiff, reduceCtorEq]
        exact ⟨e1, e2, e3, e4, .inl e5, fun i hi => hall i (by omega) hi⟩
      · intro hn s' h2
        simp only [h2, RX, VOp.fresh, bxC, bsC, un, most, callsOf, seval, Int.reducePow, ↓reduceIte, Nat.reduceEqDiff, reduceCtorEq]
        exact fun h => hn fun j _ hj => h.2.2.2.2.2 j hj
    · by_cases e6 : f.shape = 2
      · simp only [v115, hv.len, d1, d2, d3, f1, f2, e3, e4, e5, e6, RX, VOp.fresh, bxC, bsC, un, most, callsOf, seval, Int.reducePow, ↓reduceIte, Nat.reduceEqDiff, reduceCtorEq]
        refine rFeat_loop g hv (by rw [Heap.get_mk, if_pos rfl, e6]) f.rings.length 0 _ _ _ (by omega) ?_ ?_ ?_ ?_
        · simp only [sg_set, Nat.reduceEqDiff, ↓reduceIte]
        · simp only [sg_set, Nat.reduceEqDiff, ↓reduceIte]
          rfl
        · intro hall s'
          simp only [RX, VOp.fresh, bxC, bsC, un, most, callsOf, seval, Int.reducePow, ↓reduceIte, Nat.reduceEqDiff, reduceCtorEq]
          exact ⟨e1, e2, e3, e4, .inr e5, fun i hi => hall i (by omega) hi⟩
        · intro hn s' h2
          simp only [h2, RX, VOp.fresh, bxC, bsC, un, most, callsOf, seval, Int.reducePow, ↓reduceIte, Nat.reduceEqDiff, reduceCtorEq]
          exact fun h => hn fun j _ hj => h.2.2.2.2.2 j hj
      · simp only [v115, hv.len, d1, d2, d3, f1, f2, e3, e4, e5, e6, RX, VOp.fresh, bxC, bsC, un, most, callsOf, seval, Int.reducePow, ↓reduceIte, Nat.reduceEqDiff, reduceCtorEq]
        refine rFeat_loop g hv (by rw [Heap.get_mk, if_pos rfl]) f.rings.length 0 _ _ _ (by omega) ?_ ?_ ?_ ?_
        · simp only [sg_set, Nat.reduceEqDiff, ↓reduceIte]
        · simp only [sg_set, Nat.reduceEqDiff, ↓reduceIte]
          rfl
        · intro hall s'
          simp only [RX, VOp.fresh, bxC, bsC, un, most, callsOf, seval, Int.reducePow, ↓reduceIte, Nat.reduceEqDiff, reduceCtorEq]
          exact ⟨e1, e2, e3, e4, .inr e5, fun i hi => hall i (by omega) hi⟩
        · intro hn s' h2
          simp only [h2, RX, VOp.fresh, bxC, bsC, un, most, callsOf, seval, Int.reducePow, ↓reduceIte, Nat.reduceEqDiff, reduceCtorEq]
          exact fun h => hn fun j _ hj => h.2.2.2.2.2 j hj
  · have no : ¬ rFeat f := fun h => hc ⟨h.1, h.2.1, h.2.2.1, h.2.2.2.1, h.2.2.2.2.1⟩
    by_cases f1 : f.id < 1
    · simp only [v115, f1, no, RX, VOp.fresh, bxC, bsC, un, most, callsOf, seval, Int.reducePow, ↓reduceIte, Nat.reduceEqDiff, reduceCtorEq]
    · by_cases f2 : 65535 < f.id
      · simp only [v115, f1, f2, no, RX, VOp.fresh, bxC, bsC, un, most, callsOf, seval, Int.reducePow, ↓reduceIte, Nat.reduceEqDiff, reduceCtorEq]
      · by_cases e3 : 1 ≤ f.rings.length
        · by_cases e4 : f.rings.length ≤ 4
          · have e5 : ¬ f.shape = 2 := fun e => hc ⟨by omega, by omega, e3, e4, .inl e⟩
            have e6 : ¬ f.rings.length = 1 := fun e => hc ⟨by omega, by omega, e3, e4, .inr e⟩
            simp only [v115, hv.len, d1, d2, d3, f1, f2, e3, e4, e5, e6, no, RX, VOp.fresh, bxC, bsC, un, most, callsOf, seval, Int.reducePow, ↓reduceIte, Nat.reduceEqDiff, reduceCtorEq]
          · simp only [v115, hv.len, d1, d2, f1, f2, e3, e4, no, RX, VOp.fresh, bxC, bsC, un, most, callsOf, seval, Int.reducePow, ↓reduceIte, Nat.reduceEqDiff, reduceCtorEq]
        · simp only [v115, hv.len, d1, f1, f2, e3, no, RX, VOp.fresh, bxC, bsC, un, most, callsOf, seval, Int.reducePow, ↓reduceIte, Nat.reduceEqDiff, reduceCtorEq]
end
section
variable {P : Program}
theorem rMap_loop (g : Pg P tab) {nodes : Int} {m : Mp} {v u : AV} (hv : IsL 8 RInt v m.starts) (hu : IsL 8 RInt u m.owners) (hl : m.owners.length = m.starts.length) {hh : Heap} {e : TypeId} {ver : Nat} (hg : hh.get 0 = some (.cells [.int .i64 m.epoch, v, u] e ver)) (n : Nat) :
    ∀ (i : Nat) (s : T AV) (k : List Fr) (Q : Ex → T AV → Heap → Prop), i + n = m.starts.length → sg s 2 = .ptr 0 0 → sg s 1 = .int .i64 nodes → sg s 5 = .int .i64 i →
      ((∀ j, i ≤ j → j < m.starts.length → mpAt nodes m j) → ∀ s', Un P k Q (.exit 0) s' hh) → ((¬ ∀ j, i ≤ j → j < m.starts.length → mpAt nodes m j) → ∀ s', sg s' 4 = .bool false → Un P k Q .ret s' hh) → Lp P b90_0 s hh (Un P k Q) := by
  have hb := hv.bound (by decide)
  induction n with
  | zero =>
    intro i s k Q hi h2 h1 h5 hK hR
    refine g.lpe b90_0.eq_1 ?_
    have c1 : ¬ ((i : Int) < (m.starts.length : Int)) := by omega
    simp only [h2, h5, hg, hv.len, c1, RX, VOp.fresh, bxC, bsC, un, most, callsOf, seval, Int.reducePow, ↓reduceIte, Nat.reduceEqDiff, reduceCtorEq]
    exact hK (fun j h1 h2 => by omega) _
  | succ n ih =>
    intro i s k Q hi h2 h1 h5 hK hR
    refine g.lpe b90_0.eq_1 ?_
    have c1 : (i : Int) < (m.starts.length : Int) := by omega
    obtain ⟨r1, _, g1⟩ := getInt hv i (by omega)
    obtain ⟨r2, _, g2⟩ := getInt hu i (by omega)
    have w1 : IntKind.i64.wrap ((i : Int) + 1) = ((i + 1 : Nat) : Int) := by rw [w64 (by omega) (by omega)]; push_cast; rfl
    have w2 : IntKind.i64.wrap ((i : Int) - 1) = (i : Int) - 1 := w64 (by omega) (by omega)
    have no : ¬ mpAt nodes m i → ∀ s', sg s' 4 = .bool false → Un P k Q .ret s' hh := fun h => hR fun hall => h (hall i (Nat.le_refl _) (by omega))
    have step : mpAt nodes m i → ∀ s', sg s' 2 = .ptr 0 0 → sg s' 1 = .int .i64 nodes → sg s' 5 = .int .i64 (i + 1 : Nat) → Lp P b90_0 s' hh (Un P k Q) := fun hok s' a1 a0 a5 => by
      have all : (∀ j, i ≤ j → j < m.starts.length → mpAt nodes m j) ↔ ∀ j, i + 1 ≤ j → j < m.starts.length → mpAt nodes m j := ⟨fun h j h1 h2 => h j (by omega) h2, fun h j h1 h2 => by
        rcases Nat.lt_or_ge i j with h3 | h3
        · exact h j h3 h2
        · rw [show j = i by omega]; exact hok⟩
      exact ih (i + 1) _ k Q (by omega) a1 a0 a5 (fun h => hK (all.2 h)) (fun h => hR (fun h' => h (all.1 h')))
    generalize hsi : m.starts.getD i 0 = a at *
    generalize hoi : m.owners.getD i 0 = o at *
    have mp : mpAt nodes m i ↔ (a < 4294967296 ∧ (i = 0 ∨ m.starts.getD (i - 1) 0 < a) ∧ 0 ≤ o ∧ o < nodes) := by unfold mpAt; rw [hsi, hoi]
    by_cases x1 : 4294967296 ≤ a
    · simp only [h2, h1, h5, hg, hv.len, c1, g1, x1, RX, VOp.fresh, bxC, bsC, un, most, callsOf, seval, Int.reducePow, ↓reduceIte, Nat.reduceEqDiff, reduceCtorEq]
      exact no (fun h => by have := (mp.1 h).1; omega) _ (by simp only [sg_set, Nat.reduceEqDiff, ↓reduceIte])
    by_cases x2 : o < 0
    · simp only [h2, h1, h5, hg, hv.len, c1, g1, g2, x1, x2, RX, VOp.fresh, bxC, bsC, un, most, callsOf, seval, Int.reducePow, ↓reduceIte, Nat.reduceEqDiff, reduceCtorEq]
      exact no (fun h => by have := (mp.1 h).2.2.1; omega) _ (by simp only [sg_set, Nat.reduceEqDiff, ↓reduceIte])
    by_cases x3 : nodes ≤ o
    · simp only [h2, h1, h5, hg, hv.len, c1, g1, g2, x1, x2, x3, RX, VOp.fresh, bxC, bsC, un, most, callsOf, seval, Int.reducePow, ↓reduceIte, Nat.reduceEqDiff, reduceCtorEq]
      exact no (fun h => by have := (mp.1 h).2.2.2; omega) _ (by simp only [sg_set, Nat.reduceEqDiff, ↓reduceIte])
    by_cases hi0 : i = 0
    · have c2 : ¬ ((0 : Int) < (i : Int)) := by omega
      simp only [h2, h1, h5, hg, hv.len, c1, c2, g1, g2, x1, x2, x3, w1, RX, VOp.fresh, bxC, bsC, un, most, callsOf, seval, Int.reducePow, ↓reduceIte, Nat.reduceEqDiff, reduceCtorEq]
      refine step (mp.2 ⟨by omega, .inl hi0, by omega, by omega⟩) _ ?_ ?_ ?_
      · simp only [h2, sg_set, Nat.reduceEqDiff, ↓reduceIte]
      · simp only [h1, sg_set, Nat.reduceEqDiff, ↓reduceIte]
      · simp only [sg_set, Nat.reduceEqDiff, ↓reduceIte]
    · have c2 : (0 : Int) < (i : Int) := by omega
      obtain ⟨r3, _, g3⟩ := getInt hv (i - 1) (by omega)
      have ec : ((i - 1 : Nat) : Int) = (i : Int) - 1 := by omega
      rw [ec] at g3
      by_cases x4 : a ≤ m.starts.getD (i - 1) 0
      · simp only [h2, h1, h5, hg, hv.len, c1, c2, g1, g2, g3, x1, x2, x3, x4, w1, w2, RX, VOp.fresh, bxC, bsC, un, most, callsOf, seval, Int.reducePow, ↓reduceIte, Nat.reduceEqDiff, reduceCtorEq]
        exact no (fun h => by have := (mp.1 h).2.1; omega) _ (by simp only [sg_set, Nat.reduceEqDiff, ↓reduceIte])
      · simp only [h2, h1, h5, hg, hv.len, c1, c2, g1, g2, g3, x1, x2, x3, x4, w1, w2, RX, VOp.fresh, bxC, bsC, un, most, callsOf, seval, Int.reducePow, ↓reduceIte, Nat.reduceEqDiff, reduceCtorEq]
        refine step (mp.2 ⟨by omega, .inr (by omega), by omega, by omega⟩) _ ?_ ?_ ?_
        · simp only [h2, sg_set, Nat.reduceEqDiff, ↓reduceIte]
        · simp only [h1, sg_set, Nat.reduceEqDiff, ↓reduceIte]
        · simp only [sg_set, Nat.reduceEqDiff, ↓reduceIte]
theorem rMap_pu (g : Pg P tab) {nodes : Int} {m : Mp} {v u : AV} (hv : IsL 8 RInt v m.starts) (hu : IsL 8 RInt u m.owners) : Pu P 90 [.agg [.int .i64 m.epoch, v, u], .int .i64 nodes] (IsB (mpOk nodes m)) := by
  refine g.pu (vf := v90) rfl rfl ?_
  by_cases x1 : nodes < 1
  · have no : ¬ mpOk nodes m := fun h => by have := h.1; omega
    simp only [v90, x1, no, RX, VOp.fresh, bxC, bsC, un, most, callsOf, seval, Int.reducePow, ↓reduceIte, Nat.reduceEqDiff, reduceCtorEq]
  by_cases x2 : 8 < nodes
  · have no : ¬ mpOk nodes m := fun h => by have := h.2.1; omega
    simp only [v90, x1, x2, no, RX, VOp.fresh, bxC, bsC, un, most, callsOf, seval, Int.reducePow, ↓reduceIte, Nat.reduceEqDiff, reduceCtorEq]
  by_cases x3 : m.epoch < 1
  · have no : ¬ mpOk nodes m := fun h => by have := h.2.2.1; omega
    simp only [v90, x1, x2, x3, no, RX, VOp.fresh, bxC, bsC, un, most, callsOf, seval, Int.reducePow, ↓reduceIte, Nat.reduceEqDiff, reduceCtorEq]
  by_cases x4 : 65535 < m.epoch
  · have no : ¬ mpOk nodes m := fun h => by have := h.2.2.2.1; omega
    simp only [v90, x1, x2, x3, x4, no, RX, VOp.fresh, bxC, bsC, un, most, callsOf, seval, Int.reducePow, ↓reduceIte, Nat.reduceEqDiff, reduceCtorEq]
  by_cases x5 : (m.starts.length : Int) < 1
  · have no : ¬ mpOk nodes m := fun h => by have := h.2.2.2.2.1; omega
    simp only [v90, x1, x2, x3, x4, hv.len, x5, no, RX, VOp.fresh, bxC, bsC, un, most, callsOf, seval, Int.reducePow, ↓reduceIte, Nat.reduceEqDiff, reduceCtorEq]
  by_cases x6 : (32 : Int) < (m.starts.length : Int)
  · have no : ¬ mpOk nodes m := fun h => by have := h.2.2.2.2.2.1; omega
    simp only [v90, x1, x2, x3, x4, hv.len, x5, x6, no, RX, VOp.fresh, bxC, bsC, un, most, callsOf, seval, Int.reducePow, ↓reduceIte, Nat.reduceEqDiff, reduceCtorEq]
  by_cases x7 : (m.owners.length : Int) = (m.starts.length : Int)
  · obtain ⟨r1, _, g1⟩ := getInt hv 0 (by omega)
    simp only [Int.natCast_zero, Int.ofNat_zero, Int.ofNat_eq_natCast] at g1
    by_cases x8 : m.starts.getD 0 0 = 0
    · simp only [v90, x1, x2, x3, x4, hv.len, hu.len, x5, x6, x7, g1, x8, RX, VOp.fresh, bxC, bsC, un, most, callsOf, seval, Int.reducePow, ↓reduceIte, Nat.reduceEqDiff, reduceCtorEq]
      refine rMap_loop g hv hu (nodes := nodes) (by omega) (by rw [Heap.get_mk, if_pos rfl]) m.starts.length 0 _ _ _ (by omega) ?_ ?_ ?_ ?_ ?_
      · simp only [sg_set, Nat.reduceEqDiff, ↓reduceIte]
      · simp only [sg_set, Nat.reduceEqDiff, ↓reduceIte]
      · simp only [sg_set, Nat.reduceEqDiff, ↓reduceIte]
        rfl
      · intro hall s'
        simp only [RX, VOp.fresh, bxC, bsC, un, most, callsOf, seval, Int.reducePow, ↓reduceIte, Nat.reduceEqDiff, reduceCtorEq]
        exact ⟨by omega, by omega, by omega, by omega, by omega, by omega, by omega, x8, fun i hi => hall i (by omega) hi⟩
      · intro hn s' h4
        simp only [h4, RX, VOp.fresh, bxC, bsC, un, most, callsOf, seval, Int.reducePow, ↓reduceIte, Nat.reduceEqDiff, reduceCtorEq]
        exact fun h => hn fun j _ hj => h.2.2.2.2.2.2.2.2 j hj
    · have no : ¬ mpOk nodes m := fun h => x8 h.2.2.2.2.2.2.2.1
      simp only [v90, x1, x2, x3, x4, hv.len, hu.len, x5, x6, x7, g1, x8, no, RX, VOp.fresh, bxC, bsC, un, most, callsOf, seval, Int.reducePow, ↓reduceIte, Nat.reduceEqDiff, reduceCtorEq]
  · have no : ¬ mpOk nodes m := fun h => by have := h.2.2.2.2.2.2.1; omega
    simp only [v90, x1, x2, x3, x4, hv.len, hu.len, x5, x6, x7, no, RX, VOp.fresh, bxC, bsC, un, most, callsOf, seval, Int.reducePow, ↓reduceIte, Nat.reduceEqDiff, reduceCtorEq]
def opIdR (o : Op) : Int := if o.kind = 0 then o.f.id else if o.kind = 1 then o.id else 0
theorem rId_pu (g : Pg P tab) {o : Op} {c : List AV} (hc : ROp o c) : Pu P 110 [.agg c] (fun x => x = .int .i64 (opIdR o)) := by
  obtain ⟨v, a, u, rfl, _⟩ := hc
  refine g.pu (vf := v110) rfl rfl ?_
  by_cases k0 : o.kind = 0
  · simp only [v110, k0, opIdR, RX, VOp.fresh, bxC, bsC, un, most, callsOf, seval, Int.reducePow, ↓reduceIte, Nat.reduceEqDiff, reduceCtorEq]
  · by_cases k1 : o.kind = 1
    · simp only [v110, k1, opIdR, RX, VOp.fresh, bxC, bsC, un, most, callsOf, seval, Int.reducePow, ↓reduceIte, Nat.reduceEqDiff, reduceCtorEq]
    · simp only [v110, k0, k1, opIdR, RX, VOp.fresh, bxC, bsC, un, most, callsOf, seval, Int.reducePow, ↓reduceIte, Nat.reduceEqDiff, reduceCtorEq]
theorem rOp_pu (g : Pg P tab) {o : Op} {c : List AV} (hc : ROp o c) : Pu P 109 [.agg c] (IsB (opOk 8 o)) := by
  obtain ⟨v, a, u, rfl, _, _, _, hv, _, _, ha, hu⟩ := hc
  refine g.pu (vf := v109) rfl rfl ?_
  have t1 : AV.tolds [.agg [.int .i64 o.f.id, .int .i64 o.f.shape, v]] = true := by simp [AV.tolds, AV.told, hv.told tRing]
  have t2 : AV.tolds [.agg [.int .i64 o.m.epoch, a, u]] = true := by simp [AV.tolds, AV.told, ha.told tInt, hu.told tInt]
  have t3 : AV.tolds [.agg [.int .i64 o.m.epoch, a, u], .int .i64 8] = true := by simp [AV.tolds, AV.told, ha.told tInt, hu.told tInt]
  by_cases k0 : o.kind = 0
  · simp only [v109, k0, RX, VOp.fresh, bxC, bsC, un, most, callsOf, seval, Int.reducePow, ↓reduceIte, Nat.reduceEqDiff, reduceCtorEq]
    refine (rShape_pu g hv).go t1 ?_
    rintro x ⟨b, rfl, hb⟩
    cases b
    · simp only [RX, VOp.fresh, bxC, bsC, un, most, callsOf, seval, Int.reducePow, ↓reduceIte, Nat.reduceEqDiff, reduceCtorEq]
      rintro (⟨_, h, _⟩ | ⟨k, _⟩ | ⟨k, _⟩)
      · have := hb.2 h; cases this
      · omega
      · omega
    · by_cases x1 : o.id = 0
      · simp only [x1, RX, VOp.fresh, bxC, bsC, un, most, callsOf, seval, Int.reducePow, ↓reduceIte, Nat.reduceEqDiff, reduceCtorEq]
        refine (rZeroMap_pu g ha hu).go t2 ?_
        rintro x ⟨b, rfl, hb2⟩
        simp only [RX, VOp.fresh, bxC, bsC, un, most, callsOf, seval, Int.reducePow, ↓reduceIte, Nat.reduceEqDiff, reduceCtorEq]
        rw [hb2]
        exact ⟨fun h => .inl ⟨k0, hb.1 rfl, x1, h⟩, fun h => by rcases h with ⟨_, _, _, h⟩ | ⟨k, _⟩ | ⟨k, _⟩ <;> first | exact h | omega⟩
      · simp only [x1, RX, VOp.fresh, bxC, bsC, un, most, callsOf, seval, Int.reducePow, ↓reduceIte, Nat.reduceEqDiff, reduceCtorEq]
        rintro (⟨_, _, h, _⟩ | ⟨k, _⟩ | ⟨k, _⟩)
        · exact x1 h
        · omega
        · omega
  · by_cases k1 : o.kind = 1
    · have only : opOk 8 o → 1 ≤ o.id ∧ o.id ≤ 65535 ∧ ftZero o.f ∧ mpZero o.m := fun h => by rcases h with ⟨k, _⟩ | ⟨_, h⟩ | ⟨k, _⟩ <;> first | exact h | omega
      by_cases x1 : 1 ≤ o.id
      · by_cases x2 : o.id ≤ 65535
        · simp only [v109, k1, x1, x2, RX, VOp.fresh, bxC, bsC, un, most, callsOf, seval, Int.reducePow, ↓reduceIte, Nat.reduceEqDiff, reduceCtorEq]
          refine (rZeroFeat_pu g hv).go t1 ?_
          rintro x ⟨b, rfl, hb⟩
          cases b
          · simp only [RX, VOp.fresh, bxC, bsC, un, most, callsOf, seval, Int.reducePow, ↓reduceIte, Nat.reduceEqDiff, reduceCtorEq]
            intro h
            have := hb.2 (only h).2.2.1
            cases this
          · simp only [RX, VOp.fresh, bxC, bsC, un, most, callsOf, seval, Int.reducePow, ↓reduceIte, Nat.reduceEqDiff, reduceCtorEq]
            refine (rZeroMap_pu g ha hu).go t2 ?_
            rintro x ⟨b, rfl, hb2⟩
            simp only [RX, VOp.fresh, bxC, bsC, un, most, callsOf, seval, Int.reducePow, ↓reduceIte, Nat.reduceEqDiff, reduceCtorEq]
            rw [hb2]
            exact ⟨fun h => .inr (.inl ⟨k1, x1, x2, hb.1 rfl, h⟩), fun h => (only h).2.2.2⟩
        · simp only [v109, k1, x1, x2, RX, VOp.fresh, bxC, bsC, un, most, callsOf, seval, Int.reducePow, ↓reduceIte, Nat.reduceEqDiff, reduceCtorEq]
          exact fun h => x2 (only h).2.1
      · simp only [v109, k1, x1, RX, VOp.fresh, bxC, bsC, un, most, callsOf, seval, Int.reducePow, ↓reduceIte, Nat.reduceEqDiff, reduceCtorEq]
        exact fun h => x1 (only h).1
    · by_cases k2 : o.kind = 2
      · have only : opOk 8 o → mpOk 8 o.m ∧ o.id = 0 ∧ ftZero o.f := fun h => by rcases h with ⟨k, _⟩ | ⟨k, _⟩ | ⟨_, h⟩ <;> first | exact h | omega
        simp only [v109, k2, RX, VOp.fresh, bxC, bsC, un, most, callsOf, seval, Int.reducePow, ↓reduceIte, Nat.reduceEqDiff, reduceCtorEq]
        refine (rMap_pu g (nodes := 8) ha hu).go t3 ?_
        rintro x ⟨b, rfl, hb⟩
        cases b
        · simp only [RX, VOp.fresh, bxC, bsC, un, most, callsOf, seval, Int.reducePow, ↓reduceIte, Nat.reduceEqDiff, reduceCtorEq]
          intro h
          have := hb.2 (only h).1
          cases this
        · simp only [RX, VOp.fresh, bxC, bsC, un, most, callsOf, seval, Int.reducePow, ↓reduceIte, Nat.reduceEqDiff, reduceCtorEq]
          refine (rZeroFeat_pu g hv).go t1 ?_
          rintro x ⟨b, rfl, hb2⟩
          cases b
          · simp only [RX, VOp.fresh, bxC, bsC, un, most, callsOf, seval, Int.reducePow, ↓reduceIte, Nat.reduceEqDiff, reduceCtorEq]
            intro h
            have := hb2.2 (only h).2.2
            cases this
          · by_cases x1 : o.id = 0
            · simp only [x1, RX, VOp.fresh, bxC, bsC, un, most, callsOf, seval, Int.reducePow, ↓reduceIte, Nat.reduceEqDiff, reduceCtorEq]
              exact .inr (.inr ⟨k2, hb.1 rfl, x1, hb2.1 rfl⟩)
            · simp only [x1, RX, VOp.fresh, bxC, bsC, un, most, callsOf, seval, Int.reducePow, ↓reduceIte, Nat.reduceEqDiff, reduceCtorEq]
              exact fun h => x1 (only h).2.1
      · simp only [v109, k0, k1, k2, RX, VOp.fresh, bxC, bsC, un, most, callsOf, seval, Int.reducePow, ↓reduceIte, Nat.reduceEqDiff, reduceCtorEq]
        rintro (⟨k, _⟩ | ⟨k, _⟩ | ⟨k, _⟩)
        · exact k0 k
        · exact k1 k
        · exact k2 k
end
def idAns : List AV → AV
  | [.agg (.int _ k :: .int _ f :: _ :: _ :: .int _ i :: _)] => .int .i64 (if k = 0 then f else if k = 1 then i else 0)
  | _ => .undef
def cId (_ : Nat) (args : List AV) (h : Heap) : AV × Heap := (idAns args, h)
section
variable {P : Program}
theorem rOps_in (g : Pg P tab) {l : List Op} {v : AV} (hv : IsL 112 ROp v l) {i : Nat} (hi : i < l.length) (n : Nat) :
    ∀ (j : Nat) (s : T AV) (hh : Heap) (k : List Fr) (Q : Ex → T AV → Heap → Prop), j + n = i → sg s 0 = v → sg s 3 = .int .i64 i → sg s 4 = .int .i64 j →
      ((∀ x, j ≤ x → x < i → ¬ (0 < opIdR (l.getD i op0) ∧ opIdR (l.getD x op0) = opIdR (l.getD i op0))) → ∀ s', sg s' 0 = v → sg s' 3 = .int .i64 i → Un P k Q (.exit 2) s' hh) → ((¬ ∀ x, j ≤ x → x < i → ¬ (0 < opIdR (l.getD i op0) ∧ opIdR (l.getD x op0) = opIdR (l.getD i op0))) → ∀ s', sg s' 2 = .bool false → Un P k Q .ret s' hh) → Lp P b94_0 s hh (Un P k Q) := by
  have hb := hv.bound (by decide)
  induction n with
  | zero =>
    intro j s hh k Q hj h0 h3 h4 hK hR
    refine g.lpe b94_0.eq_1 ?_
    have c1 : ¬ ((j : Int) < (i : Int)) := by omega
    simp only [h3, h4, c1, RX, VOp.fresh, bxC, bsC, un, most, callsOf, seval, Int.reducePow, ↓reduceIte, Nat.reduceEqDiff, reduceCtorEq]
    exact hK (fun x h1 h2 => by omega) _ (by simp only [h0, sg_set, Nat.reduceEqDiff, ↓reduceIte]) (by simp only [h3, sg_set, Nat.reduceEqDiff, ↓reduceIte])
  | succ n ih =>
    intro j s hh k Q hj h0 h3 h4 hK hR
    refine g.lpe b94_0.eq_1 ?_
    have c1 : (j : Int) < (i : Int) := by omega
    have w1 : IntKind.i64.wrap ((j : Int) + 1) = ((j + 1 : Nat) : Int) := by rw [w64 (by omega) (by omega)]; push_cast; rfl
    obtain ⟨ci, ri, hci, _, _, gi⟩ := getOp hv i hi
    obtain ⟨cj, rj, hcj, _, _, gj⟩ := getOp hv j (by omega)
    have oi : ∀ h, OK P 110 [.agg ci] h (.int .i64 (opIdR (l.getD i op0))) h := fun h => (rId_pu g hci).exact (by simp [AV.tolds, AV.told, tOp _ _ hci])
    have oj : ∀ h, OK P 110 [.agg cj] h (.int .i64 (opIdR (l.getD j op0))) h := fun h => (rId_pu g hcj).exact (by simp [AV.tolds, AV.told, tOp _ _ hcj])
    obtain ⟨v1, a1, u1, rfl, _⟩ := hci
    obtain ⟨v2, a2, u2, rfl, _⟩ := hcj
    have ei : idAns [.agg [.int .i64 (l.getD i op0).kind, .int .i64 (l.getD i op0).f.id, .int .i64 (l.getD i op0).f.shape, v1, .int .i64 (l.getD i op0).id, .int .i64 (l.getD i op0).m.epoch, a1, u1]] = .int .i64 (opIdR (l.getD i op0)) := rfl
    have ej : idAns [.agg [.int .i64 (l.getD j op0).kind, .int .i64 (l.getD j op0).f.id, .int .i64 (l.getD j op0).f.shape, v2, .int .i64 (l.getD j op0).id, .int .i64 (l.getD j op0).m.epoch, a2, u2]] = .int .i64 (opIdR (l.getD j op0)) := rfl
    generalize opIdR (l.getD i op0) = x at *
    generalize hy : opIdR (l.getD j op0) = y at *
    have step : ¬ (0 < x ∧ y = x) → ∀ s', sg s' 0 = v → sg s' 3 = .int .i64 i → sg s' 4 = .int .i64 (j + 1 : Nat) → Lp P b94_0 s' hh (Un P k Q) := fun hok s' q0 q3 q4 => by
      have all : (∀ z, j ≤ z → z < i → ¬ (0 < x ∧ opIdR (l.getD z op0) = x)) ↔ ∀ z, j + 1 ≤ z → z < i → ¬ (0 < x ∧ opIdR (l.getD z op0) = x) := ⟨fun h z h1 h2 => h z (by omega) h2, fun h z h1 h2 => by
        rcases Nat.lt_or_ge j z with h3 | h3
        · exact h z h3 h2
        · rw [show z = j by omega, hy]; exact hok⟩
      exact ih (j + 1) _ _ k Q (by omega) q0 q3 q4 (fun h => hK (all.2 h)) (fun h => hR (fun h' => h (all.1 h')))
    simp only [h0, h3, h4, c1, RX, VOp.fresh, bxC, bsC, un, most, callsOf, seval, Int.reducePow, ↓reduceIte, Nat.reduceEqDiff, reduceCtorEq]
    refine EvD.same cId rfl ?_
    by_cases x1 : 0 < x
    · by_cases x2 : y = x
      · have oj' := oj
        rw [x2] at oj'
        simp only [h0, h3, h4, gi, gj, cId, ei, ej, oi, oj', x1, x2, RX, VOp.fresh, bxC, bsC, un, most, callsOf, seval, Int.reducePow, ↓reduceIte, Nat.reduceEqDiff, reduceCtorEq]
        refine hR (fun h => ?_) _ (by simp only [sg_set, Nat.reduceEqDiff, ↓reduceIte])
        have := h j (Nat.le_refl _) (by omega)
        rw [hy] at this
        exact this ⟨x1, x2⟩
      · simp only [h0, h3, h4, gi, gj, cId, ei, ej, oi, oj, x1, x2, w1, RX, VOp.fresh, bxC, bsC, un, most, callsOf, seval, Int.reducePow, ↓reduceIte, Nat.reduceEqDiff, reduceCtorEq]
        refine step (fun h => x2 h.2) _ ?_ ?_ ?_
        · simp only [h0, sg_set, Nat.reduceEqDiff, ↓reduceIte]
        · simp only [h3, sg_set, Nat.reduceEqDiff, ↓reduceIte]
        · simp only [sg_set, Nat.reduceEqDiff, ↓reduceIte]
    · simp only [h0, h3, h4, gi, gj, cId, ei, ej, oi, oj, x1, w1, RX, VOp.fresh, bxC, bsC, un, most, callsOf, seval, Int.reducePow, ↓reduceIte, Nat.reduceEqDiff, reduceCtorEq]
      refine step (fun h => x1 h.1) _ ?_ ?_ ?_
      · simp only [h0, sg_set, Nat.reduceEqDiff, ↓reduceIte]
      · simp only [h3, sg_set, Nat.reduceEqDiff, ↓reduceIte]
      · simp only [sg_set, Nat.reduceEqDiff, ↓reduceIte]
def rOpsAt (l : List Op) (i : Nat) : Prop := opOk 8 (l.getD i op0) ∧ ((l.getD i op0).kind = 2 → i = 0) ∧ ∀ x, x < i → ¬ (0 < opIdR (l.getD i op0) ∧ opIdR (l.getD x op0) = opIdR (l.getD i op0))
theorem rOps_loop (g : Pg P tab) {l : List Op} {v : AV} (hv : IsL 112 ROp v l) (n : Nat) :
    ∀ (i : Nat) (s : T AV) (hh : Heap) (k : List Fr) (Q : Ex → T AV → Heap → Prop), i + n = l.length → sg s 0 = v → sg s 3 = .int .i64 i →
      ((∀ x, i ≤ x → x < l.length → rOpsAt l x) → ∀ s', Un P k Q (.exit 0) s' hh) → ((¬ ∀ x, i ≤ x → x < l.length → rOpsAt l x) → ∀ s', sg s' 2 = .bool false → Un P k Q .ret s' hh) → Lp P b94_1 s hh (Un P k Q) := by
  have hb := hv.bound (by decide)
  induction n with
  | zero =>
    intro i s hh k Q hi h0 h3 hK hR
    refine g.lpe b94_1.eq_1 ?_
    have c1 : ¬ ((i : Int) < (l.length : Int)) := by omega
    simp only [h0, h3, hv.len, c1, RX, VOp.fresh, bxC, bsC, un, most, callsOf, seval, Int.reducePow, ↓reduceIte, Nat.reduceEqDiff, reduceCtorEq]
    exact hK (fun x h1 h2 => by omega) _
  | succ n ih =>
    intro i s hh k Q hi h0 h3 hK hR
    refine g.lpe b94_1.eq_1 ?_
    have c1 : (i : Int) < (l.length : Int) := by omega
    have w1 : IntKind.i64.wrap ((i : Int) + 1) = ((i + 1 : Nat) : Int) := by rw [w64 (by omega) (by omega)]; push_cast; rfl
    obtain ⟨ci, ri, hci, _, _, gi⟩ := getOp hv i (by omega)
    have pi := rOp_pu g hci
    have ti : AV.tolds [.agg ci] = true := by simp [AV.tolds, AV.told, tOp _ _ hci]
    obtain ⟨v1, a1, u1, rfl, _⟩ := hci
    have no : ¬ rOpsAt l i → ∀ s', sg s' 2 = .bool false → Un P k Q .ret s' hh := fun h => hR fun hall => h (hall i (Nat.le_refl _) (by omega))
    simp only [h0, h3, hv.len, c1, gi, RX, VOp.fresh, bxC, bsC, un, most, callsOf, seval, Int.reducePow, ↓reduceIte, Nat.reduceEqDiff, reduceCtorEq]
    refine pi.go ti ?_
    rintro x ⟨b, rfl, hbb⟩
    have inner : opOk 8 (l.getD i op0) → ((l.getD i op0).kind = 2 → i = 0) → ∀ s', sg s' 0 = v → sg s' 3 = .int .i64 i → sg s' 4 = .int .i64 0 → Lp P b94_0 s' hh (Un P (.blk 2 :: .blk 1 :: .seq (.ops [⟨some 17, none, .mov (.t 3)⟩, ⟨some 18, none, .bin .add (.t 17) (.c (.int .i64 1))⟩, ⟨some 3, none, .mov (.t 18)⟩]) :: .lp b94_1 :: k) Q) := by
      intro q1 q2 s' a0 a3 a4
      refine rOps_in g hv (i := i) (by omega) i 0 _ _ _ _ (by omega) a0 a3 a4 ?_ ?_
      · intro hall s'' b0 b3
        simp only [b0, b3, w1, RX, VOp.fresh, bxC, bsC, un, most, callsOf, seval, Int.reducePow, ↓reduceIte, Nat.reduceEqDiff, reduceCtorEq]
        have hok : rOpsAt l i := ⟨q1, q2, fun x hx => hall x (by omega) hx⟩
        have all : (∀ x, i ≤ x → x < l.length → rOpsAt l x) ↔ ∀ x, i + 1 ≤ x → x < l.length → rOpsAt l x := ⟨fun h x h1 h2 => h x (by omega) h2, fun h x h1 h2 => by
          rcases Nat.lt_or_ge i x with h3 | h3
          · exact h x h3 h2
          · rw [show x = i by omega]; exact hok⟩
        refine ih (i + 1) _ _ k Q (by omega) ?_ ?_ (fun h => hK (all.2 h)) (fun h => hR (fun h' => h (all.1 h')))
        · simp only [b0, sg_set, Nat.reduceEqDiff, ↓reduceIte]
        · simp only [sg_set, Nat.reduceEqDiff, ↓reduceIte]
      · intro hn s'' h2
        simp only [RX, VOp.fresh, bxC, bsC, un, most, callsOf, seval, Int.reducePow, ↓reduceIte, Nat.reduceEqDiff, reduceCtorEq]
        exact no (fun h => hn fun x _ hx => h.2.2 x hx) _ h2
    cases b
    · simp only [RX, VOp.fresh, bxC, bsC, un, most, callsOf, seval, Int.reducePow, ↓reduceIte, Nat.reduceEqDiff, reduceCtorEq]
      exact no (fun h => by have := hbb.2 h.1; cases this) _ (by simp only [sg_set, Nat.reduceEqDiff, ↓reduceIte])
    · by_cases k2 : (l.getD i op0).kind = 2
      · by_cases hi0 : i = 0
        · have c2 : ¬ ((0 : Int) < (i : Int)) := by omega
          simp only [h0, h3, gi, k2, c2, RX, VOp.fresh, bxC, bsC, un, most, callsOf, seval, Int.reducePow, ↓reduceIte, Nat.reduceEqDiff, reduceCtorEq]
          refine inner (hbb.1 rfl) (fun _ => hi0) _ ?_ ?_ ?_
          · simp only [h0, sg_set, Nat.reduceEqDiff, ↓reduceIte]
          · simp only [h3, sg_set, Nat.reduceEqDiff, ↓reduceIte]
          · simp only [sg_set, Nat.reduceEqDiff, ↓reduceIte]
        · have c2 : (0 : Int) < (i : Int) := by omega
          simp only [h0, h3, gi, k2, c2, RX, VOp.fresh, bxC, bsC, un, most, callsOf, seval, Int.reducePow, ↓reduceIte, Nat.reduceEqDiff, reduceCtorEq]
          exact no (fun h => hi0 (h.2.1 k2)) _ (by simp only [sg_set, Nat.reduceEqDiff, ↓reduceIte])
      · simp only [h0, h3, gi, k2, RX, VOp.fresh, bxC, bsC, un, most, callsOf, seval, Int.reducePow, ↓reduceIte, Nat.reduceEqDiff, reduceCtorEq]
        refine inner (hbb.1 rfl) (fun h => absurd h k2) _ ?_ ?_ ?_
        · simp only [h0, sg_set, Nat.reduceEqDiff, ↓reduceIte]
        · simp only [h3, sg_set, Nat.reduceEqDiff, ↓reduceIte]
        · simp only [sg_set, Nat.reduceEqDiff, ↓reduceIte]
theorem opIdR_eq {o : Op} (h : opOk 8 o) : opIdR o = opId o := by
  unfold opIdR opId
  rcases h with ⟨k, _⟩ | ⟨k, _⟩ | ⟨k, _, h, _⟩
  · rw [if_pos k, if_pos k]
  · rw [if_neg (by omega), if_pos k, if_neg (by omega)]
  · rw [if_neg (by omega), if_neg (by omega), if_neg (by omega), h]
theorem rOps_eq (l : List Op) : (1 ≤ l.length ∧ l.length ≤ 32 ∧ ∀ i, i < l.length → rOpsAt l i) ↔ opsOk 8 l := by
  constructor
  · rintro ⟨h1, h2, h3⟩
    refine ⟨h1, h2, fun i hi => ?_⟩
    obtain ⟨a, b, c⟩ := h3 i hi
    refine ⟨a, b, fun h0 j hj => ?_⟩
    have := c j hj
    rw [opIdR_eq a, opIdR_eq (h3 j (by omega)).1] at this
    exact fun e => this ⟨h0, e⟩
  · rintro ⟨h1, h2, h3⟩
    refine ⟨h1, h2, fun i hi => ?_⟩
    obtain ⟨a, b, c⟩ := h3 i hi
    refine ⟨a, b, fun j hj => ?_⟩
    rw [opIdR_eq a, opIdR_eq (h3 j (by omega)).1]
    exact fun e => c e.1 j hj e.2
theorem rOps_pu (g : Pg P tab) {l : List Op} {v : AV} (hv : IsL 112 ROp v l) : Pu P 94 [v] (IsB (opsOk 8 l)) := by
  refine g.pu (vf := v94) rfl rfl ?_
  by_cases x1 : (l.length : Int) < 1
  · have no : ¬ opsOk 8 l := fun h => by have := h.1; omega
    simp only [v94, hv.len, x1, no, RX, VOp.fresh, bxC, bsC, un, most, callsOf, seval, Int.reducePow, ↓reduceIte, Nat.reduceEqDiff, reduceCtorEq]
  by_cases x2 : (32 : Int) < (l.length : Int)
  · have no : ¬ opsOk 8 l := fun h => by have := h.2.1; omega
    simp only [v94, hv.len, x1, x2, no, RX, VOp.fresh, bxC, bsC, un, most, callsOf, seval, Int.reducePow, ↓reduceIte, Nat.reduceEqDiff, reduceCtorEq]
  simp only [v94, hv.len, x1, x2, RX, VOp.fresh, bxC, bsC, un, most, callsOf, seval, Int.reducePow, ↓reduceIte, Nat.reduceEqDiff, reduceCtorEq]
  refine rOps_loop g hv l.length 0 _ _ _ _ (by omega) ?_ ?_ ?_ ?_
  · simp only [sg_set, Nat.reduceEqDiff, ↓reduceIte]
  · simp only [sg_set, Nat.reduceEqDiff, ↓reduceIte]
    rfl
  · intro hall s'
    simp only [RX, VOp.fresh, bxC, bsC, un, most, callsOf, seval, Int.reducePow, ↓reduceIte, Nat.reduceEqDiff, reduceCtorEq]
    exact (rOps_eq l).1 ⟨by omega, by omega, fun i hi => hall i (by omega) hi⟩
  · intro hn s' h2
    simp only [h2, RX, VOp.fresh, bxC, bsC, un, most, callsOf, seval, Int.reducePow, ↓reduceIte, Nat.reduceEqDiff, reduceCtorEq]
    exact fun h => hn fun i _ hi => ((rOps_eq l).2 h).2.2 i hi
end
theorem opsB_len {l : List Op} (hl : l.length ≤ 32) (hs : ∀ o ∈ l, opSmall o) : (opsB l).length ≤ 300000000 := by
  rw [opsB, List.length_append, numB_len]
  have h1 := flatB_len (F := opB) (B := 9000001) (l := l) (fun o ho => opB_len (hs o ho))
  have h2 : l.length * 9000001 ≤ 32 * 9000001 := Nat.mul_le_mul_right _ hl
  omega
theorem opsOk_small {l : List Op} (h : opsOk 8 l) : ∀ o ∈ l, opSmall o := by
  intro o ho
  obtain ⟨i, hi, rfl⟩ := List.mem_iff_getElem.1 ho
  rw [← getD_op hi]
  exact opOk_small (h.2.2 i hi).1
theorem txB_len (a b : Int) : (txB a b).length = 3 := by simp [txB, numB_len]
theorem bitB_len (b : Bool) : (bitB b).length = 1 := by simp [bitB, numB_len]
end Go.Proofs.Ytinonmcnofjeeaa.VM
