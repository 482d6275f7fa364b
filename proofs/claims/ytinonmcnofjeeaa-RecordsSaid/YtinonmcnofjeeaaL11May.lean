/- What may be: names, maps, features, operations, records, by the program's own functions. -/
import Derived.Test.YtinonmcnofjeeaaL11Lit
namespace Go.Proofs.Ytinonmcnofjeeaa.VM
set_option linter.unusedSimpArgs false
set_option linter.unusedVariables false
set_option linter.defProp false
set_option maxHeartbeats 1000000
attribute [local irreducible] Af Nx EvO Ev Un Gd Cd EvR EvQ EvC Nc Gc Lp EvM NxM AfM GdM EvMR EvMQ EvMD EvMC Nm Gm

section
variable {P : Program}
theorem nameMay_pu (g : Pg P tab) (a b : Int) : Pu P 84 [.agg [.int .i64 a, .int .i64 b]] (fun v => v = .bool (decide (0 ≤ a ∧ a < 8 ∧ 1 ≤ b ∧ b ≤ 65535))) := by
  refine g.pu (vf := v84) rfl rfl ?_
  simp +contextual (maxSteps := 2000000) (disch := omega) only [v84, R0, R1, R2, R3, R4, R5, R6, R7, R8, R9, VOp.fresh, bxC, bsC, R10, un, most, callsOf, List.contains_nil, List.contains_cons, beq_iff_eq, List.getElem?_cons_zero, List.getElem?_cons_succ, seval, Option.map_none, Int.reducePow, ↓reduceIte, Nat.reduceEqDiff, reduceCtorEq, and_self]
theorem baseMay_pu (g : Pg P tab) (a : Int) : Pu P 86 [.int .i64 a] (fun v => v = .bool (decide (-1 ≤ a ∧ a ≤ 65535))) := by
  refine g.pu (vf := v86) rfl rfl ?_
  simp +contextual (maxSteps := 2000000) (disch := omega) only [v86, R0, R1, R2, R3, R4, R5, R6, R7, R8, R9, VOp.fresh, bxC, bsC, R10, un, most, callsOf, List.contains_nil, List.contains_cons, beq_iff_eq, List.getElem?_cons_zero, List.getElem?_cons_succ, seval, Option.map_none, Int.reducePow, ↓reduceIte, Nat.reduceEqDiff, reduceCtorEq, and_self]
def coordOk (x : Int) : Prop := 0 ≤ x ∧ x ≤ 4294967295
instance (x : Int) : Decidable (coordOk x) := by unfold coordOk; infer_instance
def ptOk (p : Pt) : Prop := coordOk p.x ∧ coordOk p.y
instance (p : Pt) : Decidable (ptOk p) := by unfold ptOk; infer_instance
theorem coord_pu (g : Pg P tab) (a : Int) : Pu P 122 [.int .i64 a] (fun v => v = .bool (decide (coordOk a))) := by
  refine g.pu (vf := v122) rfl rfl ?_
  simp +contextual (maxSteps := 2000000) (disch := omega) only [v122, coordOk, R0, R1, R2, R3, R4, R5, R6, R7, R8, R9, VOp.fresh, bxC, bsC, R10, un, most, callsOf, List.contains_nil, List.contains_cons, beq_iff_eq, List.getElem?_cons_zero, List.getElem?_cons_succ, seval, Option.map_none, Int.reducePow, ↓reduceIte, Nat.reduceEqDiff, reduceCtorEq, and_self]
theorem pointMay_pu (g : Pg P tab) (p : Pt) : Pu P 126 [.agg [.int .i64 p.x, .int .i64 p.y]] (fun v => v = .bool (decide (ptOk p))) := by
  refine g.pu (vf := v126) rfl rfl ?_
  simp +contextual (maxSteps := 2000000) (disch := omega) only [v126, R0, R1, R2, R3, R4, R5, R6, R7, R8, R9, VOp.fresh, bxC, bsC, R10, un, most, callsOf, List.contains_nil, List.contains_cons, beq_iff_eq, List.getElem?_cons_zero, List.getElem?_cons_succ, seval, Option.map_none, Int.reducePow, ↓reduceIte, Nat.reduceEqDiff, reduceCtorEq, and_self]
  refine (coord_pu g _).go rfl ?_
  rintro v rfl
  simp +contextual (maxSteps := 2000000) (disch := omega) only [R0, R1, R2, R3, R4, R5, R6, R7, R8, R9, VOp.fresh, bxC, bsC, R10, un, most, callsOf, List.contains_nil, List.contains_cons, beq_iff_eq, List.getElem?_cons_zero, List.getElem?_cons_succ, seval, Option.map_none, Int.reducePow, ↓reduceIte, Nat.reduceEqDiff, reduceCtorEq, and_self]
  refine ⟨fun h1 => ?_, fun h1 => ?_⟩
  · refine (coord_pu g _).go rfl ?_
    rintro v rfl
    simp +contextual (maxSteps := 2000000) (disch := omega) only [h1, ptOk, R0, R1, R2, R3, R4, R5, R6, R7, R8, R9, VOp.fresh, bxC, bsC, R10, un, most, callsOf, List.contains_nil, List.contains_cons, beq_iff_eq, List.getElem?_cons_zero, List.getElem?_cons_succ, seval, Option.map_none, Int.reducePow, ↓reduceIte, Nat.reduceEqDiff, reduceCtorEq, and_self]
  · simp +contextual (maxSteps := 2000000) (disch := omega) only [h1, ptOk, R0, R1, R2, R3, R4, R5, R6, R7, R8, R9, VOp.fresh, bxC, bsC, R10, un, most, callsOf, List.contains_nil, List.contains_cons, beq_iff_eq, List.getElem?_cons_zero, List.getElem?_cons_succ, seval, Option.map_none, Int.reducePow, ↓reduceIte, Nat.reduceEqDiff, reduceCtorEq, and_self]
def mpZero (m : Mp) : Prop := m.epoch = 0 ∧ m.starts = [] ∧ m.owners = []
theorem len0 {α : Type} {l : List α} : ((l.length : Int) = 0) = (l = []) := by
  rw [eq_iff_iff]; cases l <;> simp <;> omega
theorem noMap_pu (g : Pg P tab) {m : Mp} {v u : AV} (hv : IsL 8 RInt v m.starts) (hu : IsL 8 RInt u m.owners) (r : List AV) : Pu P 88 [.rp (.int .i64 m.epoch :: v :: u :: r)] (IsB (mpZero m)) := by
  refine g.pu (vf := v88) rfl rfl ?_
  simp +contextual (maxSteps := 2000000) (disch := omega) only [v88, hv.len, hu.len, mpZero, len0, R0, R1, R2, R3, R4, R5, R6, R7, R8, R9, VOp.fresh, bxC, bsC, R10, un, most, callsOf, List.contains_nil, List.contains_cons, beq_iff_eq, List.getElem?_cons_zero, List.getElem?_cons_succ, seval, Option.map_none, Int.reducePow, ↓reduceIte, Nat.reduceEqDiff, reduceCtorEq, and_self]
def ftZero (f : Feat) : Prop := f.id = 0 ∧ f.shape = 0 ∧ f.rings = []
theorem noFeature_pu (g : Pg P tab) {f : Feat} {v : AV} (hv : IsL 24 RRing v f.rings) (r : List AV) : Pu P 120 [.rp (.int .i64 f.id :: .int .i64 f.shape :: v :: r)] (IsB (ftZero f)) := by
  refine g.pu (vf := v120) rfl rfl ?_
  simp +contextual (maxSteps := 2000000) (disch := omega) only [v120, hv.len, ftZero, len0, R0, R1, R2, R3, R4, R5, R6, R7, R8, R9, VOp.fresh, bxC, bsC, R10, un, most, callsOf, List.contains_nil, List.contains_cons, beq_iff_eq, List.getElem?_cons_zero, List.getElem?_cons_succ, seval, Option.map_none, Int.reducePow, ↓reduceIte, Nat.reduceEqDiff, reduceCtorEq, and_self]

/-! ### maps -/
def mpAt (nodes : Int) (m : Mp) (i : Nat) : Prop := m.starts.getD i 0 < 4294967296 ∧ (i = 0 ∨ m.starts.getD (i - 1) 0 < m.starts.getD i 0) ∧ 0 ≤ m.owners.getD i 0 ∧ m.owners.getD i 0 < nodes
def mpOk (nodes : Int) (m : Mp) : Prop := 1 ≤ nodes ∧ nodes ≤ 8 ∧ 1 ≤ m.epoch ∧ m.epoch ≤ 65535 ∧ 1 ≤ m.starts.length ∧ m.starts.length ≤ 32 ∧ m.owners.length = m.starts.length ∧ m.starts.getD 0 0 = 0 ∧ ∀ i, i < m.starts.length → mpAt nodes m i
theorem getInt {v : AV} {l : List Int} (h : IsL 8 RInt v l) (i : Nat) (hi : i < l.length) : ∃ r, AV.tolds r = true ∧ ∀ (hh : Heap) (kk : IntKind), iaV hh 1 none v (.int kk (i : Int)) = .val (.rp (.int .i64 (l.getD i 0) :: r)) hh := by
  obtain ⟨ci, r, ⟨e, _⟩, ht, hia⟩ := h.get zInt tInt i hi
  have : l.getD i 0 = l[i] := by simp [List.getD_eq_getElem?_getD, List.getElem?_eq_getElem hi]
  refine ⟨r, ?_, fun hh kk => ?_⟩
  · rw [e] at ht; exact ht
  · rw [hia, e, this]; rfl
theorem i64Int {v : AV} {l : List Int} (h : IsL 8 RInt v l) (i : Nat) (hi : i < l.length) : I64 (l.getD i 0) := by
  obtain ⟨ci, r, ⟨_, e⟩, _⟩ := h.get zInt tInt i hi
  have : l.getD i 0 = l[i] := by simp [List.getD_eq_getElem?_getD, List.getElem?_eq_getElem hi]
  rw [this]; exact e

theorem mapMay_loop (g : Pg P tab) {nodes : Int} {m : Mp} {v u : AV} (hv : IsL 8 RInt v m.starts) (hu : IsL 8 RInt u m.owners) (hl : m.owners.length = m.starts.length) (hh : Heap) {e : TypeId} {ver : Nat} (hg : hh.get 0 = some (.cells [.int .i64 m.epoch, v, u] e ver)) (n : Nat) :
    ∀ (i : Nat) (s : T AV) (k : List Fr) (Q : Ex → T AV → Heap → Prop), i + n = m.starts.length → sg s 1 = .int .i64 nodes → sg s 2 = .ptr 0 0 → sg s 52 = v → sg s 53 = .int .i64 m.starts.length → sg s 54 = .int .i64 i →
      ((∀ j, i ≤ j → j < m.starts.length → mpAt nodes m j) → ∀ s', Un P k Q (.exit 0) s' hh) → ((¬ ∀ j, i ≤ j → j < m.starts.length → mpAt nodes m j) → ∀ s', sg s' 4 = .bool false → Un P k Q .ret s' hh) → Lp P b85_0 s hh (Un P k Q) := by
  have hb := hv.bound (by decide)
  induction n with
  | zero =>
    intro i s k Q hi h1 h2 h52 h53 h54 hK hR
    refine g.lpe b85_0.eq_1 ?_
    have c1 : ¬ ((i : Int) < (m.starts.length : Int)) := by omega
    simp only [h54, h53, c1, R0, R1, R2, R3, R4, R5, R6, R7, R8, R9, VOp.fresh, bxC, bsC, R10, un, most, callsOf, List.contains_nil, List.contains_cons, beq_iff_eq, List.getElem?_cons_zero, List.getElem?_cons_succ, seval, Option.map_none, Int.reducePow, ↓reduceIte, Nat.reduceEqDiff, reduceCtorEq, and_self]
    exact hK (fun j h1 h2 => by omega) _
  | succ n ih =>
    intro i s k Q hi h1 h2 h52 h53 h54 hK hR
    refine g.lpe b85_0.eq_1 ?_
    have c1 : (i : Int) < (m.starts.length : Int) := by omega
    obtain ⟨r1, _, g1⟩ := getInt hv i (by omega)
    obtain ⟨r2, _, g2⟩ := getInt hu i (by omega)
    have w1 : IntKind.i64.wrap ((i : Int) + 1) = ((i + 1 : Nat) : Int) := by rw [w64 (by omega) (by omega)]; push_cast; rfl
    have next : mpAt nodes m i → ∀ s' : T AV, sg s' 1 = .int .i64 nodes → sg s' 2 = .ptr 0 0 → sg s' 52 = v → sg s' 53 = .int .i64 m.starts.length → sg s' 54 = .int .i64 ((i + 1 : Nat) : Int) → Lp P b85_0 s' hh (Un P k Q) := by
      intro hok s' a1 a2 a3 a4 a5
      refine ih (i + 1) s' k Q (by omega) a1 a2 a3 a4 a5 (fun hall => hK fun j h1 h2 => ?_) (fun hn => hR fun hall => hn fun j h1 h2 => hall j (by omega) h2)
      rcases Nat.lt_or_ge i j with h | h
      · exact hall j h h2
      · have : j = i := by omega
        subst this; exact hok
    have stop : ¬ mpAt nodes m i → ∀ s' : T AV, sg s' 4 = .bool false → Un P k Q .ret s' hh := fun hn => hR fun hall => hn (hall i (Nat.le_refl _) (by omega))
    by_cases hi0 : i = 0
    · have c2 : ¬ ((0 : Int) < (i : Int)) := by omega
      simp +contextual (maxSteps := 2000000) only [h1, h2, h52, h53, h54, c1, g1, g2, hg, w1, c2, R0, R1, R2, R3, R4, R5, R6, R7, R8, R9, VOp.fresh, bxC, bsC, R10, un, most, callsOf, List.contains_nil, List.contains_cons, beq_iff_eq, List.getElem?_cons_zero, List.getElem?_cons_succ, seval, Option.map_none, Int.reducePow, ↓reduceIte, Nat.reduceEqDiff, reduceCtorEq, and_self]
      repeat' (first | apply And.intro | intro _)
      all_goals first
        | (refine next ⟨by omega, by omega, by omega, by omega⟩ _ ?_ ?_ ?_ ?_ ?_ <;> simp only [h1, h2, h52, h53, sg_set, Nat.reduceEqDiff, ↓reduceIte]; done)
        | (refine stop (fun hok => ?_) _ (by simp only [sg_set, Nat.reduceEqDiff, ↓reduceIte]); obtain ⟨a1, a2, a3, a4⟩ := hok; omega)
    · have c2 : (0 : Int) < (i : Int) := by omega
      obtain ⟨r3, _, g3⟩ := getInt hv (i - 1) (by omega)
      have w2 : IntKind.i64.wrap ((i : Int) - 1) = ((i - 1 : Nat) : Int) := by rw [w64 (by omega) (by omega)]; omega
      simp +contextual (maxSteps := 2000000) only [h1, h2, h52, h53, h54, c1, g1, g2, g3, hg, w1, w2, c2, R0, R1, R2, R3, R4, R5, R6, R7, R8, R9, VOp.fresh, bxC, bsC, R10, un, most, callsOf, List.contains_nil, List.contains_cons, beq_iff_eq, List.getElem?_cons_zero, List.getElem?_cons_succ, seval, Option.map_none, Int.reducePow, ↓reduceIte, Nat.reduceEqDiff, reduceCtorEq, and_self]
      repeat' (first | apply And.intro | intro _)
      all_goals first
        | (refine next ⟨by omega, by omega, by omega, by omega⟩ _ ?_ ?_ ?_ ?_ ?_ <;> simp only [h1, h2, h52, h53, sg_set, Nat.reduceEqDiff, ↓reduceIte]; done)
        | (refine stop (fun hok => ?_) _ (by simp only [sg_set, Nat.reduceEqDiff, ↓reduceIte]); obtain ⟨a1, a2, a3, a4⟩ := hok; omega)

theorem mapMay_pu (g : Pg P tab) {nodes : Int} {m : Mp} {v u : AV} (hv : IsL 8 RInt v m.starts) (hu : IsL 8 RInt u m.owners) : Pu P 85 [.agg [.int .i64 m.epoch, v, u], .int .i64 nodes] (IsB (mpOk nodes m)) := by
  refine g.pu (vf := v85) rfl rfl ?_
  have hb := hv.bound (by decide)
  by_cases h0 : 0 < m.starts.length
  · obtain ⟨r1, _, g1⟩ := getInt hv 0 h0
    simp only [Int.natCast_zero, Int.ofNat_zero, Int.ofNat_eq_natCast] at g1
    simp +contextual (maxSteps := 2000000) only [v85, hv.len, hu.len, g1, R0, R1, R2, R3, R4, R5, R6, R7, R8, R9, VOp.fresh, bxC, bsC, R10, un, most, callsOf, List.contains_nil, List.contains_cons, beq_iff_eq, List.getElem?_cons_zero, List.getElem?_cons_succ, seval, Option.map_none, Int.reducePow, ↓reduceIte, Nat.reduceEqDiff, reduceCtorEq, and_self]
    repeat' (first | apply And.intro | intro _)
    all_goals first
      | (rename_i hok; unfold mpOk at hok; omega)
      | skip
    refine mapMay_loop (nodes := nodes) g hv hu (by omega) _ (e := 26) (ver := 0) ?_ m.starts.length 0 _ _ _ (by omega) ?_ ?_ ?_ ?_ ?_ ?_ ?_
    · rw [Heap.get_mk, if_pos rfl]
    · simp only [sg_set, Nat.reduceEqDiff, ↓reduceIte]
    · simp only [sg_set, Nat.reduceEqDiff, ↓reduceIte]
    · simp only [sg_set, Nat.reduceEqDiff, ↓reduceIte]
    · simp only [sg_set, Nat.reduceEqDiff, ↓reduceIte]
    · simp only [sg_set, Nat.reduceEqDiff, ↓reduceIte]
      rfl
    · intro hall s'
      simp +contextual (maxSteps := 2000000) only [R0, R1, R2, R3, R4, R5, R6, R7, R8, R9, VOp.fresh, bxC, bsC, R10, un, most, callsOf, List.contains_nil, List.contains_cons, beq_iff_eq, List.getElem?_cons_zero, List.getElem?_cons_succ, seval, Option.map_none, Int.reducePow, ↓reduceIte, Nat.reduceEqDiff, reduceCtorEq, and_self]
      unfold mpOk
      exact ⟨by omega, by omega, by omega, by omega, by omega, by omega, by omega, by omega, fun i hi => hall i (by omega) hi⟩
    · intro hn s' h4
      simp +contextual (maxSteps := 2000000) only [h4, R0, R1, R2, R3, R4, R5, R6, R7, R8, R9, VOp.fresh, bxC, bsC, R10, un, most, callsOf, List.contains_nil, List.contains_cons, beq_iff_eq, List.getElem?_cons_zero, List.getElem?_cons_succ, seval, Option.map_none, Int.reducePow, ↓reduceIte, Nat.reduceEqDiff, reduceCtorEq, and_self]
      intro hok
      exact hn fun j _ hj => hok.2.2.2.2.2.2.2.2 j hj
  · have e0 : m.starts.length = 0 := by omega
    have c1 : ((m.starts.length : Int) < 1) := by omega
    simp +contextual (maxSteps := 2000000) only [v85, hv.len, hu.len, c1, R0, R1, R2, R3, R4, R5, R6, R7, R8, R9, VOp.fresh, bxC, bsC, R10, un, most, callsOf, List.contains_nil, List.contains_cons, beq_iff_eq, List.getElem?_cons_zero, List.getElem?_cons_succ, seval, Option.map_none, Int.reducePow, ↓reduceIte, Nat.reduceEqDiff, reduceCtorEq, and_self]
    repeat' (first | apply And.intro | intro _)
    all_goals (rename_i hok; unfold mpOk at hok; omega)

/-! ### rings -/
def nxt (n i : Nat) : Nat := if i + 1 = n then 0 else i + 1
def ringAt (closed : Bool) (r : List Pt) (i : Nat) : Prop := ptOk (r.getD i ⟨0, 0⟩) ∧ ((0 < nxt r.length i ∨ closed = true) → r.getD i ⟨0, 0⟩ ≠ r.getD (nxt r.length i) ⟨0, 0⟩)
def ringOk (least : Int) (closed : Bool) (r : List Pt) : Prop := least ≤ r.length ∧ r.length ≤ 16 ∧ ∀ i, i < r.length → ringAt closed r i
theorem getPt {v : AV} {l : List Pt} (h : IsL 16 RPt v l) (i : Nat) (hi : i < l.length) : ∃ r, AV.tolds r = true ∧ ∀ (hh : Heap) (kk : IntKind), iaV hh 2 none v (.int kk (i : Int)) = .val (.rp (.int .i64 (l.getD i ⟨0, 0⟩).x :: .int .i64 (l.getD i ⟨0, 0⟩).y :: r)) hh := by
  obtain ⟨ci, r, ⟨e, _⟩, ht, hia⟩ := h.get zPt tPt i hi
  have : l.getD i ⟨0, 0⟩ = l[i] := by simp [List.getD_eq_getElem?_getD, List.getElem?_eq_getElem hi]
  refine ⟨r, ?_, fun hh kk => ?_⟩
  · rw [e] at ht; exact ht
  · rw [hia, e, this]; rfl
theorem flat2 {a b c d : Int} : eqv (.flat [.int, .int]) (.agg [.int .i64 a, .int .i64 b]) (.agg [.int .i64 c, .int .i64 d]) = some (decide (a = c ∧ b = d)) := by
  simp only [eqv, List.length_cons, List.length_nil, and_self, if_true, sameCells, sameK]
  by_cases h : a = c <;> by_cases h' : b = d <;> simp [h, h', sameCells, sameK]
theorem pt_eq {p q : Pt} : (p.x = q.x ∧ p.y = q.y) = (p = q) := by
  rw [eq_iff_iff]; constructor
  · intro h; cases p; cases q; simp_all
  · rintro rfl; exact ⟨rfl, rfl⟩

theorem ring_loop (g : Pg P tab) {least : Int} {closed : Bool} {r : List Pt} {v : AV} (hv : IsL 16 RPt v r) (hr : r.length ≤ 16) (n : Nat) :
    ∀ (i : Nat) (s : T AV) (hh : Heap) (k : List Fr) (Q : Ex → T AV → Heap → Prop), i + n = r.length → sg s 0 = v → sg s 2 = .bool closed → sg s 19 = v → sg s 20 = .int .i64 r.length → sg s 21 = .int .i64 i →
      ((∀ j, i ≤ j → j < r.length → ringAt closed r j) → ∀ s' h', Un P k Q (.exit 0) s' h') → ((¬ ∀ j, i ≤ j → j < r.length → ringAt closed r j) → ∀ s' h', sg s' 6 = .bool false → Un P k Q .ret s' h') → Lp P b127_0 s hh (Un P k Q) := by
  induction n with
  | zero =>
    intro i s hh k Q hi h0 h2 h19 h20 h21 hK hR
    refine g.lpe b127_0.eq_1 ?_
    have c1 : ¬ ((i : Int) < (r.length : Int)) := by omega
    simp only [h21, h20, c1, R0, R1, R2, R3, R4, R5, R6, R7, R8, R9, VOp.fresh, bxC, bsC, R10, un, most, callsOf, List.contains_nil, List.contains_cons, beq_iff_eq, List.getElem?_cons_zero, List.getElem?_cons_succ, seval, Option.map_none, Int.reducePow, ↓reduceIte, Nat.reduceEqDiff, reduceCtorEq, and_self]
    exact hK (fun j h1 h2 => by omega) _ _
  | succ n ih =>
    intro i s hh k Q hi h0 h2 h19 h20 h21 hK hR
    refine g.lpe b127_0.eq_1 ?_
    have c1 : (i : Int) < (r.length : Int) := by omega
    obtain ⟨r1, _, g1⟩ := getPt hv i (by omega)
    have w1 : IntKind.i64.wrap ((i : Int) + 1) = ((i + 1 : Nat) : Int) := by rw [w64 (by omega) (by omega)]; push_cast; rfl
    have next : ringAt closed r i → ∀ (s' : T AV) (h' : Heap), sg s' 0 = v → sg s' 2 = .bool closed → sg s' 19 = v → sg s' 20 = .int .i64 r.length → sg s' 21 = .int .i64 ((i + 1 : Nat) : Int) → Lp P b127_0 s' h' (Un P k Q) := by
      intro hok s' h' a1 a2 a3 a4 a5
      refine ih (i + 1) s' h' k Q (by omega) a1 a2 a3 a4 a5 (fun hall => hK fun j h1 h2 => ?_) (fun hn => hR fun hall => hn fun j h1 h2 => hall j (by omega) h2)
      rcases Nat.lt_or_ge i j with h | h
      · exact hall j h h2
      · have : j = i := by omega
        subst this; exact hok
    have stop : ¬ ringAt closed r i → ∀ (s' : T AV) (h' : Heap), sg s' 6 = .bool false → Un P k Q .ret s' h' := fun hn => hR fun hall => hn (hall i (Nat.le_refl _) (by omega))
    have hpt := pointMay_pu g (r.getD i ⟨0, 0⟩)
    have hn : nxt r.length i = if i + 1 = r.length then 0 else i + 1 := rfl
    by_cases hl : i + 1 = r.length
    · have c2 : ((i + 1 : Nat) : Int) = (r.length : Int) := by omega
      rw [if_pos hl] at hn
      obtain ⟨r2, _, g2⟩ := getPt hv 0 (by omega)
      simp only [Int.natCast_zero, Int.ofNat_zero, Int.ofNat_eq_natCast] at g2
      simp +contextual (maxSteps := 2000000) only [RW, Bool.and_self, h0, h2, h19, h20, h21, c1, g1, hv.len, w1, c2, R0, R1, R2, R3, R4, R5, R6, R7, R8, R9, VOp.fresh, bxC, bsC, R10, un, most, callsOf, List.contains_nil, List.contains_cons, beq_iff_eq, List.getElem?_cons_zero, List.getElem?_cons_succ, seval, Option.map_none, Int.reducePow, ↓reduceIte, Nat.reduceEqDiff, reduceCtorEq, and_self]
      refine hpt.go rfl ?_
      rintro x rfl
      cases closed
      all_goals simp +contextual (maxSteps := 2000000) only [RW, Bool.and_self, h0, h2, h19, h20, h21, g2, w1, flat2, pt_eq, R0, R1, R2, R3, R4, R5, R6, R7, R8, R9, VOp.fresh, bxC, bsC, R10, un, most, callsOf, List.contains_nil, List.contains_cons, beq_iff_eq, List.getElem?_cons_zero, List.getElem?_cons_succ, seval, Option.map_none, Int.reducePow, ↓reduceIte, Nat.reduceEqDiff, reduceCtorEq, and_self]
      all_goals repeat' (first | apply And.intro | intro _)
      all_goals first
        | (refine next ⟨by assumption, ?_⟩ _ _ ?_ ?_ ?_ ?_ ?_ <;> first | (simp only [h0, h2, h19, h20, sg_set, Nat.reduceEqDiff, ↓reduceIte]; done) | (rw [hn]; simp_all; done))
        | (refine stop ?_ _ _ ?_ <;> first | (simp only [sg_set, Nat.reduceEqDiff, ↓reduceIte]; done) | (rintro ⟨a1, a2⟩; rw [hn] at a2; simp_all; done))
        | trace_state
    · have c2 : ¬ ((i + 1 : Nat) : Int) = (r.length : Int) := by omega
      rw [if_neg hl] at hn
      obtain ⟨r2, _, g2⟩ := getPt hv (i + 1) (by omega)
      have c3 : (0 : Int) < ((i + 1 : Nat) : Int) := by omega
      simp +contextual (maxSteps := 2000000) only [RW, Bool.and_self, h0, h2, h19, h20, h21, c1, g1, hv.len, w1, c2, R0, R1, R2, R3, R4, R5, R6, R7, R8, R9, VOp.fresh, bxC, bsC, R10, un, most, callsOf, List.contains_nil, List.contains_cons, beq_iff_eq, List.getElem?_cons_zero, List.getElem?_cons_succ, seval, Option.map_none, Int.reducePow, ↓reduceIte, Nat.reduceEqDiff, reduceCtorEq, and_self]
      refine hpt.go rfl ?_
      rintro x rfl
      cases closed
      all_goals simp +contextual (maxSteps := 2000000) only [RW, Bool.and_self, h0, h2, h19, h20, h21, g2, w1, flat2, pt_eq, c3, R0, R1, R2, R3, R4, R5, R6, R7, R8, R9, VOp.fresh, bxC, bsC, R10, un, most, callsOf, List.contains_nil, List.contains_cons, beq_iff_eq, List.getElem?_cons_zero, List.getElem?_cons_succ, seval, Option.map_none, Int.reducePow, ↓reduceIte, Nat.reduceEqDiff, reduceCtorEq, and_self]
      all_goals repeat' (first | apply And.intro | intro _)
      all_goals first
        | (refine next ⟨by assumption, ?_⟩ _ _ ?_ ?_ ?_ ?_ ?_ <;> first | (simp only [h0, h2, h19, h20, sg_set, Nat.reduceEqDiff, ↓reduceIte]; done) | (rw [hn]; simp_all; done))
        | (refine stop ?_ _ _ ?_ <;> first | (simp only [sg_set, Nat.reduceEqDiff, ↓reduceIte]; done) | (rintro ⟨a1, a2⟩; rw [hn] at a2; simp_all; done))
        | trace_state

theorem ring_pu (g : Pg P tab) {least : Int} {closed : Bool} {r : List Pt} {v : AV} (hv : IsL 16 RPt v r) : Pu P 127 [v, .int .i64 least, .bool closed] (IsB (ringOk least closed r)) := by
  refine g.pu (vf := v127) rfl rfl ?_
  simp +contextual (maxSteps := 2000000) only [v127, hv.len, R0, R1, R2, R3, R4, R5, R6, R7, R8, R9, VOp.fresh, bxC, bsC, R10, un, most, callsOf, List.contains_nil, List.contains_cons, beq_iff_eq, List.getElem?_cons_zero, List.getElem?_cons_succ, seval, Option.map_none, Int.reducePow, ↓reduceIte, Nat.reduceEqDiff, reduceCtorEq, and_self]
  repeat' (first | apply And.intro | intro _)
  all_goals first
    | (rename_i hok; unfold ringOk at hok; omega)
    | skip
  refine ring_loop g hv (least := least) (closed := closed) (by omega) r.length 0 _ _ _ _ (by omega) ?_ ?_ ?_ ?_ ?_ ?_ ?_
  · simp only [sg_set, Nat.reduceEqDiff, ↓reduceIte]
  · simp only [sg_set, Nat.reduceEqDiff, ↓reduceIte]
  · simp only [sg_set, Nat.reduceEqDiff, ↓reduceIte]
  · simp only [sg_set, Nat.reduceEqDiff, ↓reduceIte]
  · simp only [sg_set, Nat.reduceEqDiff, ↓reduceIte]
    rfl
  · intro hall s' h'
    simp +contextual (maxSteps := 2000000) only [R0, R1, R2, R3, R4, R5, R6, R7, R8, R9, VOp.fresh, bxC, bsC, R10, un, most, callsOf, List.contains_nil, List.contains_cons, beq_iff_eq, List.getElem?_cons_zero, List.getElem?_cons_succ, seval, Option.map_none, Int.reducePow, ↓reduceIte, Nat.reduceEqDiff, reduceCtorEq, and_self]
    exact ⟨by omega, by omega, fun i hi => hall i (by omega) hi⟩
  · intro hn s' h' h4
    simp +contextual (maxSteps := 2000000) only [h4, R0, R1, R2, R3, R4, R5, R6, R7, R8, R9, VOp.fresh, bxC, bsC, R10, un, most, callsOf, List.contains_nil, List.contains_cons, beq_iff_eq, List.getElem?_cons_zero, List.getElem?_cons_succ, seval, Option.map_none, Int.reducePow, ↓reduceIte, Nat.reduceEqDiff, reduceCtorEq, and_self]
    intro hok
    exact hn fun j _ hj => hok.2.2 j hj

/-! ### features -/
theorem getRing {v : AV} {l : List (List Pt)} (h : IsL 24 RRing v l) (i : Nat) (hi : i < l.length) : ∃ rv r, IsL 16 RPt rv (l.getD i []) ∧ AV.tolds r = true ∧ ∀ (hh : Heap) (kk : IntKind), iaV hh 1 none v (.int kk (i : Int)) = .val (.rp (rv :: r)) hh := by
  obtain ⟨ci, r, ⟨rv, e, hr⟩, ht, hia⟩ := h.get zRing tRing i hi
  have : l.getD i [] = l[i] := by simp [List.getD_eq_getElem?_getD, List.getElem?_eq_getElem hi]
  refine ⟨rv, r, by rw [this]; exact hr, ?_, fun hh kk => ?_⟩
  · rw [e] at ht
    simp only [AV.tolds, List.cons_append, List.nil_append, Bool.and_eq_true] at ht
    exact ht.2
  · rw [hia, e]; rfl
theorem tolds1 {b : Nat} {α : Type} {R : α → List AV → Prop} {v : AV} {l : List α} (h : IsL b R v l) (ht : ∀ a c, R a c → AV.tolds c = true) : AV.tolds [v] = true := by
  simp [AV.tolds, h.told ht]
theorem mayRing_pu (g : Pg P tab) {r : List Pt} {v : AV} (hv : IsL 16 RPt v r) : Pu P 129 [v] (IsB (¬ ringOk 3 true r)) := by
  refine g.pu (vf := v129) rfl rfl ?_
  simp +contextual (maxSteps := 2000000) only [v129, R0, R1, R2, R3, R4, R5, R6, R7, R8, R9, VOp.fresh, bxC, bsC, R10, un, most, callsOf, List.contains_nil, List.contains_cons, beq_iff_eq, List.getElem?_cons_zero, List.getElem?_cons_succ, seval, Option.map_none, Int.reducePow, ↓reduceIte, Nat.reduceEqDiff, reduceCtorEq, and_self]
  refine (ring_pu g hv).go (by simp [AV.tolds, AV.told, hv.told tPt]) ?_
  rintro x ⟨b, rfl, hb⟩
  cases b <;> simp +contextual (maxSteps := 2000000) only [R0, R1, R2, R3, R4, R5, R6, R7, R8, R9, VOp.fresh, bxC, bsC, R10, un, most, callsOf, List.contains_nil, List.contains_cons, beq_iff_eq, List.getElem?_cons_zero, List.getElem?_cons_succ, seval, Option.map_none, Int.reducePow, ↓reduceIte, Nat.reduceEqDiff, reduceCtorEq, and_self] <;> simpa using hb
theorem indexFunc_loop (g : Pg P tab) {l : List (List Pt)} {v : AV} (hv : IsL 24 RRing v l) (n : Nat) :
    ∀ (i : Nat) (s : T AV) (hh : Heap) (k : List Fr) (Q : Ex → T AV → Heap → Prop), i + n = l.length → sg s 0 = v → sg s 1 = .fn 129 [] → sg s 7 = .int .i64 l.length → sg s 8 = .int .i64 i →
      ((∀ j, i ≤ j → j < l.length → ringOk 3 true (l.getD j [])) → ∀ s', Un P k Q (.exit 0) s' hh) → (∀ j, i ≤ j → j < l.length → ¬ ringOk 3 true (l.getD j []) → ∀ s', sg s' 4 = .int .i64 j → Un P k Q .ret s' hh) → Lp P b130_0 s hh (Un P k Q) := by
  have hb := hv.bound (by decide)
  induction n with
  | zero =>
    intro i s hh k Q hi h0 h1 h7 h8 hK hR
    refine g.lpe b130_0.eq_1 ?_
    have c1 : ¬ ((i : Int) < (l.length : Int)) := by omega
    simp only [h7, h8, c1, R0, R1, R2, R3, R4, R5, R6, R7, R8, R9, VOp.fresh, bxC, bsC, R10, un, most, callsOf, List.contains_nil, List.contains_cons, beq_iff_eq, List.getElem?_cons_zero, List.getElem?_cons_succ, seval, Option.map_none, Int.reducePow, ↓reduceIte, Nat.reduceEqDiff, reduceCtorEq, and_self]
    exact hK (fun j h1 h2 => by omega) _
  | succ n ih =>
    intro i s hh k Q hi h0 h1 h7 h8 hK hR
    refine g.lpe b130_0.eq_1 ?_
    have c1 : (i : Int) < (l.length : Int) := by omega
    obtain ⟨rv, r1, hrv, _, g1⟩ := getRing hv i (by omega)
    have w1 : IntKind.i64.wrap ((i : Int) + 1) = ((i + 1 : Nat) : Int) := by rw [w64 (by omega) (by omega)]; push_cast; rfl
    simp only [h0, h1, h7, h8, c1, g1, R0, R1, R2, R3, R4, R5, R6, R7, R8, R9, VOp.fresh, bxC, bsC, R10, un, most, callsOf, List.contains_nil, List.contains_cons, beq_iff_eq, List.getElem?_cons_zero, List.getElem?_cons_succ, seval, Option.map_none, Int.reducePow, ↓reduceIte, Nat.reduceEqDiff, reduceCtorEq, and_self]
    refine (mayRing_pu g hrv).go (tolds1 hrv tPt) ?_
    rintro x ⟨b, rfl, hbb⟩
    cases b
    · simp only [h8, w1, R0, R1, R2, R3, R4, R5, R6, R7, R8, R9, VOp.fresh, bxC, bsC, R10, un, most, callsOf, List.contains_nil, List.contains_cons, beq_iff_eq, List.getElem?_cons_zero, List.getElem?_cons_succ, seval, Option.map_none, Int.reducePow, ↓reduceIte, Nat.reduceEqDiff, reduceCtorEq, and_self]
      have hok : ringOk 3 true (l.getD i []) := by
        apply Classical.byContradiction
        intro hn
        exact absurd (hbb.2 hn) (by simp)
      refine ih (i + 1) _ hh k Q (by omega) ?_ ?_ ?_ ?_ (fun hall => hK fun j h1 h2 => ?_) (fun j h1 h2 => hR j (by omega) h2)
      · simp only [h0, sg_set, Nat.reduceEqDiff, ↓reduceIte]
      · simp only [h1, sg_set, Nat.reduceEqDiff, ↓reduceIte]
      · simp only [h7, sg_set, Nat.reduceEqDiff, ↓reduceIte]
      · simp only [sg_set, Nat.reduceEqDiff, ↓reduceIte]
      · rcases Nat.lt_or_ge i j with h | h
        · exact hall j h h2
        · have : j = i := by omega
          subst this; exact hok
    · simp only [h8, R0, R1, R2, R3, R4, R5, R6, R7, R8, R9, VOp.fresh, bxC, bsC, R10, un, most, callsOf, List.contains_nil, List.contains_cons, beq_iff_eq, List.getElem?_cons_zero, List.getElem?_cons_succ, seval, Option.map_none, Int.reducePow, ↓reduceIte, Nat.reduceEqDiff, reduceCtorEq, and_self]
      exact hR i (Nat.le_refl _) (by omega) (hbb.1 rfl) _ (by simp only [sg_set, Nat.reduceEqDiff, ↓reduceIte])
theorem indexFunc_pu (g : Pg P tab) {l : List (List Pt)} {v : AV} (hv : IsL 24 RRing v l) : Pu P 130 [v, .fn 129 []] (fun x => ∃ n : Int, x = .int .i64 n ∧ (0 ≤ n ↔ ¬ ∀ i, i < l.length → ringOk 3 true (l.getD i []))) := by
  refine g.pu (vf := v130) rfl rfl ?_
  simp only [v130, hv.len, R0, R1, R2, R3, R4, R5, R6, R7, R8, R9, VOp.fresh, bxC, bsC, R10, un, most, callsOf, List.contains_nil, List.contains_cons, beq_iff_eq, List.getElem?_cons_zero, List.getElem?_cons_succ, seval, Option.map_none, Int.reducePow, ↓reduceIte, Nat.reduceEqDiff, reduceCtorEq, and_self]
  refine indexFunc_loop g hv l.length 0 _ _ _ _ (by omega) ?_ ?_ ?_ ?_ ?_ ?_
  · simp only [sg_set, Nat.reduceEqDiff, ↓reduceIte]
  · simp only [sg_set, Nat.reduceEqDiff, ↓reduceIte]
  · simp only [sg_set, Nat.reduceEqDiff, ↓reduceIte]
  · simp only [sg_set, Nat.reduceEqDiff, ↓reduceIte]
    rfl
  · intro hall s'
    simp only [R0, R1, R2, R3, R4, R5, R6, R7, R8, R9, VOp.fresh, bxC, bsC, R10, un, most, callsOf, List.contains_nil, List.contains_cons, beq_iff_eq, List.getElem?_cons_zero, List.getElem?_cons_succ, seval, Option.map_none, Int.reducePow, ↓reduceIte, Nat.reduceEqDiff, reduceCtorEq, and_self]
    exact ⟨-1, rfl, by simp; exact fun i hi => hall i (by omega) hi⟩
  · intro j _ hj hn s' h4
    simp only [h4, R0, R1, R2, R3, R4, R5, R6, R7, R8, R9, VOp.fresh, bxC, bsC, R10, un, most, callsOf, List.contains_nil, List.contains_cons, beq_iff_eq, List.getElem?_cons_zero, List.getElem?_cons_succ, seval, Option.map_none, Int.reducePow, ↓reduceIte, Nat.reduceEqDiff, reduceCtorEq, and_self]
    exact ⟨j, rfl, ⟨fun _ h => hn (h j hj), fun _ => by omega⟩⟩
theorem containsFunc_pu (g : Pg P tab) {l : List (List Pt)} {v : AV} (hv : IsL 24 RRing v l) : Pu P 128 [v, .fn 129 []] (IsB (¬ ∀ i, i < l.length → ringOk 3 true (l.getD i []))) := by
  refine g.pu (vf := v128) rfl rfl ?_
  simp only [v128, R0, R1, R2, R3, R4, R5, R6, R7, R8, R9, VOp.fresh, bxC, bsC, R10, un, most, callsOf, List.contains_nil, List.contains_cons, beq_iff_eq, List.getElem?_cons_zero, List.getElem?_cons_succ, seval, Option.map_none, Int.reducePow, ↓reduceIte, Nat.reduceEqDiff, reduceCtorEq, and_self]
  refine (indexFunc_pu g hv).go (by simp [AV.tolds, AV.told, hv.told tRing]) ?_
  rintro x ⟨n, rfl, hn⟩
  simp only [R0, R1, R2, R3, R4, R5, R6, R7, R8, R9, VOp.fresh, bxC, bsC, R10, un, most, callsOf, List.contains_nil, List.contains_cons, beq_iff_eq, List.getElem?_cons_zero, List.getElem?_cons_succ, seval, Option.map_none, Int.reducePow, ↓reduceIte, Nat.reduceEqDiff, reduceCtorEq, and_self]
  exact hn
def featOk (f : Feat) : Prop := 1 ≤ f.id ∧ f.id ≤ 65535 ∧ 1 ≤ f.rings.length ∧ f.rings.length ≤ 4 ∧
  ((f.shape = 0 ∧ f.rings.length = 1 ∧ (f.rings.getD 0 []).length = 1 ∧ ptOk ((f.rings.getD 0 []).getD 0 ⟨0, 0⟩)) ∨ (f.shape = 1 ∧ f.rings.length = 1 ∧ ringOk 2 false (f.rings.getD 0 [])) ∨ (f.shape = 2 ∧ ∀ i, i < f.rings.length → ringOk 3 true (f.rings.getD i [])))
theorem shapeMay_pu (g : Pg P tab) {f : Feat} {v : AV} (hv : IsL 24 RRing v f.rings) : Pu P 119 [.agg [.int .i64 f.id, .int .i64 f.shape, v]] (IsB (featOk f)) := by
  refine g.pu (vf := v119) rfl rfl ?_
  have hb := hv.bound (by decide)
  by_cases h0 : 0 < f.rings.length
  · obtain ⟨rv, r1, hrv, t1, g1⟩ := getRing hv 0 h0
    simp only [Int.natCast_zero, Int.ofNat_zero, Int.ofNat_eq_natCast] at g1
    by_cases h1 : 0 < (f.rings.getD 0 []).length
    · obtain ⟨r2, t2, g2⟩ := getPt hrv 0 h1
      simp only [Int.natCast_zero, Int.ofNat_zero, Int.ofNat_eq_natCast] at g2
      simp +contextual (maxSteps := 2000000) only [v119, hv.len, hrv.len, g1, g2, R0, R1, R2, R3, R4, R5, R6, R7, R8, R9, VOp.fresh, bxC, bsC, R10, un, most, callsOf, List.contains_nil, List.contains_cons, beq_iff_eq, List.getElem?_cons_zero, List.getElem?_cons_succ, seval, Option.map_none, Int.reducePow, ↓reduceIte, Nat.reduceEqDiff, reduceCtorEq, and_self]
      repeat' (first | apply And.intro | intro _)
      all_goals first
        | (rename_i hok; obtain ⟨a1, a2, a3, a4, ⟨b1, b2, b3, b4⟩ | ⟨b1, b2, b3⟩ | ⟨b1, b2⟩⟩ := hok <;> omega)
        | (refine (pointMay_pu g _).go rfl ?_
           rintro x rfl
           simp +contextual (maxSteps := 2000000) only [R0, R1, R2, R3, R4, R5, R6, R7, R8, R9, VOp.fresh, bxC, bsC, R10, un, most, callsOf, List.contains_nil, List.contains_cons, beq_iff_eq, List.getElem?_cons_zero, List.getElem?_cons_succ, seval, Option.map_none, Int.reducePow, ↓reduceIte, Nat.reduceEqDiff, reduceCtorEq, and_self]
           exact ⟨fun h => ⟨by omega, by omega, by omega, by omega, .inl ⟨by omega, by omega, by omega, h⟩⟩, fun hok => by obtain ⟨a1, a2, a3, a4, ⟨b1, b2, b3, b4⟩ | ⟨b1, b2, b3⟩ | ⟨b1, b2⟩⟩ := hok <;> first | assumption | omega⟩)
        | (refine (ring_pu g hrv).go (by simp [AV.tolds, AV.told, hrv.told tPt]) ?_
           rintro x ⟨b, rfl, hbb⟩
           simp +contextual (maxSteps := 2000000) only [R0, R1, R2, R3, R4, R5, R6, R7, R8, R9, VOp.fresh, bxC, bsC, R10, un, most, callsOf, List.contains_nil, List.contains_cons, beq_iff_eq, List.getElem?_cons_zero, List.getElem?_cons_succ, seval, Option.map_none, Int.reducePow, ↓reduceIte, Nat.reduceEqDiff, reduceCtorEq, and_self]
           rw [hbb]
           exact ⟨fun h => ⟨by omega, by omega, by omega, by omega, .inr (.inl ⟨by omega, by omega, h⟩)⟩, fun hok => by obtain ⟨a1, a2, a3, a4, ⟨b1, b2, b3, b4⟩ | ⟨b1, b2, b3⟩ | ⟨b1, b2⟩⟩ := hok <;> first | assumption | omega⟩)
        | (refine (containsFunc_pu g hv).go (by simp [AV.tolds, AV.told, hv.told tRing]) ?_
           rintro x ⟨b, rfl, hbb⟩
           cases b <;> simp +contextual (maxSteps := 2000000) only [R0, R1, R2, R3, R4, R5, R6, R7, R8, R9, VOp.fresh, bxC, bsC, R10, un, most, callsOf, List.contains_nil, List.contains_cons, beq_iff_eq, List.getElem?_cons_zero, List.getElem?_cons_succ, seval, Option.map_none, Int.reducePow, ↓reduceIte, Nat.reduceEqDiff, reduceCtorEq, and_self]
           · exact ⟨by omega, by omega, by omega, by omega, .inr (.inr ⟨by omega, Classical.byContradiction fun hn => absurd (hbb.2 hn) (by simp)⟩)⟩
           · intro hok; obtain ⟨a1, a2, a3, a4, ⟨b1, b2, b3, b4⟩ | ⟨b1, b2, b3⟩ | ⟨b1, b2⟩⟩ := hok <;> first | exact hbb.1 rfl b2 | omega)
        | trace_state
    · have e1 : (f.rings.getD 0 []).length = 0 := by omega
      simp +contextual (maxSteps := 2000000) only [v119, hv.len, hrv.len, g1, e1, R0, R1, R2, R3, R4, R5, R6, R7, R8, R9, VOp.fresh, bxC, bsC, R10, un, most, callsOf, List.contains_nil, List.contains_cons, beq_iff_eq, List.getElem?_cons_zero, List.getElem?_cons_succ, seval, Option.map_none, Int.reducePow, ↓reduceIte, Nat.reduceEqDiff, reduceCtorEq, and_self]
      repeat' (first | apply And.intro | intro _)
      all_goals first
        | (rename_i hok; obtain ⟨a1, a2, a3, a4, ⟨b1, b2, b3, b4⟩ | ⟨b1, b2, b3⟩ | ⟨b1, b2⟩⟩ := hok <;> omega)
        | (refine (ring_pu g hrv).go (by simp [AV.tolds, AV.told, hrv.told tPt]) ?_
           rintro x ⟨b, rfl, hbb⟩
           simp +contextual (maxSteps := 2000000) only [R0, R1, R2, R3, R4, R5, R6, R7, R8, R9, VOp.fresh, bxC, bsC, R10, un, most, callsOf, List.contains_nil, List.contains_cons, beq_iff_eq, List.getElem?_cons_zero, List.getElem?_cons_succ, seval, Option.map_none, Int.reducePow, ↓reduceIte, Nat.reduceEqDiff, reduceCtorEq, and_self]
           rw [hbb]
           exact ⟨fun h => ⟨by omega, by omega, by omega, by omega, .inr (.inl ⟨by omega, by omega, h⟩)⟩, fun hok => by obtain ⟨a1, a2, a3, a4, ⟨b1, b2, b3, b4⟩ | ⟨b1, b2, b3⟩ | ⟨b1, b2⟩⟩ := hok <;> first | assumption | omega⟩)
        | (refine (containsFunc_pu g hv).go (by simp [AV.tolds, AV.told, hv.told tRing]) ?_
           rintro x ⟨b, rfl, hbb⟩
           cases b <;> simp +contextual (maxSteps := 2000000) only [R0, R1, R2, R3, R4, R5, R6, R7, R8, R9, VOp.fresh, bxC, bsC, R10, un, most, callsOf, List.contains_nil, List.contains_cons, beq_iff_eq, List.getElem?_cons_zero, List.getElem?_cons_succ, seval, Option.map_none, Int.reducePow, ↓reduceIte, Nat.reduceEqDiff, reduceCtorEq, and_self]
           · exact ⟨by omega, by omega, by omega, by omega, .inr (.inr ⟨by omega, Classical.byContradiction fun hn => absurd (hbb.2 hn) (by simp)⟩)⟩
           · intro hok; obtain ⟨a1, a2, a3, a4, ⟨b1, b2, b3, b4⟩ | ⟨b1, b2, b3⟩ | ⟨b1, b2⟩⟩ := hok <;> first | exact hbb.1 rfl b2 | omega)
        | trace_state
  · have e0 : f.rings.length = 0 := by omega
    have c1 : (f.rings.length : Int) < 1 := by omega
    simp +contextual (maxSteps := 2000000) only [v119, hv.len, c1, R0, R1, R2, R3, R4, R5, R6, R7, R8, R9, VOp.fresh, bxC, bsC, R10, un, most, callsOf, List.contains_nil, List.contains_cons, beq_iff_eq, List.getElem?_cons_zero, List.getElem?_cons_succ, seval, Option.map_none, Int.reducePow, ↓reduceIte, Nat.reduceEqDiff, reduceCtorEq, and_self]
    repeat' (first | apply And.intro | intro _)
    all_goals (rename_i hok; obtain ⟨a1, a2, a3, a4, _⟩ := hok; omega)
end
end Go.Proofs.Ytinonmcnofjeeaa.VM
