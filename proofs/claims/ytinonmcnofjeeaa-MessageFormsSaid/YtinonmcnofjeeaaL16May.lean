/- What may be: boxes, rows of features, messages, by the program's own functions. -/
import Derived.Test.YtinonmcnofjeeaaL11Data
namespace Go.Proofs.Ytinonmcnofjeeaa.VM
set_option linter.unusedSimpArgs false
set_option linter.unusedVariables false
set_option linter.defProp false
set_option maxHeartbeats 1000000
attribute [local irreducible] Af Nx EvO Ev Un Gd Cd EvR EvQ EvC Nc Gc Lp EvM NxM AfM GdM EvMR EvMQ EvMD EvMC Nm Gm

structure Bx where
  x0 : Int
  y0 : Int
  x1 : Int
  y1 : Int
def boxV (b : Bx) : List AV := [.int .i64 b.x0, .int .i64 b.y0, .int .i64 b.x1, .int .i64 b.y1]
def boxOk (b : Bx) : Prop := coordOk b.x0 ∧ coordOk b.y0 ∧ coordOk b.x1 ∧ coordOk b.y1 ∧ b.x0 ≤ b.x1 ∧ b.y0 ≤ b.y1
instance (b : Bx) : Decidable (boxOk b) := by unfold boxOk; infer_instance
def nodeOk (x : Int) : Prop := 0 ≤ x ∧ x < 8
instance (x : Int) : Decidable (nodeOk x) := by unfold nodeOk; infer_instance
def feat0 : Feat := ⟨0, 0, []⟩
def featsAt (l : List Feat) (i : Nat) : Prop := featOk (l.getD i feat0) ∧ (0 < i → (l.getD (i - 1) feat0).id < (l.getD i feat0).id)
def featsOk (l : List Feat) : Prop := ∀ i, i < l.length → featsAt l i
section
variable {P : Program}
theorem node_pu (g : Pg P tab) (x : Int) : Pu P 98 [.int .i64 x] (fun v => v = .bool (decide (nodeOk x))) := by
  refine g.pu (vf := v98) rfl rfl ?_
  simp +contextual (maxSteps := 2000000) (disch := omega) only [v98, nodeOk, R0, R1, R2, R3, R4, R5, R6, R7, R8, R9, VOp.fresh, bxC, bsC, AV.cells, un, most, callsOf, List.contains_nil, List.contains_cons, beq_iff_eq, List.getElem?_cons_zero, List.getElem?_cons_succ, seval, Int.reducePow, ↓reduceIte, Nat.reduceEqDiff, reduceCtorEq, and_self]
theorem boxMay_pu (g : Pg P tab) (b : Bx) : Pu P 111 [.agg (boxV b)] (fun v => v = .bool (decide (boxOk b))) := by
  refine g.pu (vf := v111) rfl rfl ?_
  obtain ⟨x0, y0, x1, y1⟩ := b
  have stop : ∀ x y : Int, OK P 122 [.int .i64 x] ⟨1, .e⟩ (.bool (decide (coordOk x))) ⟨1, .e⟩ := fun x y => (coord_pu g x).exact rfl
  simp only [v111, boxV, R0, R1, R2, R3, R4, R5, R6, R7, R8, R9, VOp.fresh, bxC, bsC, AV.cells, un, most, callsOf, List.contains_nil, List.contains_cons, beq_iff_eq, List.getElem?_cons_zero, List.getElem?_cons_succ, seval, Int.reducePow, ↓reduceIte, Nat.reduceEqDiff, reduceCtorEq, and_self]
  refine (coord_pu g _).go rfl ?_
  rintro v rfl
  by_cases h1 : coordOk x0
  · simp only [h1, R0, R1, R2, R3, R4, R5, R6, R7, R8, R9, VOp.fresh, bxC, bsC, AV.cells, un, most, callsOf, List.contains_nil, List.contains_cons, beq_iff_eq, List.getElem?_cons_zero, List.getElem?_cons_succ, seval, Int.reducePow, ↓reduceIte, Nat.reduceEqDiff, reduceCtorEq, and_self]
    refine (coord_pu g _).go rfl ?_
    rintro v rfl
    by_cases h2 : coordOk y0
    · simp only [h2, R0, R1, R2, R3, R4, R5, R6, R7, R8, R9, VOp.fresh, bxC, bsC, AV.cells, un, most, callsOf, List.contains_nil, List.contains_cons, beq_iff_eq, List.getElem?_cons_zero, List.getElem?_cons_succ, seval, Int.reducePow, ↓reduceIte, Nat.reduceEqDiff, reduceCtorEq, and_self]
      refine (coord_pu g _).go rfl ?_
      rintro v rfl
      by_cases h3 : coordOk x1
      · simp only [h3, R0, R1, R2, R3, R4, R5, R6, R7, R8, R9, VOp.fresh, bxC, bsC, AV.cells, un, most, callsOf, List.contains_nil, List.contains_cons, beq_iff_eq, List.getElem?_cons_zero, List.getElem?_cons_succ, seval, Int.reducePow, ↓reduceIte, Nat.reduceEqDiff, reduceCtorEq, and_self]
        refine (coord_pu g _).go rfl ?_
        rintro v rfl
        by_cases h4 : coordOk y1
        · simp +contextual (maxSteps := 2000000) only [h4, boxOk, h1, h2, h3, R0, R1, R2, R3, R4, R5, R6, R7, R8, R9, VOp.fresh, bxC, bsC, AV.cells, un, most, callsOf, List.contains_nil, List.contains_cons, beq_iff_eq, List.getElem?_cons_zero, List.getElem?_cons_succ, seval, Int.reducePow, ↓reduceIte, Nat.reduceEqDiff, reduceCtorEq, and_self]
        · simp only [h4, boxOk, R0, R1, R2, R3, R4, R5, R6, R7, R8, R9, VOp.fresh, bxC, bsC, AV.cells, un, most, callsOf, List.contains_nil, List.contains_cons, beq_iff_eq, List.getElem?_cons_zero, List.getElem?_cons_succ, seval, Int.reducePow, ↓reduceIte, Nat.reduceEqDiff, reduceCtorEq, and_self]
      · simp only [h3, boxOk, R0, R1, R2, R3, R4, R5, R6, R7, R8, R9, VOp.fresh, bxC, bsC, AV.cells, un, most, callsOf, List.contains_nil, List.contains_cons, beq_iff_eq, List.getElem?_cons_zero, List.getElem?_cons_succ, seval, Int.reducePow, ↓reduceIte, Nat.reduceEqDiff, reduceCtorEq, and_self]
    · simp only [h2, boxOk, R0, R1, R2, R3, R4, R5, R6, R7, R8, R9, VOp.fresh, bxC, bsC, AV.cells, un, most, callsOf, List.contains_nil, List.contains_cons, beq_iff_eq, List.getElem?_cons_zero, List.getElem?_cons_succ, seval, Int.reducePow, ↓reduceIte, Nat.reduceEqDiff, reduceCtorEq, and_self]
  · simp only [h1, boxOk, R0, R1, R2, R3, R4, R5, R6, R7, R8, R9, VOp.fresh, bxC, bsC, AV.cells, un, most, callsOf, List.contains_nil, List.contains_cons, beq_iff_eq, List.getElem?_cons_zero, List.getElem?_cons_succ, seval, Int.reducePow, ↓reduceIte, Nat.reduceEqDiff, reduceCtorEq, and_self]
theorem isL_one {b : Nat} {α : Type} {R : α → List AV → Prop} {v : AV} {l : List α} (h : IsL b R v l) : v.one = true := by
  rcases h.2 with ⟨rfl, _⟩ | ⟨c, rfl, _⟩ <;> rfl
theorem zFeat (a : Feat) (c : List AV) (h : RFeat a c) : c.length = 3 := by obtain ⟨v, rfl, _⟩ := h; rfl
theorem getFeat {v : AV} {l : List Feat} (h : IsL 40 RFeat v l) (i : Nat) (hi : i < l.length) : ∃ rv r, IsL 24 RRing rv (l.getD i feat0).rings ∧ I64 (l.getD i feat0).id ∧ I64 (l.getD i feat0).shape ∧ AV.tolds r = true ∧
    ∀ (hh : Heap) (kk : IntKind), iaV hh 3 none v (.int kk (i : Int)) = .val (.rp (.int .i64 (l.getD i feat0).id :: .int .i64 (l.getD i feat0).shape :: rv :: r)) hh := by
  obtain ⟨ci, r, ⟨rv, e, i1, i2, hr⟩, ht, hia⟩ := h.get zFeat tFeat i hi
  have : l.getD i feat0 = l[i] := by simp [List.getD_eq_getElem?_getD, List.getElem?_eq_getElem hi]
  refine ⟨rv, r, by rw [this]; exact hr, by rw [this]; exact i1, by rw [this]; exact i2, ?_, fun hh kk => ?_⟩
  · rw [e] at ht
    simp only [AV.tolds, List.cons_append, List.nil_append, Bool.and_eq_true] at ht
    exact ht.2.2.2
  · rw [hia, e, this]; rfl
theorem rising_loop (g : Pg P tab) {l : List Feat} {v : AV} (hv : IsL 40 RFeat v l) (n : Nat) :
    ∀ (i : Nat) (s : T AV) (hh : Heap) (k : List Fr) (Q : Ex → T AV → Heap → Prop), i + n = l.length → sg s 0 = v → sg s 5 = v → sg s 6 = .int .i64 l.length → sg s 7 = .int .i64 i →
      ((∀ j, i ≤ j → j < l.length → featsAt l j) → ∀ s' h', Un P k Q (.exit 0) s' h') → ((¬ ∀ j, i ≤ j → j < l.length → featsAt l j) → ∀ s' h', sg s' 2 = .bool false → Un P k Q .ret s' h') → Lp P b112_0 s hh (Un P k Q) := by
  have hb := hv.bound (by decide)
  induction n with
  | zero =>
    intro i s hh k Q hi h0 h5 h6 h7 hK hR
    refine g.lpe b112_0.eq_1 ?_
    have c1 : ¬ ((i : Int) < (l.length : Int)) := by omega
    simp only [h6, h7, c1, R0, R1, R2, R3, R4, R5, R6, R7, R8, R9, VOp.fresh, bxC, bsC, AV.cells, un, most, callsOf, List.contains_nil, List.contains_cons, beq_iff_eq, List.getElem?_cons_zero, List.getElem?_cons_succ, seval, Int.reducePow, ↓reduceIte, Nat.reduceEqDiff, reduceCtorEq, and_self]
    exact hK (fun j h1 h2 => by omega) _ _
  | succ n ih =>
    intro i s hh k Q hi h0 h5 h6 h7 hK hR
    refine g.lpe b112_0.eq_1 ?_
    have c1 : (i : Int) < (l.length : Int) := by omega
    obtain ⟨rv, r1, hrv, _, _, _, g1⟩ := getFeat hv i (by omega)
    have w1 : IntKind.i64.wrap ((i : Int) + 1) = ((i + 1 : Nat) : Int) := by rw [w64 (by omega) (by omega)]; push_cast; rfl
    have w2 : IntKind.i64.wrap ((i : Int) - 1) = (i : Int) - 1 := w64 (by omega) (by omega)
    simp only [h0, h5, h6, h7, c1, g1, RW, isL_one hrv, R0, R1, R2, R3, R4, R5, R6, R7, R8, R9, VOp.fresh, bxC, bsC, AV.cells, un, most, callsOf, List.contains_nil, List.contains_cons, beq_iff_eq, List.getElem?_cons_zero, List.getElem?_cons_succ, seval, Int.reducePow, ↓reduceIte, Nat.reduceEqDiff, reduceCtorEq, and_self]
    refine (shapeMay_pu g hrv).go (by simp [AV.tolds, AV.told, hrv.told tRing]) ?_
    rintro x ⟨b, rfl, hbb⟩
    have no : ¬ featsAt l i → ¬ ∀ j, i ≤ j → j < l.length → featsAt l j := fun h hall => h (hall i (Nat.le_refl _) (by omega))
    have step : featsAt l i → ∀ s' h', sg s' 0 = v → sg s' 5 = v → sg s' 6 = .int .i64 l.length → sg s' 7 = .int .i64 (i + 1 : Nat) → Lp P b112_0 s' h' (Un P k Q) := fun hok s' h' a0 a5 a6 a7 => by
      have all : (∀ j, i ≤ j → j < l.length → featsAt l j) ↔ ∀ j, i + 1 ≤ j → j < l.length → featsAt l j := ⟨fun h j h1 h2 => h j (by omega) h2, fun h j h1 h2 => by
        rcases Nat.lt_or_ge i j with h3 | h3
        · exact h j h3 h2
        · rw [show j = i by omega]; exact hok⟩
      refine ih (i + 1) _ _ k Q (by omega) a0 a5 a6 a7 (fun h => hK (all.2 h)) (fun h => hR (fun h' => h (all.1 h')))
    cases b
    · simp only [R0, R1, R2, R3, R4, R5, R6, R7, R8, R9, VOp.fresh, bxC, bsC, AV.cells, un, most, callsOf, List.contains_nil, List.contains_cons, beq_iff_eq, List.getElem?_cons_zero, List.getElem?_cons_succ, seval, Int.reducePow, ↓reduceIte, Nat.reduceEqDiff, reduceCtorEq, and_self]
      exact hR (no fun h => by have := hbb.2 h.1; cases this) _ _ (by simp only [sg_set, Nat.reduceEqDiff, ↓reduceIte])
    · simp only [h0, h7, R0, R1, R2, R3, R4, R5, R6, R7, R8, R9, VOp.fresh, bxC, bsC, AV.cells, un, most, callsOf, List.contains_nil, List.contains_cons, beq_iff_eq, List.getElem?_cons_zero, List.getElem?_cons_succ, seval, Int.reducePow, ↓reduceIte, Nat.reduceEqDiff, reduceCtorEq, and_self]
      by_cases hi0 : i = 0
      · have c2 : ¬ ((0 : Int) < (i : Int)) := by omega
        simp only [c2, h7, w1, R0, R1, R2, R3, R4, R5, R6, R7, R8, R9, VOp.fresh, bxC, bsC, AV.cells, un, most, callsOf, List.contains_nil, List.contains_cons, beq_iff_eq, List.getElem?_cons_zero, List.getElem?_cons_succ, seval, Int.reducePow, ↓reduceIte, Nat.reduceEqDiff, reduceCtorEq, and_self]
        refine step ⟨hbb.1 rfl, fun h => by omega⟩ _ _ ?_ ?_ ?_ ?_
        · simp only [h0, sg_set, Nat.reduceEqDiff, ↓reduceIte]
        · simp only [h5, sg_set, Nat.reduceEqDiff, ↓reduceIte]
        · simp only [h6, sg_set, Nat.reduceEqDiff, ↓reduceIte]
        · simp only [sg_set, Nat.reduceEqDiff, ↓reduceIte]
      · have c2 : (0 : Int) < (i : Int) := by omega
        obtain ⟨rv', r1', hrv', _, _, _, g1'⟩ := getFeat hv (i - 1) (by omega)
        have ec : ((i - 1 : Nat) : Int) = (i : Int) - 1 := by omega
        rw [ec] at g1'
        simp only [c2, w2, g1', R0, R1, R2, R3, R4, R5, R6, R7, R8, R9, VOp.fresh, bxC, bsC, AV.cells, un, most, callsOf, List.contains_nil, List.contains_cons, beq_iff_eq, List.getElem?_cons_zero, List.getElem?_cons_succ, seval, Int.reducePow, ↓reduceIte, Nat.reduceEqDiff, reduceCtorEq, and_self]
        by_cases hid : (l.getD (i - 1) feat0).id < (l.getD i feat0).id
        · have c3 : ¬ (l.getD i feat0).id ≤ (l.getD (i - 1) feat0).id := by omega
          simp only [c3, h7, w1, R0, R1, R2, R3, R4, R5, R6, R7, R8, R9, VOp.fresh, bxC, bsC, AV.cells, un, most, callsOf, List.contains_nil, List.contains_cons, beq_iff_eq, List.getElem?_cons_zero, List.getElem?_cons_succ, seval, Int.reducePow, ↓reduceIte, Nat.reduceEqDiff, reduceCtorEq, and_self]
          refine step ⟨hbb.1 rfl, fun h => hid⟩ _ _ ?_ ?_ ?_ ?_
          · simp only [h0, sg_set, Nat.reduceEqDiff, ↓reduceIte]
          · simp only [h5, sg_set, Nat.reduceEqDiff, ↓reduceIte]
          · simp only [h6, sg_set, Nat.reduceEqDiff, ↓reduceIte]
          · simp only [sg_set, Nat.reduceEqDiff, ↓reduceIte]
        · have c3 : (l.getD i feat0).id ≤ (l.getD (i - 1) feat0).id := by omega
          simp only [c3, R0, R1, R2, R3, R4, R5, R6, R7, R8, R9, VOp.fresh, bxC, bsC, AV.cells, un, most, callsOf, List.contains_nil, List.contains_cons, beq_iff_eq, List.getElem?_cons_zero, List.getElem?_cons_succ, seval, Int.reducePow, ↓reduceIte, Nat.reduceEqDiff, reduceCtorEq, and_self]
          exact hR (no fun h => hid (h.2 (by omega))) _ _ (by simp only [sg_set, Nat.reduceEqDiff, ↓reduceIte])
theorem rising_pu (g : Pg P tab) {l : List Feat} {v : AV} (hv : IsL 40 RFeat v l) : Pu P 112 [v] (IsB (featsOk l)) := by
  refine g.pu (vf := v112) rfl rfl ?_
  simp only [v112, hv.len, R0, R1, R2, R3, R4, R5, R6, R7, R8, R9, VOp.fresh, bxC, bsC, AV.cells, un, most, callsOf, List.contains_nil, List.contains_cons, beq_iff_eq, List.getElem?_cons_zero, List.getElem?_cons_succ, seval, Int.reducePow, ↓reduceIte, Nat.reduceEqDiff, reduceCtorEq, and_self]
  refine rising_loop g hv l.length 0 _ _ _ _ (by omega) ?_ ?_ ?_ ?_ ?_ ?_
  · simp only [sg_set, Nat.reduceEqDiff, ↓reduceIte]
  · simp only [sg_set, Nat.reduceEqDiff, ↓reduceIte]
  · simp only [sg_set, Nat.reduceEqDiff, ↓reduceIte]
  · simp only [sg_set, Nat.reduceEqDiff, ↓reduceIte]
    rfl
  · intro h s' h'
    simp only [R0, R1, R2, R3, R4, R5, R6, R7, R8, R9, VOp.fresh, bxC, bsC, AV.cells, un, most, callsOf, List.contains_nil, List.contains_cons, beq_iff_eq, List.getElem?_cons_zero, List.getElem?_cons_succ, seval, Int.reducePow, ↓reduceIte, Nat.reduceEqDiff, reduceCtorEq, and_self]
    exact fun i hi => h i (by omega) hi
  · intro h s' h' h2
    simp only [h2, R0, R1, R2, R3, R4, R5, R6, R7, R8, R9, VOp.fresh, bxC, bsC, AV.cells, un, most, callsOf, List.contains_nil, List.contains_cons, beq_iff_eq, List.getElem?_cons_zero, List.getElem?_cons_succ, seval, Int.reducePow, ↓reduceIte, Nat.reduceEqDiff, reduceCtorEq, and_self]
    exact fun hok => h fun j _ hj => hok j hj
end
end Go.Proofs.Ytinonmcnofjeeaa.VM
