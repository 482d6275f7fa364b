/- Part of a proof: what stands for the program, and its walk. No condition. -/
import Derived.Below
import Derived.ChangeArms
import Derived.ChangeMaps5
import Derived.KernelRfl
import Derived.Laws.Cells
import Derived.Laws.IdiomCopy
import Derived.MapKept
import Derived.Orders
import Derived.SizedLaws
import Derived.WalkKit
import Derived.WalkLawsBesides
import GoSem.Claim
import Derived.Test.YtinonmcnofjeeaaL17Rc
set_option linter.unusedSimpArgs false
set_option linter.unusedVariables false
set_option linter.defProp false
set_option maxHeartbeats 1000000
namespace Go.Proofs.Ytinonmcnofjeeaa.VM
attribute [local irreducible] Af Nx EvO Ev Un Gd Cd EvR EvQ EvC Nc Gc Lp EvM NxM AfM GdM EvMR EvMQ EvMD EvMC Nm Gm
structure Bx where
  x0 : Int
  y0 : Int
  x1 : Int
  y1 : Int
def boxV (b : Bx) : List AV := [.int .i64 b.x0, .int .i64 b.y0, .int .i64 b.x1, .int .i64 b.y1]
def boxOk (b : Bx) : Prop := coordOk b.x0 ∧ coordOk b.y0 ∧ coordOk b.x1 ∧ coordOk b.y1 ∧ b.x0 ≤ b.x1 ∧ b.y0 ≤ b.y1
instance (b : Bx) : Decidable (boxOk b) := by unfold boxOk; infer_instance
def nodeOk (x : Int) : Prop := 0 ≤ x ∧ x < 8
instance (x : Int) : Decidable (nodeOk x) := by unfold nodeOk; infer_instance
def feat0 : Feat := ⟨0, 0, []⟩
def featsAt (l : List Feat) (i : Nat) : Prop := featOk (l.getD i feat0) ∧ (0 < i → (l.getD (i - 1) feat0).id < (l.getD i feat0).id)
def featsOk (l : List Feat) : Prop := ∀ i, i < l.length → featsAt l i
section
variable {P : Program}
theorem node_pu (g : Pg P tab) (x : Int) : Pu P 98 [.int .i64 x] (fun v => v = .bool (decide (nodeOk x))) := by
  refine g.pu (vf := v98) rfl rfl ?_
  simp +contextual (maxSteps := 2000000) (disch := omega) only [v98, nodeOk, RX, VOp.fresh, bxC, bsC, un, most, callsOf, seval, Int.reducePow, ↓reduceIte, Nat.reduceEqDiff, reduceCtorEq]
theorem boxMay_pu (g : Pg P tab) (b : Bx) : Pu P 111 [.agg (boxV b)] (fun v => v = .bool (decide (boxOk b))) := by
  refine g.pu (vf := v111) rfl rfl ?_
  obtain ⟨x0, y0, x1, y1⟩ := b
  have stop : ∀ x y : Int, OK P 122 [.int .i64 x] ⟨1, .e⟩ (.bool (decide (coordOk x))) ⟨1, .e⟩ := fun x y => (coord_pu g x).exact rfl
  simp only [v111, boxV, RX, VOp.fresh, bxC, bsC, un, most, callsOf, seval, Int.reducePow, ↓reduceIte, Nat.reduceEqDiff, reduceCtorEq]
  refine (coord_pu g _).go rfl ?_
  rintro v rfl
  by_cases h1 : coordOk x0
  · simp only [h1, RX, VOp.fresh, bxC, bsC, un, most, callsOf, seval, Int.reducePow, ↓reduceIte, Nat.reduceEqDiff, reduceCtorEq]
    refine (coord_pu g _).go rfl ?_
    rintro v rfl
    by_cases h2 : coordOk y0
    · simp only [h2, RX, VOp.fresh, bxC, bsC, un, most, callsOf, seval, Int.reducePow, ↓reduceIte, Nat.reduceEqDiff, reduceCtorEq]
      refine (coord_pu g _).go rfl ?_
      rintro v rfl
      by_cases h3 : coordOk x1
      · simp only [h3, RX, VOp.fresh, bxC, bsC, un, most, callsOf, seval, Int.reducePow, ↓reduceIte, Nat.reduceEqDiff, reduceCtorEq]
        refine (coord_pu g _).go rfl ?_
        rintro v rfl
        by_cases h4 : coordOk y1
        · simp +contextual (maxSteps := 2000000) only [h4, boxOk, h1, h2, h3, RX, VOp.fresh, bxC, bsC, un, most, callsOf, seval, Int.reducePow, ↓reduceIte, Nat.reduceEqDiff, reduceCtorEq]
        · simp only [h4, boxOk, RX, VOp.fresh, bxC, bsC, un, most, callsOf, seval, Int.reducePow, ↓reduceIte, Nat.reduceEqDiff, reduceCtorEq]
      · simp only [h3, boxOk, RX, VOp.fresh, bxC, bsC, un, most, callsOf, seval, Int.reducePow, ↓reduceIte, Nat.reduceEqDiff, reduceCtorEq]
    · simp only [h2, boxOk, RX, VOp.fresh, bxC, bsC, un, most, callsOf, seval, Int.reducePow, ↓reduceIte, Nat.reduceEqDiff, reduceCtorEq]
  · simp only [h1, boxOk, RX, VOp.fresh, bxC, bsC, un, most, callsOf, seval, Int.reducePow, ↓reduceIte, Nat.reduceEqDiff, reduceCtorEq]
theorem isL_one {b : Nat} {α : Type} {R : α → List AV → Prop} {v : AV} {l : List α} (h : IsL b R v l) : v.one = true := by
  rcases h.2 with ⟨rfl, _⟩ | ⟨c, rfl, _⟩ <;> rfl
theorem zFeat (a : Feat) (c : List AV) (h : RFeat a c) : c.length = 3 := by obtain ⟨v, rfl, _⟩ := h; rfl
theorem getFeat {v : AV} {l : List Feat} (h : IsL 40 RFeat v l) (i : Nat) (hi : i < l.length) : ∃ rv r, IsL 24 RRing rv (l.getD i feat0).rings ∧ I64 (l.getD i feat0).id ∧ I64 (l.getD i feat0).shape ∧ AV.tolds r = true ∧
    ∀ (hh : Heap) (kk : IntKind), iaV hh 3 none v (.int kk (i : Int)) = .val (.rp (.int .i64 (l.getD i feat0).id :: .int .i64 (l.getD i feat0).shape :: rv :: r)) hh := by
  obtain ⟨ci, r, ⟨rv, e, i1, i2, hr⟩, ht, hia⟩ := h.get zFeat tFeat i hi
  have : l.getD i feat0 = l[i] := by simp [List.getD_eq_getElem?_getD, List.getElem?_eq_getElem hi]
  refine ⟨rv, r, by rw [this]; exact hr, by rw [this]; exact i1, by rw [this]; exact i2, ?_, fun hh kk => ?_⟩
  · rw [e] at ht
    simp only [AV.tolds, List.cons_append, List.nil_append, Bool.and_eq_true] at ht
    exact ht.2.2.2
  · rw [hia, e, this]; rfl
theorem rising_loop (g : Pg P tab) {l : List Feat} {v : AV} (hv : IsL 40 RFeat v l) (n : Nat) :
    ∀ (i : Nat) (s : T AV) (hh : Heap) (k : List Fr) (Q : Ex → T AV → Heap → Prop), i + n = l.length → sg s 0 = v → sg s 5 = v → sg s 6 = .int .i64 l.length → sg s 7 = .int .i64 i →
      ((∀ j, i ≤ j → j < l.length → featsAt l j) → ∀ s' h', Un P k Q (.exit 0) s' h') → ((¬ ∀ j, i ≤ j → j < l.length → featsAt l j) → ∀ s' h', sg s' 2 = .bool false → Un P k Q .ret s' h') → Lp P b112_0 s hh (Un P k Q) := by
  have hb := hv.bound (by decide)
  induction n with
  | zero =>
    intro i s hh k Q hi h0 h5 h6 h7 hK hR
    refine g.lpe b112_0.eq_1 ?_
    have c1 : ¬ ((i : Int) < (l.length : Int)) := by omega
    simp only [h6, h7, c1, RX, VOp.fresh, bxC, bsC, un, most, callsOf, seval, Int.reducePow, ↓reduceIte, Nat.reduceEqDiff, reduceCtorEq]
    exact hK (fun j h1 h2 => by omega) _ _
  | succ n ih =>
    intro i s hh k Q hi h0 h5 h6 h7 hK hR
    refine g.lpe b112_0.eq_1 ?_
    have c1 : (i : Int) < (l.length : Int) := by omega
    obtain ⟨rv, r1, hrv, _, _, _, g1⟩ := getFeat hv i (by omega)
    have w1 : IntKind.i64.wrap ((i : Int) + 1) = ((i + 1 : Nat) : Int) := by rw [w64 (by omega) (by omega)]; push_cast; rfl
    have w2 : IntKind.i64.wrap ((i : Int) - 1) = (i : Int) - 1 := w64 (by omega) (by omega)
    simp only [h0, h5, h6, h7, c1, g1, RW, isL_one hrv, RX, VOp.fresh, bxC, bsC, un, most, callsOf, seval, Int.reducePow, ↓reduceIte, Nat.reduceEqDiff, reduceCtorEq]
    refine (shapeMay_pu g hrv).go (by simp [AV.tolds, AV.told, hrv.told tRing]) ?_
    rintro x ⟨b, rfl, hbb⟩
    have no : ¬ featsAt l i → ¬ ∀ j, i ≤ j → j < l.length → featsAt l j := fun h hall => h (hall i (Nat.le_refl _) (by omega))
    have step : featsAt l i → ∀ s' h', sg s' 0 = v → sg s' 5 = v → sg s' 6 = .int .i64 l.length → sg s' 7 = .int .i64 (i + 1 : Nat) → Lp P b112_0 s' h' (Un P k Q) := fun hok s' h' a0 a5 a6 a7 => by
      have all : (∀ j, i ≤ j → j < l.length → featsAt l j) ↔ ∀ j, i + 1 ≤ j → j < l.length → featsAt l j := ⟨fun h j h1 h2 => h j (by omega) h2, fun h j h1 h2 => by
        rcases Nat.lt_or_ge i j with h3 | h3
        · exact h j h3 h2
        · rw [show j = i by omega]; exact hok⟩
      refine ih (i + 1) _ _ k Q (by omega) a0 a5 a6 a7 (fun h => hK (all.2 h)) (fun h => hR (fun h' => h (all.1 h')))
    cases b
    · simp only [RX, VOp.fresh, bxC, bsC, un, most, callsOf, seval, Int.reducePow, ↓reduceIte, Nat.reduceEqDiff, reduceCtorEq]
      exact hR (no fun h => by have := hbb.2 h.1; cases this) _ _ (by simp only [sg_set, Nat.reduceEqDiff, ↓reduceIte])
    · simp only [h0, h7, RX, VOp.fresh, bxC, bsC, un, most, callsOf, seval, Int.reducePow, ↓reduceIte, Nat.reduceEqDiff, reduceCtorEq]
      by_cases hi0 : i = 0
      · have c2 : ¬ ((0 : Int) < (i : Int)) := by omega
        simp only [c2, h7, w1, RX, VOp.fresh, bxC, bsC, un, most, callsOf, seval, Int.reducePow, ↓reduceIte, Nat.reduceEqDiff, reduceCtorEq]
        refine step ⟨hbb.1 rfl, fun h => by omega⟩ _ _ ?_ ?_ ?_ ?_
        · simp only [h0, sg_set, Nat.reduceEqDiff, ↓reduceIte]
        · simp only [h5, sg_set, Nat.reduceEqDiff, ↓reduceIte]
        · simp only [h6, sg_set, Nat.reduceEqDiff, ↓reduceIte]
        · simp only [sg_set, Nat.reduceEqDiff, ↓reduceIte]
      · have c2 : (0 : Int) < (i : Int) := by omega
        obtain ⟨rv', r1', hrv', _, _, _, g1'⟩ := getFeat hv (i - 1) (by omega)
        have ec : ((i - 1 : Nat) : Int) = (i : Int) - 1 := by omega
        rw [ec] at g1'
        simp only [c2, w2, g1', RX, VOp.fresh, bxC, bsC, un, most, callsOf, seval, Int.reducePow, ↓reduceIte, Nat.reduceEqDiff, reduceCtorEq]
        by_cases hid : (l.getD (i - 1) feat0).id < (l.getD i feat0).id
        · have c3 : ¬ (l.getD i feat0).id ≤ (l.getD (i - 1) feat0).id := by omega
          simp only [c3, h7, w1, RX, VOp.fresh, bxC, bsC, un, most, callsOf, seval, Int.reducePow, ↓reduceIte, Nat.reduceEqDiff, reduceCtorEq]
          refine step ⟨hbb.1 rfl, fun h => hid⟩ _ _ ?_ ?_ ?_ ?_
          · simp only [h0, sg_set, Nat.reduceEqDiff, ↓reduceIte]
          · simp only [h5, sg_set, Nat.reduceEqDiff, ↓reduceIte]
          · simp only [h6, sg_set, Nat.reduceEqDiff, ↓reduceIte]
          · simp only [sg_set, Nat.reduceEqDiff, ↓reduceIte]
        · have c3 : (l.getD i feat0).id ≤ (l.getD (i - 1) feat0).id := by omega
          simp only [c3, RX, VOp.fresh, bxC, bsC, un, most, callsOf, seval, Int.reducePow, ↓reduceIte, Nat.reduceEqDiff, reduceCtorEq]
          exact hR (no fun h => hid (h.2 (by omega))) _ _ (by simp only [sg_set, Nat.reduceEqDiff, ↓reduceIte])
theorem rising_pu (g : Pg P tab) {l : List Feat} {v : AV} (hv : IsL 40 RFeat v l) : Pu P 112 [v] (IsB (featsOk l)) := by
  refine g.pu (vf := v112) rfl rfl ?_
  simp only [v112, hv.len, RX, VOp.fresh, bxC, bsC, un, most, callsOf, seval, Int.reducePow, ↓reduceIte, Nat.reduceEqDiff, reduceCtorEq]
  refine rising_loop g hv l.length 0 _ _ _ _ (by omega) ?_ ?_ ?_ ?_ ?_ ?_
  · simp only [sg_set, Nat.reduceEqDiff, ↓reduceIte]
  · simp only [sg_set, Nat.reduceEqDiff, ↓reduceIte]
  · simp only [sg_set, Nat.reduceEqDiff, ↓reduceIte]
  · simp only [sg_set, Nat.reduceEqDiff, ↓reduceIte]
    rfl
  · intro h s' h'
    simp only [RX, VOp.fresh, bxC, bsC, un, most, callsOf, seval, Int.reducePow, ↓reduceIte, Nat.reduceEqDiff, reduceCtorEq]
    exact fun i hi => h i (by omega) hi
  · intro h s' h' h2
    simp only [h2, RX, VOp.fresh, bxC, bsC, un, most, callsOf, seval, Int.reducePow, ↓reduceIte, Nat.reduceEqDiff, reduceCtorEq]
    exact fun hok => h fun j _ hj => hok j hj
end
structure Ms where
  kind : Int
  frm : Int
  to : Int
  node : Int
  seq : Int
  base : Int
  yes : Bool
  query : Int
  applied : Int
  busy : Bool
  box : Bx
  ops : List Op
  fs : List Feat
def msC (m : Ms) (a u : AV) : List AV := [.int .i64 m.kind, .int .i64 m.frm, .int .i64 m.to, .int .i64 m.node, .int .i64 m.seq, .int .i64 m.base, .bool m.yes, .int .i64 m.query, .int .i64 m.applied, .bool m.busy, .int .i64 m.box.x0, .int .i64 m.box.y0, .int .i64 m.box.x1, .int .i64 m.box.y1, a, u]
def zeroBox (b : Bx) : Prop := b.x0 = 0 ∧ b.y0 = 0 ∧ b.x1 = 0 ∧ b.y1 = 0
instance (b : Bx) : Decidable (zeroBox b) := by unfold zeroBox; infer_instance
def kTx (k : Int) : Bool := decide (0 ≤ k ∧ k ≤ 4)
def kOps (k : Int) : Bool := decide (k = 0)
def kYes (k : Int) : Bool := decide (k = 1 ∨ k = 2)
def kQuery (k : Int) : Bool := decide (k = 5 ∨ k = 6)
def kPart (k : Int) : Bool := decide (k = 6)
def rowV (k : Int) : AV := .agg [.bool (kTx k), .bool (kOps k), .bool (kYes k), .bool (kQuery k), .bool (kPart k)]
def opsM (m : Ms) : Prop := if kOps m.kind = true then (-1 ≤ m.base ∧ m.base ≤ 65535) ∧ opsOk 8 m.ops else m.base = 0 ∧ m.ops = []
def queryM (m : Ms) : Prop := if kQuery m.kind = true then (1 ≤ m.query ∧ m.query ≤ 65535) ∧ boxOk m.box else m.query = 0 ∧ zeroBox m.box
def partM (m : Ms) : Prop := if kPart m.kind = true then (0 ≤ m.applied ∧ m.applied ≤ 2147483647) ∧ m.fs.length ≤ 256 ∧ (m.busy = true → m.fs = []) ∧ featsOk m.fs else m.applied = 0 ∧ m.busy = false ∧ m.fs = []
def txM (m : Ms) : Prop := if kTx m.kind = true then txOk m.node m.seq else m.node = 0 ∧ m.seq = 0
def msOk (m : Ms) : Prop := (0 ≤ m.kind ∧ m.kind ≤ 6) ∧ nodeOk m.frm ∧ nodeOk m.to ∧ txM m ∧ (kYes m.kind = true ∨ m.yes = false) ∧ opsM m ∧ queryM m ∧ partM m
section
variable {P : Program}
theorem rowOf_pu (g : Pg P tab) (k : Int) : Pu P 77 [.int .i64 k] (fun v => v = .tup [rowV k, .bool (decide (0 ≤ k ∧ k ≤ 6))]) := by
  have h : (k = 0 ∨ k = 1 ∨ k = 2 ∨ k = 3 ∨ k = 4 ∨ k = 5 ∨ k = 6) ∨ (k ≠ 0 ∧ k ≠ 1 ∧ k ≠ 2 ∧ k ≠ 3 ∧ k ≠ 4 ∧ k ≠ 5 ∧ k ≠ 6) := by omega
  rcases h with h | ⟨h0, h1, h2, h3, h4, h5, h6⟩
  · rcases h with rfl | rfl | rfl | rfl | rfl | rfl | rfl <;> (refine g.pu (vf := v77) rfl rfl ?_; simp only [v77, RW, RX, VOp.fresh, bxC, bsC, un, most, callsOf, seval, Int.reducePow, ↓reduceIte, Nat.reduceEqDiff, reduceCtorEq]; exact ⟨_, .tup (.cons (.agg (.cons (.bool _) (.cons (.bool _) (.cons (.bool _) (.cons (.bool _) (.cons (.bool _) .nil)))))) (.cons (.bool _) .nil)), rfl⟩)
  · refine g.pu (vf := v77) rfl rfl ?_
    simp only [v77, RW, h0, h1, h2, h3, h4, h5, h6, RX, VOp.fresh, bxC, bsC, un, most, callsOf, seval, Int.reducePow, ↓reduceIte, Nat.reduceEqDiff, reduceCtorEq]
    refine ⟨_, .tup (.cons (.agg (.cons (.bool _) (.cons (.bool _) (.cons (.bool _) (.cons (.bool _) (.cons (.bool _) .nil)))))) (.cons (.bool _) .nil)), ?_⟩
    have n1 : ¬ (0 ≤ k ∧ k ≤ 6) := by omega
    have n2 : ¬ (0 ≤ k ∧ k ≤ 4) := by omega
    simp only [rowV, kTx, kOps, kYes, kQuery, kPart, h0, h1, h2, h5, h6, n1, n2, or_self, decide_false]
variable {m : Ms} {a u : AV} {t : List AV}
theorem opsMayM_pu (g : Pg P tab) (ha : IsL 112 ROp a m.ops) (tx yes q pt : Bool) : Pu P 99 [.agg [.bool tx, .bool (kOps m.kind), .bool yes, .bool q, .bool pt], .rp (msC m a u ++ t)] (IsB (opsM m)) := by
  refine g.pu (vf := v99) rfl rfl ?_
  unfold opsM
  cases kOps m.kind with
  | false =>
    simp only [v99, msC, ha.len, RX, VOp.fresh, bxC, bsC, un, most, callsOf, seval, Int.reducePow, ↓reduceIte, Nat.reduceEqDiff, reduceCtorEq]
    by_cases h1 : m.base = 0
    · simp only [h1, ha.len, len0, RX, VOp.fresh, bxC, bsC, un, most, callsOf, seval, Int.reducePow, ↓reduceIte, Nat.reduceEqDiff, reduceCtorEq]
    · simp only [h1, RX, VOp.fresh, bxC, bsC, un, most, callsOf, seval, Int.reducePow, ↓reduceIte, Nat.reduceEqDiff, reduceCtorEq]
  | true =>
    simp only [v99, msC, RX, VOp.fresh, bxC, bsC, un, most, callsOf, seval, Int.reducePow, ↓reduceIte, Nat.reduceEqDiff, reduceCtorEq]
    refine (baseMay_pu g _).go rfl ?_
    rintro v rfl
    by_cases h1 : -1 ≤ m.base ∧ m.base ≤ 65535
    · simp only [h1, RX, VOp.fresh, bxC, bsC, un, most, callsOf, seval, Int.reducePow, ↓reduceIte, Nat.reduceEqDiff, reduceCtorEq]
      refine (opsMay_pu g ha).go (by simp [AV.tolds, AV.told, ha.told tOp]) ?_
      rintro v ⟨b, rfl, hb⟩
      simp only [RX, VOp.fresh, bxC, bsC, un, most, callsOf, seval, Int.reducePow, ↓reduceIte, Nat.reduceEqDiff, reduceCtorEq]
      exact hb
    · simp only [h1, RX, VOp.fresh, bxC, bsC, un, most, callsOf, seval, Int.reducePow, ↓reduceIte, Nat.reduceEqDiff, reduceCtorEq]
theorem flat4 {a b c d a' b' c' d' : Int} : eqv (.flat [.int, .int, .int, .int]) (.agg [.int .i64 a, .int .i64 b, .int .i64 c, .int .i64 d]) (.agg [.int .i64 a', .int .i64 b', .int .i64 c', .int .i64 d']) = some (decide (a = a' ∧ b = b' ∧ c = c' ∧ d = d')) := by
  by_cases h1 : a = a' <;> by_cases h2 : b = b' <;> by_cases h3 : c = c' <;> by_cases h4 : d = d' <;> simp [eqv, sameCells, sameK, h1, h2, h3, h4]
theorem queryMayM_pu (g : Pg P tab) (tx ops yes pt : Bool) : Pu P 100 [.agg [.bool tx, .bool ops, .bool yes, .bool (kQuery m.kind), .bool pt], .rp (msC m a u ++ t)] (IsB (queryM m)) := by
  refine g.pu (vf := v100) rfl rfl ?_
  unfold queryM
  cases kQuery m.kind with
  | false =>
    simp only [v100, msC, RX, VOp.fresh, bxC, bsC, un, most, callsOf, seval, Int.reducePow, ↓reduceIte, Nat.reduceEqDiff, reduceCtorEq]
    by_cases h1 : m.query = 0
    · simp only [h1, flat4, zeroBox, RX, VOp.fresh, bxC, bsC, un, most, callsOf, seval, Int.reducePow, ↓reduceIte, Nat.reduceEqDiff, reduceCtorEq]
    · simp only [h1, RX, VOp.fresh, bxC, bsC, un, most, callsOf, seval, Int.reducePow, ↓reduceIte, Nat.reduceEqDiff, reduceCtorEq]
  | true =>
    simp only [v100, msC, RX, VOp.fresh, bxC, bsC, un, most, callsOf, seval, Int.reducePow, ↓reduceIte, Nat.reduceEqDiff, reduceCtorEq]
    by_cases h1 : 1 ≤ m.query
    · simp only [h1, RX, VOp.fresh, bxC, bsC, un, most, callsOf, seval, Int.reducePow, ↓reduceIte, Nat.reduceEqDiff, reduceCtorEq]
      by_cases h2 : m.query ≤ 65535
      · simp only [h2, RX, VOp.fresh, bxC, bsC, un, most, callsOf, seval, Int.reducePow, ↓reduceIte, Nat.reduceEqDiff, reduceCtorEq]
        refine (boxMay_pu g m.box).go rfl ?_
        rintro v rfl
        simp only [RX, VOp.fresh, bxC, bsC, un, most, callsOf, seval, Int.reducePow, ↓reduceIte, Nat.reduceEqDiff, reduceCtorEq]
      · simp only [h2, RX, VOp.fresh, bxC, bsC, un, most, callsOf, seval, Int.reducePow, ↓reduceIte, Nat.reduceEqDiff, reduceCtorEq]
    · simp only [h1, RX, VOp.fresh, bxC, bsC, un, most, callsOf, seval, Int.reducePow, ↓reduceIte, Nat.reduceEqDiff, reduceCtorEq]
theorem partMayM_pu (g : Pg P tab) (hu : IsL 40 RFeat u m.fs) (tx ops yes q : Bool) : Pu P 101 [.agg [.bool tx, .bool ops, .bool yes, .bool q, .bool (kPart m.kind)], .rp (msC m a u ++ t)] (IsB (partM m)) := by
  refine g.pu (vf := v101) rfl rfl ?_
  unfold partM
  have hcl : ((m.fs.length : Int) ≤ 256) = (m.fs.length ≤ 256) := by rw [eq_iff_iff]; omega
  cases kPart m.kind with
  | false =>
    cases hb : m.busy <;> simp only [v101, msC, hb, hu.len, RX, VOp.fresh, bxC, bsC, un, most, callsOf, seval, Int.reducePow, ↓reduceIte, Nat.reduceEqDiff, reduceCtorEq] <;> by_cases h1 : m.applied = 0 <;> simp only [h1, hu.len, len0, hb, RX, VOp.fresh, bxC, bsC, un, most, callsOf, seval, Int.reducePow, ↓reduceIte, Nat.reduceEqDiff, reduceCtorEq]
  | true =>
    cases hb : m.busy with
    | false =>
      simp only [v101, msC, hb, hu.len, RX, VOp.fresh, bxC, bsC, un, most, callsOf, seval, Int.reducePow, ↓reduceIte, Nat.reduceEqDiff, reduceCtorEq]
      by_cases h1 : 0 ≤ m.applied
      · by_cases h2 : m.applied ≤ 2147483647
        · by_cases h3 : m.fs.length ≤ 256
          · simp only [h1, h2, h3, hcl, hu.len, len0, hb, RX, VOp.fresh, bxC, bsC, un, most, callsOf, seval, Int.reducePow, ↓reduceIte, Nat.reduceEqDiff, reduceCtorEq]
            refine (rising_pu g hu).go (by simp [AV.tolds, AV.told, hu.told tFeat]) ?_
            rintro v ⟨b, rfl, hb⟩
            simp only [RX, VOp.fresh, bxC, bsC, un, most, callsOf, seval, Int.reducePow, ↓reduceIte, Nat.reduceEqDiff, reduceCtorEq]
            exact hb
          · simp only [h1, h2, h3, hcl, hu.len, RX, VOp.fresh, bxC, bsC, un, most, callsOf, seval, Int.reducePow, ↓reduceIte, Nat.reduceEqDiff, reduceCtorEq]
        · simp only [h1, h2, RX, VOp.fresh, bxC, bsC, un, most, callsOf, seval, Int.reducePow, ↓reduceIte, Nat.reduceEqDiff, reduceCtorEq]
      · simp only [h1, RX, VOp.fresh, bxC, bsC, un, most, callsOf, seval, Int.reducePow, ↓reduceIte, Nat.reduceEqDiff, reduceCtorEq]
    | true =>
      simp only [v101, msC, hb, hu.len, RX, VOp.fresh, bxC, bsC, un, most, callsOf, seval, Int.reducePow, ↓reduceIte, Nat.reduceEqDiff, reduceCtorEq]
      by_cases h1 : 0 ≤ m.applied
      · by_cases h2 : m.applied ≤ 2147483647
        · by_cases h3 : m.fs.length ≤ 256
          · by_cases h4 : m.fs = []
            · simp only [h1, h2, h3, hcl, hu.len, len0, hb, h4, RX, VOp.fresh, bxC, bsC, un, most, callsOf, seval, Int.reducePow, ↓reduceIte, Nat.reduceEqDiff, reduceCtorEq]
              rw [h4] at hu
              refine (rising_pu g hu).go (by simp [AV.tolds, AV.told, hu.told tFeat]) ?_
              rintro v ⟨b, rfl, hb⟩
              simp only [RX, VOp.fresh, bxC, bsC, un, most, callsOf, seval, Int.reducePow, ↓reduceIte, Nat.reduceEqDiff, reduceCtorEq]
              exact hb
            · simp only [h1, h2, h3, hcl, hu.len, len0, hb, h4, RX, VOp.fresh, bxC, bsC, un, most, callsOf, seval, Int.reducePow, ↓reduceIte, Nat.reduceEqDiff, reduceCtorEq]
          · simp only [h1, h2, h3, hcl, hu.len, RX, VOp.fresh, bxC, bsC, un, most, callsOf, seval, Int.reducePow, ↓reduceIte, Nat.reduceEqDiff, reduceCtorEq]
        · simp only [h1, h2, RX, VOp.fresh, bxC, bsC, un, most, callsOf, seval, Int.reducePow, ↓reduceIte, Nat.reduceEqDiff, reduceCtorEq]
      · simp only [h1, RX, VOp.fresh, bxC, bsC, un, most, callsOf, seval, Int.reducePow, ↓reduceIte, Nat.reduceEqDiff, reduceCtorEq]
theorem Pu.bool {f : Nat} {args : List AV} {p : Prop} (q : Pu P f args (IsB p)) (ha : AV.tolds args = true) : ∃ b : Bool, (∀ h, OK P f args h (.bool b) h) ∧ (b = true ↔ p) := by
  obtain ⟨v, v', h0, o, hf, b, rfl, hb⟩ := q
  exact ⟨b, fun h => o.pure (Fzs.refl ha) hf, hb⟩
def nodeAns : List AV → AV
  | [.int _ x] => .bool (decide (nodeOk x))
  | _ => .undef
def cMay (b1 b2 b3 : Bool) (f : Nat) (args : List AV) (h : Heap) : AV × Heap := (if f = 98 then nodeAns args else if f = 99 then .bool b1 else if f = 100 then .bool b2 else .bool b3, h)
theorem tolds_ms (ha : IsL 112 ROp a m.ops) (hu : IsL 40 RFeat u m.fs) : AV.tolds (msC m a u) = true := by
  simp [msC, AV.tolds, AV.told, ha.told tOp, hu.told tFeat]
open Classical in
theorem may_pu (g : Pg P tab) (ha : IsL 112 ROp a m.ops) (hu : IsL 40 RFeat u m.fs) (ht : AV.tolds t = true) : Pu P 71 [.rp (msC m a u ++ t)] (fun v => ∃ b : Bool, v = .tup [rowV m.kind, .bool b] ∧ (b = true ↔ msOk m)) := by
  refine g.pu (vf := v71) rfl rfl ?_
  have hm : AV.tolds (msC m a u ++ t) = true := by rw [Cat.told.tolds_append, tolds_ms ha hu, ht]; rfl
  have tr : ∀ k : Int, AV.told (rowV k) = true := fun k => rfl
  have tp : AV.tolds [rowV m.kind, .rp (msC m a u ++ t)] = true := by
    show (AV.told (rowV m.kind) && (AV.tolds (msC m a u ++ t) && true)) = true
    rw [hm, tr]; rfl
  obtain ⟨b1, o1, e1⟩ := (opsMayM_pu g (u := u) (t := t) ha (kTx m.kind) (kYes m.kind) (kQuery m.kind) (kPart m.kind)).bool tp
  obtain ⟨b2, o2, e2⟩ := (queryMayM_pu g (m := m) (a := a) (u := u) (t := t) (kTx m.kind) (kOps m.kind) (kYes m.kind) (kPart m.kind)).bool tp
  obtain ⟨b3, o3, e3⟩ := (partMayM_pu g (a := a) (t := t) hu (kTx m.kind) (kOps m.kind) (kYes m.kind) (kQuery m.kind)).bool tp
  obtain rfl : b1 = decide (opsM m) := by rw [Bool.eq_iff_iff, e1, decide_eq_true_iff]
  obtain rfl : b2 = decide (queryM m) := by rw [Bool.eq_iff_iff, e2, decide_eq_true_iff]
  obtain rfl : b3 = decide (partM m) := by rw [Bool.eq_iff_iff, e3, decide_eq_true_iff]
  have o4 : ∀ x h, OK P 98 [.int .i64 x] h (.bool (decide (nodeOk x))) h := fun x h => (node_pu g x).exact rfl
  have e4 : txM m ↔ (if kTx m.kind = true then txOk m.node m.seq else m.node = 0 ∧ m.seq = 0) := Iff.rfl
  have goal : ∀ b : Bool, (b = true ↔ msOk m) → Tl ⟨0, .e⟩ (.tup [rowV m.kind, .bool b]) (fun v => ∃ b : Bool, v = .tup [rowV m.kind, .bool b] ∧ (b = true ↔ msOk m)) := fun b hb => ⟨_, .tup (.cons (.agg (.cons (.bool _) (.cons (.bool _) (.cons (.bool _) (.cons (.bool _) (.cons (.bool _) .nil)))))) (.cons (.bool _) .nil)), b, rfl, hb⟩
  simp only [v71, msC, RX, VOp.fresh, bxC, bsC, un, most, callsOf, seval, Int.reducePow, ↓reduceIte, Nat.reduceEqDiff, reduceCtorEq]
  refine (rowOf_pu g m.kind).go rfl ?_
  rintro v rfl
  rw [rowV] at *
  simp only [RW, flat2, RX, VOp.fresh, bxC, bsC, un, most, callsOf, seval, Int.reducePow, ↓reduceIte, Nat.reduceEqDiff, reduceCtorEq]
  refine (nameMay_pu g _ _).go rfl ?_
  rintro v rfl
  rw [msC] at *
  unfold msOk at goal
  have eT : (if kTx m.kind = true then (0 ≤ m.node ∧ m.node < 8 ∧ 1 ≤ m.seq ∧ m.seq ≤ 65535) else (m.node = 0 ∧ m.seq = 0)) = txM m := rfl
  have tell : ∀ {h : Heap} {b : Bool} {R : AV → Prop}, R (.tup [.agg [.bool (kTx m.kind), .bool (kOps m.kind), .bool (kYes m.kind), .bool (kQuery m.kind), .bool (kPart m.kind)], .bool b]) → Tl h (.tup [.agg [.bool (kTx m.kind), .bool (kOps m.kind), .bool (kYes m.kind), .bool (kQuery m.kind), .bool (kPart m.kind)], .bool b]) R := fun r => ⟨_, .tup (.cons (.agg (.cons (.bool _) (.cons (.bool _) (.cons (.bool _) (.cons (.bool _) (.cons (.bool _) .nil)))))) (.cons (.bool _) .nil)), r⟩
  clear goal tr tp hm e1 e2 e3 e4
  simp only [List.cons_append, List.nil_append, msC] at o1 o2 o3
  unfold msOk
  generalize txM m = T at *
  generalize opsM m = A at *
  generalize queryM m = B at *
  generalize partM m = C at *
  cases hk : kTx m.kind <;> cases hy : kYes m.kind <;> cases hv : m.yes <;> simp only [hk, hy, hv, Bool.false_eq_true, if_true, if_false] at o1 o2 o3 eT tell <;> simp only [hk, hy, hv, Bool.false_eq_true, false_or, true_or, true_and, reduceCtorEq, and_false, false_and, iff_false, or_false, or_true, Bool.not_eq_true]
  all_goals
    simp only [hk, hv, RW, flat2, eT, RX, VOp.fresh, bxC, bsC, un, most, callsOf, seval, Int.reducePow, ↓reduceIte, Nat.reduceEqDiff, reduceCtorEq]
    refine EvD.sameN 45 (cMay (decide A) (decide B) (decide C)) rfl ?_
    simp +contextual (maxSteps := 2000000) only [hk, hy, hv, RW, flat2, cMay, nodeAns, o1, o2, o3, o4, eT, RX, VOp.fresh, bxC, bsC, un, most, callsOf, seval, Int.reducePow, ↓reduceIte, Nat.reduceEqDiff, reduceCtorEq]
  all_goals
    repeat' (first | apply And.intro | intro _)
    all_goals
      refine tell ?_
      refine ⟨_, rfl, ?_⟩
      simp only [decide_eq_true_eq, *, and_self, true_and, false_and, and_true, and_false, Bool.false_eq_true, reduceCtorEq, iff_self, not_true_eq_false, not_false_eq_true]
end
end Go.Proofs.Ytinonmcnofjeeaa.VM
namespace Go.Proofs.Ytinonmcnofjeeaa.VM
attribute [local irreducible] Af Nx EvO Ev Un Gd Cd EvR EvQ EvC Nc Gc Lp EvM NxM AfM GdM EvMR EvMQ EvMD EvMC Nm Gm
section
variable {P : Program} {m : Ms} {a u : AV}
theorem msgPut_bad (g : Pg P tab) (ha : IsL 112 ROp a m.ops) (hu : IsL 40 RFeat u m.fs) (hn : ¬ msOk m) : Pu P 25 [.agg (msC m a u)] (fun v => v = .tup [.str [], .int .i64 1600]) := by
  refine g.pu (vf := v25) rfl rfl ?_
  have hm := may_pu g ha hu (t := []) rfl
  rw [List.append_nil] at hm
  have ht := tolds_ms ha hu
  generalize msC m a u = c at hm ht
  simp only [v25, RX, VOp.fresh, bxC, bsC, un, most, callsOf, seval, Int.reducePow, ↓reduceIte, Nat.reduceEqDiff, reduceCtorEq]
  have hf : Fzs true (({ next := 0, t := T.e } : Heap).mk' 0 (.cells c 63 0)) [.ptr 0 0] [.rp c] := .cons (.ptr (by rw [Heap.get_mk, if_pos rfl]) (Fzs.refl ht)) .nil
  refine hm.cl hf ?_
  rintro x ⟨b, rfl, hb⟩
  cases b
  · rw [rowV]
    simp only [RW, RX, VOp.fresh, bxC, bsC, un, most, callsOf, seval, Int.reducePow, ↓reduceIte, Nat.reduceEqDiff, reduceCtorEq]
  · exact absurd (hb.1 rfl) hn
end
end Go.Proofs.Ytinonmcnofjeeaa.VM
namespace Go.Proofs.Ytinonmcnofjeeaa.VM
attribute [local irreducible] Af Nx EvO Ev Un Gd Cd EvR EvQ EvC Nc Gc Lp EvM NxM AfM GdM EvMR EvMQ EvMD EvMC Nm Gm
def boxB (b : Bx) : List Nat := numB b.x0 4 ++ (numB b.y0 4 ++ (numB b.x1 4 ++ numB b.y1 4))
def fsB (l : List Feat) : List Nat := numB l.length 2 ++ (l.map featB).flatten
theorem boxB_len (b : Bx) : (boxB b).length = 16 := by simp only [boxB, List.length_append, numB_len]
theorem By.box (b : Bx) : By (boxB b) := (By.num _ _).app ((By.num _ _).app ((By.num _ _).app (By.num _ _)))
theorem By.fs (l : List Feat) : By (fsB l) := (By.num _ _).app (By.flat By.feat)
theorem getD_feat {l : List Feat} {i : Nat} (hi : i < l.length) : l.getD i feat0 = l[i] := by simp [List.getD_eq_getElem?_getD, List.getElem?_eq_getElem hi]
section
variable {P : Program}
theorem wbox (g : Pg P tab) (b4 : Bx) {K : List (Nat × Blk)} {h : Heap} {b : Nat} {s : List Nat} (w : WR K h b s)
    (hl : s.length ≤ 1000000) {Q : AV → Heap → Prop} (q : ∀ v h', WR K h' b (s ++ boxB b4) → Q v h') : Cl P 72 [.ptr b 0, .agg (boxV b4)] h Q := by
  refine g.cl (vf := v72) rfl rfl ?_
  obtain ⟨x0, y0, x1, y1⟩ := b4
  have w0 := w.add (.cells [.int .i64 x0, .int .i64 y0, .int .i64 x1, .int .i64 y1] 60 0)
  simp only [v72, boxV, RX, VOp.fresh, bxC, bsC, un, most, callsOf, seval, Int.reducePow, ↓reduceIte, Nat.reduceEqDiff, reduceCtorEq]
  refine g.lpe b72_0.eq_1 ?_
  simp only [RX, VOp.fresh, bxC, bsC, un, most, callsOf, seval, Int.reducePow, ↓reduceIte, Nat.reduceEqDiff, reduceCtorEq]
  refine wnum (n := 4) g (num4_pu g _) (by decide) w0 (by omega) fun _ h1 w1 => ?_
  simp only [RX, VOp.fresh, bxC, bsC, un, most, callsOf, seval, Int.reducePow, ↓reduceIte, Nat.reduceEqDiff, reduceCtorEq]
  refine g.lpe b72_0.eq_1 ?_
  simp only [RX, VOp.fresh, bxC, bsC, un, most, callsOf, seval, Int.reducePow, ↓reduceIte, Nat.reduceEqDiff, reduceCtorEq]
  refine wnum (n := 4) g (num4_pu g _) (by decide) w1 (by simp only [List.length_append, numB_len]; omega) fun _ h2 w2 => ?_
  simp only [RX, VOp.fresh, bxC, bsC, un, most, callsOf, seval, Int.reducePow, ↓reduceIte, Nat.reduceEqDiff, reduceCtorEq]
  refine g.lpe b72_0.eq_1 ?_
  simp only [RX, VOp.fresh, bxC, bsC, un, most, callsOf, seval, Int.reducePow, ↓reduceIte, Nat.reduceEqDiff, reduceCtorEq]
  refine wnum (n := 4) g (num4_pu g _) (by decide) w2 (by simp only [List.length_append, numB_len]; omega) fun _ h3 w3 => ?_
  simp only [RX, VOp.fresh, bxC, bsC, un, most, callsOf, seval, Int.reducePow, ↓reduceIte, Nat.reduceEqDiff, reduceCtorEq]
  refine g.lpe b72_0.eq_1 ?_
  simp only [RX, VOp.fresh, bxC, bsC, un, most, callsOf, seval, Int.reducePow, ↓reduceIte, Nat.reduceEqDiff, reduceCtorEq]
  refine wnum (n := 4) g (num4_pu g _) (by decide) w3 (by simp only [List.length_append, numB_len]; omega) fun _ h4 w4 => ?_
  simp only [RX, VOp.fresh, bxC, bsC, un, most, callsOf, seval, Int.reducePow, ↓reduceIte, Nat.reduceEqDiff, reduceCtorEq]
  refine g.lpe b72_0.eq_1 ?_
  simp only [RX, VOp.fresh, bxC, bsC, un, most, callsOf, seval, Int.reducePow, ↓reduceIte, Nat.reduceEqDiff, reduceCtorEq]
  refine q _ _ ?_
  have := w4.less
  simpa only [boxB, List.append_assoc] using this
theorem wfs (g : Pg P tab) {m : Ms} {a u : AV} (hu : IsL 40 RFeat u m.fs) (hs : ∀ f ∈ m.fs, featSmall f) (hl : m.fs.length ≤ 1000) {K : List (Nat × Blk)} {e : TypeId} {ver : Nat} (hm : ((0, .cells (msC m a u) e ver) : Nat × Blk) ∈ K) {b : Nat} (acc : List Nat) (hacc : acc.length ≤ 10000) (n : Nat) :
    ∀ (i : Nat) (s : T AV) (h : Heap) (k : List Fr) (Q : Ex → T AV → Heap → Prop), i + n = m.fs.length → WR K h b (acc ++ ((m.fs.take i).map featB).flatten) → sg s 1 = .ptr 0 0 → sg s 6 = .ptr b 0 → sg s 81 = .int .i64 m.fs.length → sg s 82 = .int .i64 i →
      (∀ s' h', WR K h' b (acc ++ (m.fs.map featB).flatten) → sg s' 6 = .ptr b 0 → Un P k Q (.exit 2) s' h') → Lp P b25_1 s h (Un P k Q) := by
  induction n with
  | zero =>
    intro i s h k Q hi w h1 h6 h81 h82 hK
    refine g.lpe b25_1.eq_1 ?_
    have c1 : ¬ ((i : Int) < (m.fs.length : Int)) := by omega
    simp only [h81, h82, c1, RX, VOp.fresh, bxC, bsC, un, most, callsOf, seval, Int.reducePow, ↓reduceIte, Nat.reduceEqDiff, reduceCtorEq]
    rw [List.take_of_length_le (by omega)] at w
    refine hK _ _ w ?_
    · simp only [h6, sg_set, Nat.reduceEqDiff, ↓reduceIte]
  | succ n ih =>
    intro i s h k Q hi w h1 h6 h81 h82 hK
    refine g.lpe b25_1.eq_1 ?_
    have c1 : (i : Int) < (m.fs.length : Int) := by omega
    obtain ⟨rv, r1, hrv, _, _, _, g1⟩ := getFeat hu i (by omega)
    have w1 : IntKind.i64.wrap ((i : Int) + 1) = ((i + 1 : Nat) : Int) := by rw [w64 (by omega) (by omega)]; push_cast; rfl
    have hlt : (acc ++ ((m.fs.take i).map featB).flatten).length ≤ 100000000000 := by
      have := flat_lenT (F := featB) (B := 9000000) (l := m.fs) (fun x hx => featB_len (hs x hx)) i
      rw [List.length_append]
      have : m.fs.length * 9000000 ≤ 1000 * 9000000 := Nat.mul_le_mul_right _ hl
      omega
    have hk := (w.keep _ hm).2.2
    simp only [msC] at hk
    simp only [h1, h6, h81, h82, c1, hk, g1, RX, VOp.fresh, bxC, bsC, un, most, callsOf, seval, Int.reducePow, ↓reduceIte, Nat.reduceEqDiff, reduceCtorEq]
    refine wfeat g hrv (by rw [getD_feat (by omega)]; exact hs _ (List.getElem_mem _)) w hlt fun v h' w' => ?_
    simp only [h82, w1, RX, VOp.fresh, bxC, bsC, un, most, callsOf, seval, Int.reducePow, ↓reduceIte, Nat.reduceEqDiff, reduceCtorEq]
    rw [List.append_assoc, getD_feat (by omega), flat_take featB m.fs i (by omega)] at w'
    refine ih (i + 1) _ h' k Q (by omega) w' ?_ ?_ ?_ ?_ hK
    · simp only [h1, sg_set, Nat.reduceEqDiff, ↓reduceIte]
    · simp only [h6, sg_set, Nat.reduceEqDiff, ↓reduceIte]
    · simp only [h81, sg_set, Nat.reduceEqDiff, ↓reduceIte]
    · simp only [sg_set, Nat.reduceEqDiff, ↓reduceIte]
end
end Go.Proofs.Ytinonmcnofjeeaa.VM
namespace Go.Proofs.Ytinonmcnofjeeaa.VM
attribute [local irreducible] Af Nx EvO Ev Un Gd Cd EvR EvQ EvC Nc Gc Lp EvM NxM AfM GdM EvMR EvMQ EvMD EvMC Nm Gm
def msB (m : Ms) : List Nat := 77 :: 83 :: (numB m.kind 1 ++ (numB m.frm 1 ++ (numB m.to 1 ++ ((if kTx m.kind = true then txB m.node m.seq else []) ++ ((if kOps m.kind = true then numB (m.base + 1) 4 ++ opsB m.ops else []) ++
  ((if kYes m.kind = true then bitB m.yes else []) ++ ((if kQuery m.kind = true then numB m.query 2 ++ boxB m.box else []) ++ (if kPart m.kind = true then numB m.applied 4 ++ (bitB m.busy ++ fsB m.fs) else []))))))))
theorem By.ms (m : Ms) : By (msB m) := by
  have one : ∀ (b : Bool) (x : List Nat), By x → By (if b = true then x else []) := fun b x h => by split; exact h; exact By.nil
  have h2 : By [77, 83] := fun n hn => by simp at hn; omega
  have := h2.app ((By.num m.kind 1).app ((By.num m.frm 1).app ((By.num m.to 1).app ((one (kTx m.kind) _ ((By.num m.node 1).app (By.num m.seq 2))).app ((one (kOps m.kind) _ ((By.num (m.base + 1) 4).app (By.ops m.ops))).app
    ((one (kYes m.kind) _ (By.num (if m.yes then 1 else 0) 1)).app ((one (kQuery m.kind) _ ((By.num m.query 2).app (By.box m.box))).app (one (kPart m.kind) _ ((By.num m.applied 4).app ((By.num (if m.busy then 1 else 0) 1).app (By.fs m.fs)))))))))))
  exact this
theorem msB_ne (m : Ms) : msB m ≠ [] := by rw [msB]; simp
/-- what is written of a message -/
def msAns (m : Ms) : AV := if (msB m).length ≤ 16384 then .tup [.str (msB m), .int .i64 0] else .tup [.str [], .int .i64 1600]
theorem fsSmall {l : List Feat} (h : featsOk l) : ∀ f ∈ l, featSmall f := by
  intro f hf
  obtain ⟨i, hi, rfl⟩ := List.mem_iff_getElem.1 hf
  rw [← getD_feat hi]
  exact featOk_small (h i hi).1
section
variable {P : Program} {m : Ms} {a u : AV}
theorem msgPut_good (g : Pg P tab) (ha : IsL 112 ROp a m.ops) (hu : IsL 40 RFeat u m.fs) (ok : msOk m) : Pu P 25 [.agg (msC m a u)] (fun v => v = msAns m) := by
  refine g.pu (vf := v25) rfl rfl ?_
  have hm := may_pu g ha hu (t := []) rfl
  rw [List.append_nil] at hm
  have ht := tolds_ms ha hu
  generalize hc : msC m a u = c at hm ht ⊢
  simp only [v25, RX, VOp.fresh, bxC, bsC, un, most, callsOf, seval, Int.reducePow, ↓reduceIte, Nat.reduceEqDiff, reduceCtorEq]
  have hf : Fzs true (({ next := 0, t := T.e } : Heap).mk' 0 (.cells c 63 0)) [.ptr 0 0] [.rp c] := .cons (.ptr (by rw [Heap.get_mk, if_pos rfl]) (Fzs.refl ht)) .nil
  refine hm.cl hf ?_
  rintro x ⟨b, rfl, hb⟩
  cases b
  · exact absurd (hb.2 ok) (by simp)
  clear hm hf hb
  obtain ⟨⟨hk0, hk6⟩, hfr, hto, htx, hy, hops, hq, hpt⟩ := ok

  have head : ∀ {H : Heap} {s : T AV} {k : List Fr} {Q : Ex → T AV → Heap → Prop} {row : List AV}, H.next = 4 → H.get 3 = some (.cells [.sl 2 0 2 2 1] 103 0) → H.get 2 = some (.cells [.int .u8 77, .int .u8 83] 5 0) → H.get 1 = some (.cells row 132 1) → H.get 0 = some (.cells c 63 0) →
      sg s 26 = .agg [.int .i64 m.kind, .int .i64 m.frm, .int .i64 m.to] → sg s 27 = .int .i64 0 → sg s 6 = .ptr 3 0 → sg s 1 = .ptr 0 0 → sg s 4 = .ptr 1 0 →
      (∀ s' h', WR [(1, .cells row 132 1), (0, .cells c 63 0)] h' 3 (77 :: 83 :: (numB m.kind 1 ++ (numB m.frm 1 ++ numB m.to 1))) → sg s' 1 = .ptr 0 0 → sg s' 4 = .ptr 1 0 → sg s' 6 = .ptr 3 0 → Un P k Q (.exit 0) s' h') → Lp P b25_0 s H (Un P k Q) := by
    intro H s k Q row hn g3 g2 g1 g0 a26 a27 a6 a1 a4 hK
    have w0 : WR [(1, .cells row 132 1), (0, .cells c 63 0)] H 3 [77, 83] := by
      refine ⟨by omega, ⟨_, _, _, g3, .inr ⟨2, 5, 0, rfl, by omega, by decide, ?_, g2⟩⟩, ?_⟩
      · intro p hp; simp at hp; rcases hp with rfl | rfl <;> simp
      · intro p hp
        simp only [List.mem_cons, List.not_mem_nil, or_false] at hp
        rcases hp with rfl | rfl
        · exact ⟨by simp only; omega, show (1 : Nat) ≠ 3 by decide, g1⟩
        · exact ⟨by simp only; omega, show (0 : Nat) ≠ 3 by decide, g0⟩
    refine g.lpe b25_0.eq_1 ?_
    simp only [a26, a27, a6, a1, a4, RX, VOp.fresh, bxC, bsC, un, most, callsOf, seval, Int.reducePow, ↓reduceIte, Nat.reduceEqDiff, reduceCtorEq]
    refine wnum (n := 1) g (num1_pu g _) (by decide) w0 (by simp) fun _ h1 w1 => ?_
    simp only [a26, a27, a6, a1, a4, RX, VOp.fresh, bxC, bsC, un, most, callsOf, seval, Int.reducePow, ↓reduceIte, Nat.reduceEqDiff, reduceCtorEq]
    refine g.lpe b25_0.eq_1 ?_
    simp only [a26, a27, a6, a1, a4, RX, VOp.fresh, bxC, bsC, un, most, callsOf, seval, Int.reducePow, ↓reduceIte, Nat.reduceEqDiff, reduceCtorEq]
    refine wnum (n := 1) g (num1_pu g _) (by decide) w1 (by simp [numB_len]) fun _ h2 w2 => ?_
    simp only [a26, a27, a6, a1, a4, RX, VOp.fresh, bxC, bsC, un, most, callsOf, seval, Int.reducePow, ↓reduceIte, Nat.reduceEqDiff, reduceCtorEq]
    refine g.lpe b25_0.eq_1 ?_
    simp only [a26, a27, a6, a1, a4, RX, VOp.fresh, bxC, bsC, un, most, callsOf, seval, Int.reducePow, ↓reduceIte, Nat.reduceEqDiff, reduceCtorEq]
    refine wnum (n := 1) g (num1_pu g _) (by decide) w2 (by simp [numB_len]) fun _ h3 w3 => ?_
    simp only [a26, a27, a6, a1, a4, RX, VOp.fresh, bxC, bsC, un, most, callsOf, seval, Int.reducePow, ↓reduceIte, Nat.reduceEqDiff, reduceCtorEq]
    refine g.lpe b25_0.eq_1 ?_
    simp only [a26, a27, a6, a1, a4, RX, VOp.fresh, bxC, bsC, un, most, callsOf, seval, Int.reducePow, ↓reduceIte, Nat.reduceEqDiff, reduceCtorEq]
    refine hK _ _ (by simpa only [List.append_assoc, List.cons_append, List.nil_append] using w3) ?_ ?_ ?_
    · simp only [a1, sg_set, Nat.reduceEqDiff, ↓reduceIte]
    · simp only [a4, sg_set, Nat.reduceEqDiff, ↓reduceIte]
    · simp only [a6, sg_set, Nat.reduceEqDiff, ↓reduceIte]
  rcases (by omega : m.kind = 0 ∨ m.kind = 1 ∨ m.kind = 2 ∨ m.kind = 3 ∨ m.kind = 4 ∨ m.kind = 5 ∨ m.kind = 6) with ek | ek | ek | ek | ek | ek | ek
  · have hrow : rowV m.kind = .agg [.bool true, .bool true, .bool false, .bool false, .bool false] := by rw [ek]; rfl
    have er : msB m = 77 :: 83 :: (numB m.kind 1 ++ (numB m.frm 1 ++ (numB m.to 1 ++ (txB m.node m.seq ++ (numB (m.base + 1) 4 ++ (opsB m.ops)))))) := by
      have d1 : kTx m.kind = true := by rw [ek]; rfl
      have d2 : kOps m.kind = true := by rw [ek]; rfl
      have d3 : kYes m.kind = false := by rw [ek]; rfl
      have d4 : kQuery m.kind = false := by rw [ek]; rfl
      have d5 : kPart m.kind = false := by rw [ek]; rfl
      rw [msB, d1, d2, d3, d4, d5]
      simp only [if_true, Bool.false_eq_true, if_false, List.nil_append, List.append_nil, List.append_assoc]
    simp only [hrow, RW, ← hc, msC, RX, VOp.fresh, bxC, bsC, un, most, callsOf, seval, Int.reducePow, ↓reduceIte, Nat.reduceEqDiff, reduceCtorEq]
    refine head (row := [.bool true, .bool true, .bool false, .bool false, .bool false]) (by rfl) ?_ ?_ ?_ ?_ ?_ ?_ ?_ ?_ ?_ ?_
    · simp only [RX, VOp.fresh, bxC, bsC, un, most, callsOf, seval, Int.reducePow, ↓reduceIte, Nat.reduceEqDiff, reduceCtorEq]
    · simp only [RX, VOp.fresh, bxC, bsC, un, most, callsOf, seval, Int.reducePow, ↓reduceIte, Nat.reduceEqDiff, reduceCtorEq]
    · simp only [RX, VOp.fresh, bxC, bsC, un, most, callsOf, seval, Int.reducePow, ↓reduceIte, Nat.reduceEqDiff, reduceCtorEq]
    · simp only [← hc, msC, RX, VOp.fresh, bxC, bsC, un, most, callsOf, seval, Int.reducePow, ↓reduceIte, Nat.reduceEqDiff, reduceCtorEq]
    · simp only [sg_set, Nat.reduceEqDiff, ↓reduceIte]
    · simp only [sg_set, Nat.reduceEqDiff, ↓reduceIte]
    · simp only [sg_set, Nat.reduceEqDiff, ↓reduceIte]
    · simp only [sg_set, Nat.reduceEqDiff, ↓reduceIte]
    · simp only [sg_set, Nat.reduceEqDiff, ↓reduceIte]
    intro s' h1 w1 a1 a4 a6
    have hm1 : ((1, .cells [.bool true, .bool true, .bool false, .bool false, .bool false] 132 1) : Nat × Blk) ∈ [((1, .cells [.bool true, .bool true, .bool false, .bool false, .bool false] 132 1) : Nat × Blk), (0, .cells c 63 0)] := List.mem_cons_self
    have hm0 : ((0, .cells c 63 0) : Nat × Blk) ∈ [((1, .cells [.bool true, .bool true, .bool false, .bool false, .bool false] 132 1) : Nat × Blk), (0, .cells c 63 0)] := List.mem_cons_of_mem _ List.mem_cons_self
    rw [← hc] at w1 hm0 hm1
    have k0 := (w1.keep _ hm0).2.2
    have k1 := (w1.keep _ hm1).2.2
    simp only [msC] at k0 k1
    simp only [a1, a4, a6, k0, k1, ha.len, hu.len, RX, VOp.fresh, bxC, bsC, un, most, callsOf, seval, Int.reducePow, ↓reduceIte, Nat.reduceEqDiff, reduceCtorEq]
    refine wname g w1 (by simp only [List.length_cons, List.length_append, numB_len, txB, bitB, boxB_len]; omega) fun _ h2 w2 => ?_
    have k0 := (w2.keep _ hm0).2.2
    have k1 := (w2.keep _ hm1).2.2
    simp only [msC] at k0 k1
    simp only [a1, a4, a6, k0, k1, ha.len, hu.len, RX, VOp.fresh, bxC, bsC, un, most, callsOf, seval, Int.reducePow, ↓reduceIte, Nat.reduceEqDiff, reduceCtorEq]
    have hops' : (-1 ≤ m.base ∧ m.base ≤ 65535) ∧ opsOk 8 m.ops := by simpa only [opsM, ek, kOps, decide_true, if_true] using hops
    refine wops g ha (by have := hops'.2.2.1; omega) ?_ (by omega) (by omega) w2 (by simp only [List.length_cons, List.length_append, numB_len, txB, bitB, boxB_len]; omega) fun _ h3 w3 => ?_
    · intro o ho
      obtain ⟨j, hj, rfl⟩ := List.mem_iff_getElem.1 ho
      rw [← getD_op hj]
      exact opOk_small (hops'.2.2.2 j hj).1
    replace w3 := (show WR _ _ 3 (msB m) from by rw [er]; simpa only [List.append_assoc, List.cons_append, fsB] using w3)
    obtain ⟨v, e0, ver, hb1, ho⟩ := w3.out
    rcases ho with ⟨_, hnil⟩ | ⟨c0, e', ver', rfl, _, _, _, hc6⟩
    · exact absurd hnil (msB_ne _)
    have k1 := (w3.keep _ hm1).2.2
    simp only at k1
    by_cases hlen : (msB m).length ≤ 16384
    · have c8 : ¬ (16384 : Int) < ((msB m).length : Int) := by omega
      simp only [a1, a4, a6, k1, hb1, c8, RX, VOp.fresh, bxC, bsC, un, most, callsOf, seval, Int.reducePow, ↓reduceIte, Nat.reduceEqDiff, reduceCtorEq]
      rw [cvT_sl hc6 (List.length_map _), mb_bytes (By.ms m)]
      simp only [RX, VOp.fresh, bxC, bsC, un, most, callsOf, seval, Int.reducePow, ↓reduceIte, Nat.reduceEqDiff, reduceCtorEq]
      rw [msAns, if_pos hlen]
    · have c8 : (16384 : Int) < ((msB m).length : Int) := by omega
      simp only [a1, a4, a6, k1, hb1, c8, RX, VOp.fresh, bxC, bsC, un, most, callsOf, seval, Int.reducePow, ↓reduceIte, Nat.reduceEqDiff, reduceCtorEq]
      rw [msAns, if_neg hlen]
  · have hrow : rowV m.kind = .agg [.bool true, .bool false, .bool true, .bool false, .bool false] := by rw [ek]; rfl
    have er : msB m = 77 :: 83 :: (numB m.kind 1 ++ (numB m.frm 1 ++ (numB m.to 1 ++ (txB m.node m.seq ++ (bitB m.yes))))) := by
      have d1 : kTx m.kind = true := by rw [ek]; rfl
      have d2 : kOps m.kind = false := by rw [ek]; rfl
      have d3 : kYes m.kind = true := by rw [ek]; rfl
      have d4 : kQuery m.kind = false := by rw [ek]; rfl
      have d5 : kPart m.kind = false := by rw [ek]; rfl
      rw [msB, d1, d2, d3, d4, d5]
      simp only [if_true, Bool.false_eq_true, if_false, List.nil_append, List.append_nil, List.append_assoc]
    simp only [hrow, RW, ← hc, msC, RX, VOp.fresh, bxC, bsC, un, most, callsOf, seval, Int.reducePow, ↓reduceIte, Nat.reduceEqDiff, reduceCtorEq]
    refine head (row := [.bool true, .bool false, .bool true, .bool false, .bool false]) (by rfl) ?_ ?_ ?_ ?_ ?_ ?_ ?_ ?_ ?_ ?_
    · simp only [RX, VOp.fresh, bxC, bsC, un, most, callsOf, seval, Int.reducePow, ↓reduceIte, Nat.reduceEqDiff, reduceCtorEq]
    · simp only [RX, VOp.fresh, bxC, bsC, un, most, callsOf, seval, Int.reducePow, ↓reduceIte, Nat.reduceEqDiff, reduceCtorEq]
    · simp only [RX, VOp.fresh, bxC, bsC, un, most, callsOf, seval, Int.reducePow, ↓reduceIte, Nat.reduceEqDiff, reduceCtorEq]
    · simp only [← hc, msC, RX, VOp.fresh, bxC, bsC, un, most, callsOf, seval, Int.reducePow, ↓reduceIte, Nat.reduceEqDiff, reduceCtorEq]
    · simp only [sg_set, Nat.reduceEqDiff, ↓reduceIte]
    · simp only [sg_set, Nat.reduceEqDiff, ↓reduceIte]
    · simp only [sg_set, Nat.reduceEqDiff, ↓reduceIte]
    · simp only [sg_set, Nat.reduceEqDiff, ↓reduceIte]
    · simp only [sg_set, Nat.reduceEqDiff, ↓reduceIte]
    intro s' h1 w1 a1 a4 a6
    have hm1 : ((1, .cells [.bool true, .bool false, .bool true, .bool false, .bool false] 132 1) : Nat × Blk) ∈ [((1, .cells [.bool true, .bool false, .bool true, .bool false, .bool false] 132 1) : Nat × Blk), (0, .cells c 63 0)] := List.mem_cons_self
    have hm0 : ((0, .cells c 63 0) : Nat × Blk) ∈ [((1, .cells [.bool true, .bool false, .bool true, .bool false, .bool false] 132 1) : Nat × Blk), (0, .cells c 63 0)] := List.mem_cons_of_mem _ List.mem_cons_self
    rw [← hc] at w1 hm0 hm1
    have k0 := (w1.keep _ hm0).2.2
    have k1 := (w1.keep _ hm1).2.2
    simp only [msC] at k0 k1
    simp only [a1, a4, a6, k0, k1, ha.len, hu.len, RX, VOp.fresh, bxC, bsC, un, most, callsOf, seval, Int.reducePow, ↓reduceIte, Nat.reduceEqDiff, reduceCtorEq]
    refine wname g w1 (by simp only [List.length_cons, List.length_append, numB_len, txB, bitB, boxB_len]; omega) fun _ h2 w2 => ?_
    have k0 := (w2.keep _ hm0).2.2
    have k1 := (w2.keep _ hm1).2.2
    simp only [msC] at k0 k1
    simp only [a1, a4, a6, k0, k1, ha.len, hu.len, RX, VOp.fresh, bxC, bsC, un, most, callsOf, seval, Int.reducePow, ↓reduceIte, Nat.reduceEqDiff, reduceCtorEq]
    refine wbool g w2 (by simp only [List.length_cons, List.length_append, numB_len, txB, bitB, boxB_len]; omega) fun _ h3 w3 => ?_
    replace w3 := (show WR _ _ 3 (msB m) from by rw [er]; simpa only [List.append_assoc, List.cons_append, fsB] using w3)
    obtain ⟨v, e0, ver, hb1, ho⟩ := w3.out
    rcases ho with ⟨_, hnil⟩ | ⟨c0, e', ver', rfl, _, _, _, hc6⟩
    · exact absurd hnil (msB_ne _)
    have k1 := (w3.keep _ hm1).2.2
    simp only at k1
    by_cases hlen : (msB m).length ≤ 16384
    · have c8 : ¬ (16384 : Int) < ((msB m).length : Int) := by omega
      simp only [a1, a4, a6, k1, hb1, c8, RX, VOp.fresh, bxC, bsC, un, most, callsOf, seval, Int.reducePow, ↓reduceIte, Nat.reduceEqDiff, reduceCtorEq]
      rw [cvT_sl hc6 (List.length_map _), mb_bytes (By.ms m)]
      simp only [RX, VOp.fresh, bxC, bsC, un, most, callsOf, seval, Int.reducePow, ↓reduceIte, Nat.reduceEqDiff, reduceCtorEq]
      rw [msAns, if_pos hlen]
    · have c8 : (16384 : Int) < ((msB m).length : Int) := by omega
      simp only [a1, a4, a6, k1, hb1, c8, RX, VOp.fresh, bxC, bsC, un, most, callsOf, seval, Int.reducePow, ↓reduceIte, Nat.reduceEqDiff, reduceCtorEq]
      rw [msAns, if_neg hlen]
  · have hrow : rowV m.kind = .agg [.bool true, .bool false, .bool true, .bool false, .bool false] := by rw [ek]; rfl
    have er : msB m = 77 :: 83 :: (numB m.kind 1 ++ (numB m.frm 1 ++ (numB m.to 1 ++ (txB m.node m.seq ++ (bitB m.yes))))) := by
      have d1 : kTx m.kind = true := by rw [ek]; rfl
      have d2 : kOps m.kind = false := by rw [ek]; rfl
      have d3 : kYes m.kind = true := by rw [ek]; rfl
      have d4 : kQuery m.kind = false := by rw [ek]; rfl
      have d5 : kPart m.kind = false := by rw [ek]; rfl
      rw [msB, d1, d2, d3, d4, d5]
      simp only [if_true, Bool.false_eq_true, if_false, List.nil_append, List.append_nil, List.append_assoc]
    simp only [hrow, RW, ← hc, msC, RX, VOp.fresh, bxC, bsC, un, most, callsOf, seval, Int.reducePow, ↓reduceIte, Nat.reduceEqDiff, reduceCtorEq]
    refine head (row := [.bool true, .bool false, .bool true, .bool false, .bool false]) (by rfl) ?_ ?_ ?_ ?_ ?_ ?_ ?_ ?_ ?_ ?_
    · simp only [RX, VOp.fresh, bxC, bsC, un, most, callsOf, seval, Int.reducePow, ↓reduceIte, Nat.reduceEqDiff, reduceCtorEq]
    · simp only [RX, VOp.fresh, bxC, bsC, un, most, callsOf, seval, Int.reducePow, ↓reduceIte, Nat.reduceEqDiff, reduceCtorEq]
    · simp only [RX, VOp.fresh, bxC, bsC, un, most, callsOf, seval, Int.reducePow, ↓reduceIte, Nat.reduceEqDiff, reduceCtorEq]
    · simp only [← hc, msC, RX, VOp.fresh, bxC, bsC, un, most, callsOf, seval, Int.reducePow, ↓reduceIte, Nat.reduceEqDiff, reduceCtorEq]
    · simp only [sg_set, Nat.reduceEqDiff, ↓reduceIte]
    · simp only [sg_set, Nat.reduceEqDiff, ↓reduceIte]
    · simp only [sg_set, Nat.reduceEqDiff, ↓reduceIte]
    · simp only [sg_set, Nat.reduceEqDiff, ↓reduceIte]
    · simp only [sg_set, Nat.reduceEqDiff, ↓reduceIte]
    intro s' h1 w1 a1 a4 a6
    have hm1 : ((1, .cells [.bool true, .bool false, .bool true, .bool false, .bool false] 132 1) : Nat × Blk) ∈ [((1, .cells [.bool true, .bool false, .bool true, .bool false, .bool false] 132 1) : Nat × Blk), (0, .cells c 63 0)] := List.mem_cons_self
    have hm0 : ((0, .cells c 63 0) : Nat × Blk) ∈ [((1, .cells [.bool true, .bool false, .bool true, .bool false, .bool false] 132 1) : Nat × Blk), (0, .cells c 63 0)] := List.mem_cons_of_mem _ List.mem_cons_self
    rw [← hc] at w1 hm0 hm1
    have k0 := (w1.keep _ hm0).2.2
    have k1 := (w1.keep _ hm1).2.2
    simp only [msC] at k0 k1
    simp only [a1, a4, a6, k0, k1, ha.len, hu.len, RX, VOp.fresh, bxC, bsC, un, most, callsOf, seval, Int.reducePow, ↓reduceIte, Nat.reduceEqDiff, reduceCtorEq]
    refine wname g w1 (by simp only [List.length_cons, List.length_append, numB_len, txB, bitB, boxB_len]; omega) fun _ h2 w2 => ?_
    have k0 := (w2.keep _ hm0).2.2
    have k1 := (w2.keep _ hm1).2.2
    simp only [msC] at k0 k1
    simp only [a1, a4, a6, k0, k1, ha.len, hu.len, RX, VOp.fresh, bxC, bsC, un, most, callsOf, seval, Int.reducePow, ↓reduceIte, Nat.reduceEqDiff, reduceCtorEq]
    refine wbool g w2 (by simp only [List.length_cons, List.length_append, numB_len, txB, bitB, boxB_len]; omega) fun _ h3 w3 => ?_
    replace w3 := (show WR _ _ 3 (msB m) from by rw [er]; simpa only [List.append_assoc, List.cons_append, fsB] using w3)
    obtain ⟨v, e0, ver, hb1, ho⟩ := w3.out
    rcases ho with ⟨_, hnil⟩ | ⟨c0, e', ver', rfl, _, _, _, hc6⟩
    · exact absurd hnil (msB_ne _)
    have k1 := (w3.keep _ hm1).2.2
    simp only at k1
    by_cases hlen : (msB m).length ≤ 16384
    · have c8 : ¬ (16384 : Int) < ((msB m).length : Int) := by omega
      simp only [a1, a4, a6, k1, hb1, c8, RX, VOp.fresh, bxC, bsC, un, most, callsOf, seval, Int.reducePow, ↓reduceIte, Nat.reduceEqDiff, reduceCtorEq]
      rw [cvT_sl hc6 (List.length_map _), mb_bytes (By.ms m)]
      simp only [RX, VOp.fresh, bxC, bsC, un, most, callsOf, seval, Int.reducePow, ↓reduceIte, Nat.reduceEqDiff, reduceCtorEq]
      rw [msAns, if_pos hlen]
    · have c8 : (16384 : Int) < ((msB m).length : Int) := by omega
      simp only [a1, a4, a6, k1, hb1, c8, RX, VOp.fresh, bxC, bsC, un, most, callsOf, seval, Int.reducePow, ↓reduceIte, Nat.reduceEqDiff, reduceCtorEq]
      rw [msAns, if_neg hlen]
  · have hrow : rowV m.kind = .agg [.bool true, .bool false, .bool false, .bool false, .bool false] := by rw [ek]; rfl
    have er : msB m = 77 :: 83 :: (numB m.kind 1 ++ (numB m.frm 1 ++ (numB m.to 1 ++ (txB m.node m.seq)))) := by
      have d1 : kTx m.kind = true := by rw [ek]; rfl
      have d2 : kOps m.kind = false := by rw [ek]; rfl
      have d3 : kYes m.kind = false := by rw [ek]; rfl
      have d4 : kQuery m.kind = false := by rw [ek]; rfl
      have d5 : kPart m.kind = false := by rw [ek]; rfl
      rw [msB, d1, d2, d3, d4, d5]
      simp only [if_true, Bool.false_eq_true, if_false, List.nil_append, List.append_nil, List.append_assoc]
    simp only [hrow, RW, ← hc, msC, RX, VOp.fresh, bxC, bsC, un, most, callsOf, seval, Int.reducePow, ↓reduceIte, Nat.reduceEqDiff, reduceCtorEq]
    refine head (row := [.bool true, .bool false, .bool false, .bool false, .bool false]) (by rfl) ?_ ?_ ?_ ?_ ?_ ?_ ?_ ?_ ?_ ?_
    · simp only [RX, VOp.fresh, bxC, bsC, un, most, callsOf, seval, Int.reducePow, ↓reduceIte, Nat.reduceEqDiff, reduceCtorEq]
    · simp only [RX, VOp.fresh, bxC, bsC, un, most, callsOf, seval, Int.reducePow, ↓reduceIte, Nat.reduceEqDiff, reduceCtorEq]
    · simp only [RX, VOp.fresh, bxC, bsC, un, most, callsOf, seval, Int.reducePow, ↓reduceIte, Nat.reduceEqDiff, reduceCtorEq]
    · simp only [← hc, msC, RX, VOp.fresh, bxC, bsC, un, most, callsOf, seval, Int.reducePow, ↓reduceIte, Nat.reduceEqDiff, reduceCtorEq]
    · simp only [sg_set, Nat.reduceEqDiff, ↓reduceIte]
    · simp only [sg_set, Nat.reduceEqDiff, ↓reduceIte]
    · simp only [sg_set, Nat.reduceEqDiff, ↓reduceIte]
    · simp only [sg_set, Nat.reduceEqDiff, ↓reduceIte]
    · simp only [sg_set, Nat.reduceEqDiff, ↓reduceIte]
    intro s' h1 w1 a1 a4 a6
    have hm1 : ((1, .cells [.bool true, .bool false, .bool false, .bool false, .bool false] 132 1) : Nat × Blk) ∈ [((1, .cells [.bool true, .bool false, .bool false, .bool false, .bool false] 132 1) : Nat × Blk), (0, .cells c 63 0)] := List.mem_cons_self
    have hm0 : ((0, .cells c 63 0) : Nat × Blk) ∈ [((1, .cells [.bool true, .bool false, .bool false, .bool false, .bool false] 132 1) : Nat × Blk), (0, .cells c 63 0)] := List.mem_cons_of_mem _ List.mem_cons_self
    rw [← hc] at w1 hm0 hm1
    have k0 := (w1.keep _ hm0).2.2
    have k1 := (w1.keep _ hm1).2.2
    simp only [msC] at k0 k1
    simp only [a1, a4, a6, k0, k1, ha.len, hu.len, RX, VOp.fresh, bxC, bsC, un, most, callsOf, seval, Int.reducePow, ↓reduceIte, Nat.reduceEqDiff, reduceCtorEq]
    refine wname g w1 (by simp only [List.length_cons, List.length_append, numB_len, txB, bitB, boxB_len]; omega) fun _ h2 w2 => ?_
    replace w2 := (show WR _ _ 3 (msB m) from by rw [er]; simpa only [List.append_assoc, List.cons_append, fsB] using w2)
    obtain ⟨v, e0, ver, hb1, ho⟩ := w2.out
    rcases ho with ⟨_, hnil⟩ | ⟨c0, e', ver', rfl, _, _, _, hc6⟩
    · exact absurd hnil (msB_ne _)
    have k1 := (w2.keep _ hm1).2.2
    simp only at k1
    by_cases hlen : (msB m).length ≤ 16384
    · have c8 : ¬ (16384 : Int) < ((msB m).length : Int) := by omega
      simp only [a1, a4, a6, k1, hb1, c8, RX, VOp.fresh, bxC, bsC, un, most, callsOf, seval, Int.reducePow, ↓reduceIte, Nat.reduceEqDiff, reduceCtorEq]
      rw [cvT_sl hc6 (List.length_map _), mb_bytes (By.ms m)]
      simp only [RX, VOp.fresh, bxC, bsC, un, most, callsOf, seval, Int.reducePow, ↓reduceIte, Nat.reduceEqDiff, reduceCtorEq]
      rw [msAns, if_pos hlen]
    · have c8 : (16384 : Int) < ((msB m).length : Int) := by omega
      simp only [a1, a4, a6, k1, hb1, c8, RX, VOp.fresh, bxC, bsC, un, most, callsOf, seval, Int.reducePow, ↓reduceIte, Nat.reduceEqDiff, reduceCtorEq]
      rw [msAns, if_neg hlen]
  · have hrow : rowV m.kind = .agg [.bool true, .bool false, .bool false, .bool false, .bool false] := by rw [ek]; rfl
    have er : msB m = 77 :: 83 :: (numB m.kind 1 ++ (numB m.frm 1 ++ (numB m.to 1 ++ (txB m.node m.seq)))) := by
      have d1 : kTx m.kind = true := by rw [ek]; rfl
      have d2 : kOps m.kind = false := by rw [ek]; rfl
      have d3 : kYes m.kind = false := by rw [ek]; rfl
      have d4 : kQuery m.kind = false := by rw [ek]; rfl
      have d5 : kPart m.kind = false := by rw [ek]; rfl
      rw [msB, d1, d2, d3, d4, d5]
      simp only [if_true, Bool.false_eq_true, if_false, List.nil_append, List.append_nil, List.append_assoc]
    simp only [hrow, RW, ← hc, msC, RX, VOp.fresh, bxC, bsC, un, most, callsOf, seval, Int.reducePow, ↓reduceIte, Nat.reduceEqDiff, reduceCtorEq]
    refine head (row := [.bool true, .bool false, .bool false, .bool false, .bool false]) (by rfl) ?_ ?_ ?_ ?_ ?_ ?_ ?_ ?_ ?_ ?_
    · simp only [RX, VOp.fresh, bxC, bsC, un, most, callsOf, seval, Int.reducePow, ↓reduceIte, Nat.reduceEqDiff, reduceCtorEq]
    · simp only [RX, VOp.fresh, bxC, bsC, un, most, callsOf, seval, Int.reducePow, ↓reduceIte, Nat.reduceEqDiff, reduceCtorEq]
    · simp only [RX, VOp.fresh, bxC, bsC, un, most, callsOf, seval, Int.reducePow, ↓reduceIte, Nat.reduceEqDiff, reduceCtorEq]
    · simp only [← hc, msC, RX, VOp.fresh, bxC, bsC, un, most, callsOf, seval, Int.reducePow, ↓reduceIte, Nat.reduceEqDiff, reduceCtorEq]
    · simp only [sg_set, Nat.reduceEqDiff, ↓reduceIte]
    · simp only [sg_set, Nat.reduceEqDiff, ↓reduceIte]
    · simp only [sg_set, Nat.reduceEqDiff, ↓reduceIte]
    · simp only [sg_set, Nat.reduceEqDiff, ↓reduceIte]
    · simp only [sg_set, Nat.reduceEqDiff, ↓reduceIte]
    intro s' h1 w1 a1 a4 a6
    have hm1 : ((1, .cells [.bool true, .bool false, .bool false, .bool false, .bool false] 132 1) : Nat × Blk) ∈ [((1, .cells [.bool true, .bool false, .bool false, .bool false, .bool false] 132 1) : Nat × Blk), (0, .cells c 63 0)] := List.mem_cons_self
    have hm0 : ((0, .cells c 63 0) : Nat × Blk) ∈ [((1, .cells [.bool true, .bool false, .bool false, .bool false, .bool false] 132 1) : Nat × Blk), (0, .cells c 63 0)] := List.mem_cons_of_mem _ List.mem_cons_self
    rw [← hc] at w1 hm0 hm1
    have k0 := (w1.keep _ hm0).2.2
    have k1 := (w1.keep _ hm1).2.2
    simp only [msC] at k0 k1
    simp only [a1, a4, a6, k0, k1, ha.len, hu.len, RX, VOp.fresh, bxC, bsC, un, most, callsOf, seval, Int.reducePow, ↓reduceIte, Nat.reduceEqDiff, reduceCtorEq]
    refine wname g w1 (by simp only [List.length_cons, List.length_append, numB_len, txB, bitB, boxB_len]; omega) fun _ h2 w2 => ?_
    replace w2 := (show WR _ _ 3 (msB m) from by rw [er]; simpa only [List.append_assoc, List.cons_append, fsB] using w2)
    obtain ⟨v, e0, ver, hb1, ho⟩ := w2.out
    rcases ho with ⟨_, hnil⟩ | ⟨c0, e', ver', rfl, _, _, _, hc6⟩
    · exact absurd hnil (msB_ne _)
    have k1 := (w2.keep _ hm1).2.2
    simp only at k1
    by_cases hlen : (msB m).length ≤ 16384
    · have c8 : ¬ (16384 : Int) < ((msB m).length : Int) := by omega
      simp only [a1, a4, a6, k1, hb1, c8, RX, VOp.fresh, bxC, bsC, un, most, callsOf, seval, Int.reducePow, ↓reduceIte, Nat.reduceEqDiff, reduceCtorEq]
      rw [cvT_sl hc6 (List.length_map _), mb_bytes (By.ms m)]
      simp only [RX, VOp.fresh, bxC, bsC, un, most, callsOf, seval, Int.reducePow, ↓reduceIte, Nat.reduceEqDiff, reduceCtorEq]
      rw [msAns, if_pos hlen]
    · have c8 : (16384 : Int) < ((msB m).length : Int) := by omega
      simp only [a1, a4, a6, k1, hb1, c8, RX, VOp.fresh, bxC, bsC, un, most, callsOf, seval, Int.reducePow, ↓reduceIte, Nat.reduceEqDiff, reduceCtorEq]
      rw [msAns, if_neg hlen]
  · have hrow : rowV m.kind = .agg [.bool false, .bool false, .bool false, .bool true, .bool false] := by rw [ek]; rfl
    have er : msB m = 77 :: 83 :: (numB m.kind 1 ++ (numB m.frm 1 ++ (numB m.to 1 ++ (numB m.query 2 ++ (boxB m.box))))) := by
      have d1 : kTx m.kind = false := by rw [ek]; rfl
      have d2 : kOps m.kind = false := by rw [ek]; rfl
      have d3 : kYes m.kind = false := by rw [ek]; rfl
      have d4 : kQuery m.kind = true := by rw [ek]; rfl
      have d5 : kPart m.kind = false := by rw [ek]; rfl
      rw [msB, d1, d2, d3, d4, d5]
      simp only [if_true, Bool.false_eq_true, if_false, List.nil_append, List.append_nil, List.append_assoc]
    simp only [hrow, RW, ← hc, msC, RX, VOp.fresh, bxC, bsC, un, most, callsOf, seval, Int.reducePow, ↓reduceIte, Nat.reduceEqDiff, reduceCtorEq]
    refine head (row := [.bool false, .bool false, .bool false, .bool true, .bool false]) (by rfl) ?_ ?_ ?_ ?_ ?_ ?_ ?_ ?_ ?_ ?_
    · simp only [RX, VOp.fresh, bxC, bsC, un, most, callsOf, seval, Int.reducePow, ↓reduceIte, Nat.reduceEqDiff, reduceCtorEq]
    · simp only [RX, VOp.fresh, bxC, bsC, un, most, callsOf, seval, Int.reducePow, ↓reduceIte, Nat.reduceEqDiff, reduceCtorEq]
    · simp only [RX, VOp.fresh, bxC, bsC, un, most, callsOf, seval, Int.reducePow, ↓reduceIte, Nat.reduceEqDiff, reduceCtorEq]
    · simp only [← hc, msC, RX, VOp.fresh, bxC, bsC, un, most, callsOf, seval, Int.reducePow, ↓reduceIte, Nat.reduceEqDiff, reduceCtorEq]
    · simp only [sg_set, Nat.reduceEqDiff, ↓reduceIte]
    · simp only [sg_set, Nat.reduceEqDiff, ↓reduceIte]
    · simp only [sg_set, Nat.reduceEqDiff, ↓reduceIte]
    · simp only [sg_set, Nat.reduceEqDiff, ↓reduceIte]
    · simp only [sg_set, Nat.reduceEqDiff, ↓reduceIte]
    intro s' h1 w1 a1 a4 a6
    have hm1 : ((1, .cells [.bool false, .bool false, .bool false, .bool true, .bool false] 132 1) : Nat × Blk) ∈ [((1, .cells [.bool false, .bool false, .bool false, .bool true, .bool false] 132 1) : Nat × Blk), (0, .cells c 63 0)] := List.mem_cons_self
    have hm0 : ((0, .cells c 63 0) : Nat × Blk) ∈ [((1, .cells [.bool false, .bool false, .bool false, .bool true, .bool false] 132 1) : Nat × Blk), (0, .cells c 63 0)] := List.mem_cons_of_mem _ List.mem_cons_self
    rw [← hc] at w1 hm0 hm1
    have k0 := (w1.keep _ hm0).2.2
    have k1 := (w1.keep _ hm1).2.2
    simp only [msC] at k0 k1
    simp only [a1, a4, a6, k0, k1, ha.len, hu.len, RX, VOp.fresh, bxC, bsC, un, most, callsOf, seval, Int.reducePow, ↓reduceIte, Nat.reduceEqDiff, reduceCtorEq]
    refine wnum (n := 2) g (num2_pu g _) (by decide) w1 (by simp only [List.length_cons, List.length_append, numB_len, txB, bitB, boxB_len]; omega) fun _ h2 w2 => ?_
    have k0 := (w2.keep _ hm0).2.2
    have k1 := (w2.keep _ hm1).2.2
    simp only [msC] at k0 k1
    simp only [a1, a4, a6, k0, k1, ha.len, hu.len, RX, VOp.fresh, bxC, bsC, un, most, callsOf, seval, Int.reducePow, ↓reduceIte, Nat.reduceEqDiff, reduceCtorEq]
    refine wbox g m.box w2 (by simp only [List.length_cons, List.length_append, numB_len, txB, bitB, boxB_len]; omega) fun _ h3 w3 => ?_
    replace w3 := (show WR _ _ 3 (msB m) from by rw [er]; simpa only [List.append_assoc, List.cons_append, fsB] using w3)
    obtain ⟨v, e0, ver, hb1, ho⟩ := w3.out
    rcases ho with ⟨_, hnil⟩ | ⟨c0, e', ver', rfl, _, _, _, hc6⟩
    · exact absurd hnil (msB_ne _)
    have k1 := (w3.keep _ hm1).2.2
    simp only at k1
    by_cases hlen : (msB m).length ≤ 16384
    · have c8 : ¬ (16384 : Int) < ((msB m).length : Int) := by omega
      simp only [a1, a4, a6, k1, hb1, c8, RX, VOp.fresh, bxC, bsC, un, most, callsOf, seval, Int.reducePow, ↓reduceIte, Nat.reduceEqDiff, reduceCtorEq]
      rw [cvT_sl hc6 (List.length_map _), mb_bytes (By.ms m)]
      simp only [RX, VOp.fresh, bxC, bsC, un, most, callsOf, seval, Int.reducePow, ↓reduceIte, Nat.reduceEqDiff, reduceCtorEq]
      rw [msAns, if_pos hlen]
    · have c8 : (16384 : Int) < ((msB m).length : Int) := by omega
      simp only [a1, a4, a6, k1, hb1, c8, RX, VOp.fresh, bxC, bsC, un, most, callsOf, seval, Int.reducePow, ↓reduceIte, Nat.reduceEqDiff, reduceCtorEq]
      rw [msAns, if_neg hlen]
  · have hrow : rowV m.kind = .agg [.bool false, .bool false, .bool false, .bool true, .bool true] := by rw [ek]; rfl
    have er : msB m = 77 :: 83 :: (numB m.kind 1 ++ (numB m.frm 1 ++ (numB m.to 1 ++ (numB m.query 2 ++ (boxB m.box ++ (numB m.applied 4 ++ (bitB m.busy ++ (fsB m.fs)))))))) := by
      have d1 : kTx m.kind = false := by rw [ek]; rfl
      have d2 : kOps m.kind = false := by rw [ek]; rfl
      have d3 : kYes m.kind = false := by rw [ek]; rfl
      have d4 : kQuery m.kind = true := by rw [ek]; rfl
      have d5 : kPart m.kind = true := by rw [ek]; rfl
      rw [msB, d1, d2, d3, d4, d5]
      simp only [if_true, Bool.false_eq_true, if_false, List.nil_append, List.append_nil, List.append_assoc]
    simp only [hrow, RW, ← hc, msC, RX, VOp.fresh, bxC, bsC, un, most, callsOf, seval, Int.reducePow, ↓reduceIte, Nat.reduceEqDiff, reduceCtorEq]
    refine head (row := [.bool false, .bool false, .bool false, .bool true, .bool true]) (by rfl) ?_ ?_ ?_ ?_ ?_ ?_ ?_ ?_ ?_ ?_
    · simp only [RX, VOp.fresh, bxC, bsC, un, most, callsOf, seval, Int.reducePow, ↓reduceIte, Nat.reduceEqDiff, reduceCtorEq]
    · simp only [RX, VOp.fresh, bxC, bsC, un, most, callsOf, seval, Int.reducePow, ↓reduceIte, Nat.reduceEqDiff, reduceCtorEq]
    · simp only [RX, VOp.fresh, bxC, bsC, un, most, callsOf, seval, Int.reducePow, ↓reduceIte, Nat.reduceEqDiff, reduceCtorEq]
    · simp only [← hc, msC, RX, VOp.fresh, bxC, bsC, un, most, callsOf, seval, Int.reducePow, ↓reduceIte, Nat.reduceEqDiff, reduceCtorEq]
    · simp only [sg_set, Nat.reduceEqDiff, ↓reduceIte]
    · simp only [sg_set, Nat.reduceEqDiff, ↓reduceIte]
    · simp only [sg_set, Nat.reduceEqDiff, ↓reduceIte]
    · simp only [sg_set, Nat.reduceEqDiff, ↓reduceIte]
    · simp only [sg_set, Nat.reduceEqDiff, ↓reduceIte]
    intro s' h1 w1 a1 a4 a6
    have hm1 : ((1, .cells [.bool false, .bool false, .bool false, .bool true, .bool true] 132 1) : Nat × Blk) ∈ [((1, .cells [.bool false, .bool false, .bool false, .bool true, .bool true] 132 1) : Nat × Blk), (0, .cells c 63 0)] := List.mem_cons_self
    have hm0 : ((0, .cells c 63 0) : Nat × Blk) ∈ [((1, .cells [.bool false, .bool false, .bool false, .bool true, .bool true] 132 1) : Nat × Blk), (0, .cells c 63 0)] := List.mem_cons_of_mem _ List.mem_cons_self
    rw [← hc] at w1 hm0 hm1
    have k0 := (w1.keep _ hm0).2.2
    have k1 := (w1.keep _ hm1).2.2
    simp only [msC] at k0 k1
    simp only [a1, a4, a6, k0, k1, ha.len, hu.len, RX, VOp.fresh, bxC, bsC, un, most, callsOf, seval, Int.reducePow, ↓reduceIte, Nat.reduceEqDiff, reduceCtorEq]
    refine wnum (n := 2) g (num2_pu g _) (by decide) w1 (by simp only [List.length_cons, List.length_append, numB_len, txB, bitB, boxB_len]; omega) fun _ h2 w2 => ?_
    have k0 := (w2.keep _ hm0).2.2
    have k1 := (w2.keep _ hm1).2.2
    simp only [msC] at k0 k1
    simp only [a1, a4, a6, k0, k1, ha.len, hu.len, RX, VOp.fresh, bxC, bsC, un, most, callsOf, seval, Int.reducePow, ↓reduceIte, Nat.reduceEqDiff, reduceCtorEq]
    refine wbox g m.box w2 (by simp only [List.length_cons, List.length_append, numB_len, txB, bitB, boxB_len]; omega) fun _ h3 w3 => ?_
    have k0 := (w3.keep _ hm0).2.2
    have k1 := (w3.keep _ hm1).2.2
    simp only [msC] at k0 k1
    simp only [a1, a4, a6, k0, k1, ha.len, hu.len, RX, VOp.fresh, bxC, bsC, un, most, callsOf, seval, Int.reducePow, ↓reduceIte, Nat.reduceEqDiff, reduceCtorEq]
    refine wnum (n := 4) g (num4_pu g _) (by decide) w3 (by simp only [List.length_cons, List.length_append, numB_len, txB, bitB, boxB_len]; omega) fun _ h4 w4 => ?_
    have k0 := (w4.keep _ hm0).2.2
    have k1 := (w4.keep _ hm1).2.2
    simp only [msC] at k0 k1
    simp only [a1, a4, a6, k0, k1, ha.len, hu.len, RX, VOp.fresh, bxC, bsC, un, most, callsOf, seval, Int.reducePow, ↓reduceIte, Nat.reduceEqDiff, reduceCtorEq]
    refine wbool g w4 (by simp only [List.length_cons, List.length_append, numB_len, txB, bitB, boxB_len]; omega) fun _ h5 w5 => ?_
    have k0 := (w5.keep _ hm0).2.2
    have k1 := (w5.keep _ hm1).2.2
    simp only [msC] at k0 k1
    simp only [a1, a4, a6, k0, k1, ha.len, hu.len, RX, VOp.fresh, bxC, bsC, un, most, callsOf, seval, Int.reducePow, ↓reduceIte, Nat.reduceEqDiff, reduceCtorEq]
    refine wnum (n := 2) g (num2_pu g _) (by decide) w5 (by simp only [List.length_cons, List.length_append, numB_len, txB, bitB, boxB_len]; omega) fun _ h6 w6 => ?_
    have k0 := (w6.keep _ hm0).2.2
    have k1 := (w6.keep _ hm1).2.2
    simp only [msC] at k0 k1
    simp only [a1, a4, a6, k0, k1, ha.len, hu.len, RX, VOp.fresh, bxC, bsC, un, most, callsOf, seval, Int.reducePow, ↓reduceIte, Nat.reduceEqDiff, reduceCtorEq]
    have hpt' : (0 ≤ m.applied ∧ m.applied ≤ 2147483647) ∧ m.fs.length ≤ 256 ∧ (m.busy = true → m.fs = []) ∧ featsOk m.fs := by simpa only [partM, ek, kPart, decide_true, if_true] using hpt
    refine wfs g hu (fsSmall hpt'.2.2.2) (by omega) hm0 _ ?_ m.fs.length 0 _ _ _ _ (by omega) (by simpa using w6) ?_ ?_ ?_ ?_ ?_
    · simp only [List.length_cons, List.length_append, numB_len, bitB, boxB_len]; omega
    · simp only [a1, sg_set, Nat.reduceEqDiff, ↓reduceIte]
    · simp only [a6, sg_set, Nat.reduceEqDiff, ↓reduceIte]
    · simp only [sg_set, Nat.reduceEqDiff, ↓reduceIte]
    · simp only [sg_set, Nat.reduceEqDiff, ↓reduceIte]
      rfl
    intro s'' h7 w7 a6' 
    replace w7 := (show WR _ _ 3 (msB m) from by rw [er]; simpa only [List.append_assoc, List.cons_append, fsB] using w7)
    obtain ⟨v, e0, ver, hb1, ho⟩ := w7.out
    rcases ho with ⟨_, hnil⟩ | ⟨c0, e', ver', rfl, _, _, _, hc6⟩
    · exact absurd hnil (msB_ne _)
    have k1 := (w7.keep _ hm1).2.2
    simp only at k1
    have a6 := a6' 
    by_cases hlen : (msB m).length ≤ 16384
    · have c8 : ¬ (16384 : Int) < ((msB m).length : Int) := by omega
      simp only [a1, a4, a6, k1, hb1, c8, RX, VOp.fresh, bxC, bsC, un, most, callsOf, seval, Int.reducePow, ↓reduceIte, Nat.reduceEqDiff, reduceCtorEq]
      rw [cvT_sl hc6 (List.length_map _), mb_bytes (By.ms m)]
      simp only [RX, VOp.fresh, bxC, bsC, un, most, callsOf, seval, Int.reducePow, ↓reduceIte, Nat.reduceEqDiff, reduceCtorEq]
      rw [msAns, if_pos hlen]
    · have c8 : (16384 : Int) < ((msB m).length : Int) := by omega
      simp only [a1, a4, a6, k1, hb1, c8, RX, VOp.fresh, bxC, bsC, un, most, callsOf, seval, Int.reducePow, ↓reduceIte, Nat.reduceEqDiff, reduceCtorEq]
      rw [msAns, if_neg hlen]
end
end Go.Proofs.Ytinonmcnofjeeaa.VM
namespace Go.Proofs.Ytinonmcnofjeeaa.VM
attribute [local irreducible] Af Nx EvO Ev Un Gd Cd EvR EvQ EvC Nc Gc Lp EvM NxM AfM GdM EvMR EvMQ EvMD EvMC Nm Gm
abbrev z16 : List AV := [.int .i64 0, .int .i64 0, .int .i64 0, .int .i64 0, .int .i64 0, .int .i64 0, .bool false, .int .i64 0, .int .i64 0, .bool false, .int .i64 0, .int .i64 0, .int .i64 0, .int .i64 0, .nils, .nils]
/-- messages of a kind, told: their cells, which may be sent, what a copy is -/
structure MK (P : Program) (α : Type) where
  C : α → List AV
  R : α → α → Prop
  E : α → Bool
  len : ∀ x, (C x).length = 16
  one : ∀ x, (C x).all AV.one = true
  told : ∀ x, AV.tolds (C x) = true
  cp : ∀ x, Pu P 82 [.agg (C x)] (fun v => ∃ y, v = .agg (C y) ∧ R x y)
  pt : ∀ x, Pu P 25 [.agg (C x)] (fun v => ∃ S e, v = .tup [.str S, .int .i64 e] ∧ (e = 0 ↔ E x = true))
section
variable {P : Program} {α : Type} (K : MK P α) {h h' : Heap} {v : AV} {xs : List α} {D : List Nat}
def MK.row (xs : List α) : List AV := (xs.map K.C).flatten
theorem MK.row_len : ∀ (xs : List α), (K.row xs).length = xs.length * 16
  | [] => rfl
  | x :: xs => by
    have := MK.row_len xs
    unfold MK.row at this ⊢
    rw [List.map_cons, List.flatten_cons, List.length_append, this, K.len, List.length_cons]; omega
theorem MK.row_app (xs ys : List α) : K.row (xs ++ ys) = K.row xs ++ K.row ys := by unfold MK.row; rw [List.map_append, List.flatten_append]
theorem MK.row_one (x : α) : K.row [x] = K.C x := by unfold MK.row; simp
theorem MK.row_all : ∀ (xs : List α), (K.row xs).all AV.one = true
  | [] => rfl
  | x :: xs => by
    have := MK.row_all xs
    unfold MK.row at this ⊢
    rw [List.map_cons, List.flatten_cons, List.all_append, this, K.one]; rfl
/-- a queue's row: in its block there may be more behind -/
def QRow (h : Heap) (v : AV) (xs : List α) : Prop := (v = .nils ∧ xs = []) ∨ ∃ b cap e ver z, v = .sl b 0 xs.length cap 16 ∧ b < h.next ∧ h.get b = some (.cells (K.row xs ++ z) e ver) ∧ xs.length * 16 + z.length = cap * 16 ∧ z.all AV.one = true
/-- a queue -/
def QS (h : Heap) (qb : Nat) (mo : Int) (xs : List α) (D : List Nat) : Prop := qb < h.next ∧ qb ∉ D ∧ ((xs.length : Int) ≤ mo ∧ mo ≤ 64) ∧ ∃ e ver v, h.get qb = some (.cells [.int .i64 mo, v] e ver) ∧ QRow K h v xs ∧ D = blkOf v
/-- what a queue's call leaves -/
def QF (h h' : Heap) (qb : Nat) (D D' : List Nat) : Prop := h.next ≤ h'.next ∧ (∀ b ∈ D', b ∈ D ∨ h.next ≤ b) ∧ ∀ b, b < h.next → b ≠ qb → b ∉ D → h'.get b = h.get b
variable {K}
theorem QRow.frame (r : QRow K h v xs) (hn : h.next ≤ h'.next) (k : ∀ b ∈ blkOf v, h'.get b = h.get b) : QRow K h' v xs := by
  rcases r with r | ⟨b, cap, e, ver, z, rfl, hb, hg, hl, hz⟩
  · exact .inl r
  · exact .inr ⟨b, cap, e, ver, z, rfl, by omega, (k b (by simp [blkOf])).trans hg, hl, hz⟩
theorem QRow.lt (r : QRow K h v xs) : ∀ b ∈ blkOf v, b < h.next := by
  rcases r with ⟨rfl, rfl⟩ | ⟨b, cap, e, ver, z, rfl, hb, hg, hl, hz⟩
  · intro b hb; simp [blkOf] at hb
  · intro c hc; simp only [blkOf, List.mem_singleton] at hc; rw [hc]; exact hb
theorem QRow.one (r : QRow K h v xs) : v.one = true := by rcases r with ⟨rfl, rfl⟩ | ⟨b, cap, e, ver, z, rfl, _⟩ <;> rfl
theorem QRow.cells (r : QRow K h v xs) : v.cells = some [v] := by rcases r with ⟨rfl, rfl⟩ | ⟨b, cap, e, ver, z, rfl, _⟩ <;> rfl
theorem QRow.len (r : QRow K h v xs) (hh : Heap) : lnV hh v = .val (.int .i64 xs.length) hh := by rcases r with ⟨rfl, rfl⟩ | ⟨b, cap, e, ver, z, rfl, _⟩ <;> rfl
/-- one more message -/
theorem QRow.push (r : QRow K h v xs) (hx : xs.length ≤ 64) {nb e v0 : Nat} {x : α} (hg : h.get nb = some (.cells (K.C x) e v0)) :
    ∃ v' h', appendV h 16 160 63 v (.sl nb 0 1 1 16) = some (v', h') ∧ QRow K h' v' (xs ++ [x]) ∧ h.next ≤ h'.next ∧ (∀ b ∈ blkOf v', b ∈ blkOf v ∨ h.next ≤ b) ∧ ∀ b, b < h.next → b ∉ blkOf v → h'.get b = h.get b := by
  have hc : cellsOf h 16 1 (.sl nb 0 1 1 16) = some (K.C x) := cells_of hg (by rw [K.len]) 1
  have hl := K.len x
  have ho := K.one x
  rcases r with ⟨rfl, rfl⟩ | ⟨b, cap, eb, vb, z, rfl, hb, hgb, hz, hzo⟩
  · refine ⟨.sl h.next 0 1 1 16, h.mk' h.next (.cells (K.C x) 63 0), ?_, .inr ⟨h.next, 1, 63, 0, [], rfl, by rw [mk_next]; omega, by rw [Heap.get_mk, if_pos rfl, List.append_nil, List.nil_append, K.row_one], rfl, rfl⟩, by rw [mk_next]; omega, fun b hb => .inr (by simp only [blkOf, List.mem_singleton] at hb; omega), fun b hb _ => by rw [Heap.get_mk, if_neg (by omega)]⟩
    have e1 : (1 : Nat) * 160 ≤ most2 := by unfold most2; omega
    simp [appendV, lenV, hc, hl, ho, e1]
  · have e0 : cellsOf h 16 xs.length (.sl b 0 xs.length cap 16) = some (K.row xs) := by
      simp only [cellsOf, Nat.le_refl, if_true, hgb]
      rw [cut_eq, List.drop_zero, List.take_left' (K.row_len xs), if_pos (K.row_len xs)]
    by_cases hcap : xs.length + 1 ≤ cap
    · have hz16 : 16 ≤ z.length := by omega
      have hw : writeAt h b (0 + xs.length * 16) (K.C x) = some (h.put b (.cells (K.row xs ++ K.C x ++ z.drop 16) eb (vb + 1))) := by
        rw [writeAt_go, hgb, wrB_some, if_pos ⟨by rw [List.length_append, K.row_len]; omega, ho⟩]
        rw [Nat.zero_add, List.take_left' (K.row_len xs), hl, ← K.row_len xs, List.drop_append, List.drop_of_length_le (by omega), List.nil_append, show (K.row xs).length + 16 - (K.row xs).length = 16 by omega]
      refine ⟨.sl b 0 (xs.length + 1) cap 16, h.put b (.cells (K.row xs ++ K.C x ++ z.drop 16) eb (vb + 1)), ?_, .inr ⟨b, cap, eb, vb + 1, z.drop 16, by rw [List.length_append, List.length_singleton], by rw [put_next]; exact hb, by rw [Heap.get_put, if_pos rfl, K.row_app, K.row_one], by rw [List.length_append, List.length_singleton, List.length_drop]; omega, List.all_eq_true.2 fun y hy => List.all_eq_true.1 hzo y (List.mem_of_mem_drop hy)⟩, by rw [put_next]; exact Nat.le_refl _, fun c hc => .inl hc, fun c _ hc => by simp only [blkOf, List.mem_singleton] at hc; rw [Heap.get_put, if_neg hc]⟩
      simp only [appendV, lenV, hc, hl, ho, hcap, hw, Nat.one_mul, and_self, if_true, Nat.beq_refl, cond_true]
    · refine ⟨.sl h.next 0 (xs.length + 1) (xs.length + 1) 16, (h.put b .dead).mk' h.next (.cells (K.row xs ++ K.C x) 63 0), ?_, .inr ⟨h.next, xs.length + 1, 63, 0, [], by rw [List.length_append, List.length_singleton], by rw [mk_next]; omega, by rw [Heap.get_mk, if_pos rfl, List.append_nil, K.row_app, K.row_one], by rw [List.length_append, List.length_singleton]; simp, rfl⟩, by rw [mk_next, put_next]; omega, fun c hc => .inr (by simp only [blkOf, List.mem_singleton] at hc; omega), fun c hc hn => by
        simp only [blkOf, List.mem_singleton] at hn
        rw [Heap.get_mk, if_neg (by omega), Heap.get_put, if_neg hn]⟩
      have e1 : (xs.length + 1) * 160 ≤ most2 := by unfold most2; omega
      simp [appendV, lenV, hc, hl, ho, hcap, e1, e0]
theorem MK.new_cl (K : MK P α) (g : Pg P tab) {mo : Int} {Q : AV → Heap → Prop} (q1 : 1 ≤ mo ∧ mo ≤ 64 → ∀ qb h', QS K h' qb mo [] [] → h.next ≤ qb → Ext h h' → Q (.tup [.ptr qb 0, .int .i64 0]) h') (q2 : ¬ (1 ≤ mo ∧ mo ≤ 64) → Q (.tup [.nilp, .int .i64 1700]) h) : Cl P 32 [.int .i64 mo] h Q := by
  refine g.cl (vf := v32) rfl rfl ?_
  by_cases c1 : mo < 1
  · simp only [v32, c1, RX, VOp.fresh, bxC, bsC, un, most, callsOf, seval, Int.reducePow, ↓reduceIte, Nat.reduceEqDiff, reduceCtorEq]
    exact q2 (by omega)
  by_cases c2 : 64 < mo
  · simp only [v32, c1, c2, RX, VOp.fresh, bxC, bsC, un, most, callsOf, seval, Int.reducePow, ↓reduceIte, Nat.reduceEqDiff, reduceCtorEq]
    exact q2 (by omega)
  simp only [v32, c1, c2, RX, VOp.fresh, bxC, bsC, un, most, callsOf, seval, Int.reducePow, ↓reduceIte, Nat.reduceEqDiff, reduceCtorEq]
  exact q1 (by omega) _ _ ⟨by rw [mk_next]; omega, by simp, ⟨by simp; omega, by omega⟩, 149, 0, .nils, by rw [Heap.get_mk, if_pos rfl], .inl ⟨rfl, rfl⟩, rfl⟩ (Nat.le_refl _) (Ext.mk _)
theorem nat_of {k : IntKind} {n y : Nat} (h : n ≤ y) : natOf (.int k (n : Int)) y = some n := by
  show (if 0 ≤ (n : Int) ∧ (n : Int) ≤ (y : Int) then some (n : Int).toNat else none) = some n
  rw [if_pos ⟨by omega, by omega⟩, Int.toNat_natCast]
section
variable {b off len cap sz lo hi mx : Nat} {k1 k2 k3 : IntKind}
theorem slV3 (h1 : lo ≤ hi) (h2 : hi ≤ mx) (h3 : mx ≤ cap) : sliceV sz (.sl b off len cap sz) (some (.int k1 (lo : Int))) (some (.int k2 (hi : Int))) (some (.int k3 (mx : Int))) = some (.sl b (off + lo * sz) (hi - lo) (mx - lo) sz) := by
  simp [sliceV, bounds, nat_of h1, nat_of h2, nat_of h3]
theorem slV2 (h1 : lo ≤ hi) (h2 : hi ≤ cap) : sliceV sz (.sl b off len cap sz) (some (.int k1 (lo : Int))) (some (.int k2 (hi : Int))) none = some (.sl b (off + lo * sz) (hi - lo) (cap - lo) sz) := by
  simp [sliceV, bounds, nat_of h1, nat_of h2]
theorem slVhi (h2 : hi ≤ cap) : sliceV sz (.sl b off len cap sz) none (some (.int k2 (hi : Int))) none = some (.sl b off hi cap sz) := by
  simp [sliceV, bounds, nat_of h2]
theorem slVlo (h1 : lo ≤ len) : sliceV sz (.sl b off len cap sz) (some (.int k1 (lo : Int))) none none = some (.sl b (off + lo * sz) (len - lo) (cap - lo) sz) := by
  simp [sliceV, bounds, nat_of h1]
end
/-- a part of a row goes to the front -/
theorem del_cells {A B C z y : List AV} (hb : B.length = y.length) : (((A ++ B ++ C ++ z).take A.length ++ C ++ (A ++ B ++ C ++ z).drop (A.length + C.length)).take (A.length + C.length) ++ y ++ ((A ++ B ++ C ++ z).take A.length ++ C ++ (A ++ B ++ C ++ z).drop (A.length + C.length)).drop (A.length + C.length + y.length)) = A ++ C ++ (y ++ z) := by
  have e1 : (A ++ B ++ C ++ z).take A.length = A := by rw [List.append_assoc, List.append_assoc, List.take_left' rfl]
  rw [e1]
  have e2 : (A ++ C ++ (A ++ B ++ C ++ z).drop (A.length + C.length)).take (A.length + C.length) = A ++ C := List.take_left' (by rw [List.length_append])
  rw [e2]
  have e3 : (A ++ C ++ (A ++ B ++ C ++ z).drop (A.length + C.length)).drop (A.length + C.length + y.length) = z := by
    rw [← List.drop_drop, List.drop_left' (by rw [List.length_append]), List.drop_drop, show A.length + C.length + y.length = (A ++ B ++ C).length by simp only [List.length_append]; omega, List.drop_left' rfl]
  rw [e3, List.append_assoc]
theorem MK.del_cl (K : MK P α) (g : Pg P tab) {b cap e ver : Nat} {z : List AV} {i : Nat} (hi : i < xs.length) (hx : xs.length ≤ 64) (hb : b < h.next) (hg : h.get b = some (.cells (K.row xs ++ z) e ver)) (hl : xs.length * 16 + z.length = cap * 16) {Q : AV → Heap → Prop}
    (q : ∀ h' ver', h'.next = h.next → (∀ c, c ≠ b → h'.get c = h.get c) → h'.get b = some (.cells (K.row (xs.eraseIdx i) ++ (z16 ++ z)) e ver') → Q (.sl b 0 (xs.length - 1) cap 16) h') : Cl P 83 [.sl b 0 xs.length cap 16, .int .i64 i, .int .i64 ((i + 1 : Nat) : Int)] h Q := by
  refine g.cl (vf := v83) rfl rfl ?_
  have s1 := slV3 (b := b) (off := 0) (len := xs.length) (cap := cap) (sz := 16) (k1 := .i64) (k2 := .i64) (k3 := .i64) (show i ≤ i + 1 by omega) (show i + 1 ≤ xs.length by omega) (show xs.length ≤ cap by omega)
  have s2 := slVhi (b := b) (off := 0) (len := xs.length) (cap := cap) (sz := 16) (k2 := .i64) (hi := i) (by omega)
  have s3 := slVlo (b := b) (off := 0) (len := xs.length) (cap := cap) (sz := 16) (k1 := .i64) (lo := i + 1) (by omega)
  have s4 := slV2 (b := b) (off := 0) (len := xs.length - 1) (cap := cap) (sz := 16) (k1 := .i64) (k2 := .i64) (lo := xs.length - 1) (hi := xs.length) (by omega) (by omega)
  have n1 : ¬ ((i : Int) = ((i + 1 : Nat) : Int)) := by omega
  obtain ⟨A, x, C, rfl, hA⟩ : ∃ A x C, xs = A ++ x :: C ∧ A.length = i := ⟨xs.take i, xs[i], xs.drop (i + 1), by rw [List.getElem_cons_drop, List.take_append_drop], by rw [List.length_take]; omega⟩
  have er : (A ++ x :: C).eraseIdx i = A ++ C := by rw [← hA, List.eraseIdx_append_of_length_le (Nat.le_refl _)]; simp
  have eR : K.row (A ++ x :: C) = K.row A ++ K.C x ++ K.row C := by rw [K.row_app, show x :: C = [x] ++ C from rfl, K.row_app, K.row_one, List.append_assoc]
  have lA := K.row_len A
  have lC := K.row_len C
  have lx := K.len x
  have ll : (A ++ x :: C).length = A.length + C.length + 1 := by simp; omega
  rw [eR] at hg
  have hc : cellsOf h 16 ((A ++ x :: C).length - (i + 1)) (.sl b (0 + (i + 1) * 16) ((A ++ x :: C).length - (i + 1)) (cap - (i + 1)) 16) = some (K.row C) := by
    simp only [cellsOf, Nat.le_refl, if_true, hg]
    have : (K.row A ++ K.C x ++ K.row C ++ z).drop (0 + (i + 1) * 16) = K.row C ++ z := by
      rw [List.append_assoc (K.row A ++ K.C x), List.drop_left' (by rw [List.length_append, lA, lx]; omega)]
    have e2 : ((A ++ x :: C).length - (i + 1)) * 16 = (K.row C).length := by rw [lC, ll]; omega
    rw [cut_eq, this, e2, List.take_left' rfl, if_pos rfl]
  have oC := K.row_all C
  have hw : writeAt h b (0 + i * 16) (K.row C) = some (h.put b (.cells ((K.row A ++ K.C x ++ K.row C ++ z).take (K.row A).length ++ K.row C ++ (K.row A ++ K.C x ++ K.row C ++ z).drop ((K.row A).length + (K.row C).length)) e (ver + 1))) := by
    rw [writeAt_go, hg, wrB_some, if_pos ⟨by simp only [List.length_append]; omega, oC⟩, show 0 + i * 16 = (K.row A).length by omega]
  have ha : appendV h 16 160 63 (.sl b 0 i cap 16) (.sl b (0 + (i + 1) * 16) ((A ++ x :: C).length - (i + 1)) (cap - (i + 1)) 16) = some (.sl b 0 ((A ++ x :: C).length - 1) cap 16, h.put b (.cells ((K.row A ++ K.C x ++ K.row C ++ z).take (K.row A).length ++ K.row C ++ (K.row A ++ K.C x ++ K.row C ++ z).drop ((K.row A).length + (K.row C).length)) e (ver + 1))) := by
    have e1 : (K.row C).length = ((A ++ x :: C).length - (i + 1)) * 16 := by rw [lC, ll]; omega
    have e2 : i + ((A ++ x :: C).length - (i + 1)) ≤ cap := by omega
    have e3 : i + ((A ++ x :: C).length - (i + 1)) = (A ++ x :: C).length - 1 := by omega
    have e4 : (A ++ x :: C).length - 1 ≤ cap := by omega
    simp only [appendV, lenV, hc, e1, oC, and_self, if_true, Nat.beq_refl, cond_true, hw, e3, e4]
  have hw2 : writeAt (h.put b (.cells ((K.row A ++ K.C x ++ K.row C ++ z).take (K.row A).length ++ K.row C ++ (K.row A ++ K.C x ++ K.row C ++ z).drop ((K.row A).length + (K.row C).length)) e (ver + 1))) b (0 + ((A ++ x :: C).length - 1) * 16) z16 = some ((h.put b (.cells ((K.row A ++ K.C x ++ K.row C ++ z).take (K.row A).length ++ K.row C ++ (K.row A ++ K.C x ++ K.row C ++ z).drop ((K.row A).length + (K.row C).length)) e (ver + 1))).put b (.cells (K.row A ++ K.row C ++ (z16 ++ z)) e (ver + 1 + 1))) := by
    rw [writeAt_go, Heap.get_put, if_pos rfl, wrB_some, if_pos ⟨by simp only [List.length_append, List.length_take, List.length_drop]; simp; omega, by rfl⟩, show 0 + ((A ++ x :: C).length - 1) * 16 = (K.row A).length + (K.row C).length by omega, del_cells (by rw [lx]; rfl)]
  have hcl : (A ++ x :: C).length - ((A ++ x :: C).length - 1) = 1 := by omega
  rw [Nat.zero_add] at ha hw2 s1 s3 s4
  rw [hcl] at s4
  have hcs := clS_go (z := z16) (b := b) (off := ((A ++ x :: C).length - 1) * 16) (len := 1) (cap := cap - ((A ++ x :: C).length - 1)) (sz := 16) (by decide) ((by rw [List.replicate_one, List.flatten_singleton]; exact hw2 : writeAt _ b (((A ++ x :: C).length - 1) * 16) (List.replicate 1 z16).flatten = _))
  simp only [v83, s1, s2, s3, s4, n1, ha, vop_clearS, hcs, RX, VOp.fresh, bxC, bsC, un, most, callsOf, seval, Int.reducePow, ↓reduceIte, Nat.reduceEqDiff, reduceCtorEq]
  refine q _ (ver + 1 + 1) rfl (fun c hc => by rw [Heap.get_put, if_neg hc, Heap.get_put, if_neg hc]) ?_
  rw [Heap.get_put, if_pos rfl, er, K.row_app]
  rfl
end
end Go.Proofs.Ytinonmcnofjeeaa.VM
namespace Go.Proofs.Ytinonmcnofjeeaa.VM
attribute [local irreducible] Af Nx EvO Ev Un Gd Cd EvR EvQ EvC Nc Gc Lp EvM NxM AfM GdM EvMR EvMQ EvMD EvMC Nm Gm
section
variable {P : Program} {α : Type} {K : MK P α} {h h' : Heap} {v : AV} {xs : List α} {D D' : List Nat} {qb : Nat} {mo : Int}
theorem QF.refl : QF h h qb D D := ⟨Nat.le_refl _, fun b hb => .inl hb, fun _ _ _ _ => rfl⟩
theorem QF.trans {h1 h2 : Heap} {D1 D2 : List Nat} (a : QF h h1 qb D D1) (b : QF h1 h2 qb D1 D2) (hD : ∀ b ∈ D, b < h.next) : QF h h2 qb D D2 := by
  refine ⟨Nat.le_trans a.1 b.1, fun c hc => ?_, fun c hc hq hn => ?_⟩
  · rcases b.2.1 c hc with e | e
    · exact a.2.1 c e
    · exact .inr (Nat.le_trans a.1 e)
  · rw [b.2.2 c (Nat.lt_of_lt_of_le hc a.1) hq fun hc1 => ?_, a.2.2 c hc hq hn]
    rcases a.2.1 c hc1 with e | e
    · exact hn e
    · omega
theorem Ext.qf (x : Ext h h') : QF h h' qb D D := ⟨x.1, fun b hb => .inl hb, fun b hb _ _ => x.2 b hb⟩
theorem QS.ext (q : QS K h qb mo xs D) (x : Ext h h') : QS K h' qb mo xs D := by
  obtain ⟨a, b, c, e, ver, v, g, r, rfl⟩ := q
  exact ⟨Nat.lt_of_lt_of_le a x.1, b, c, e, ver, v, (x.2 _ a).trans g, r.frame x.1 fun d hd => x.2 d (r.lt d hd), rfl⟩
theorem QS.frame' (q : QS K h qb mo xs D) (hn : h.next ≤ h'.next) (kq : h'.get qb = h.get qb) (k : ∀ b ∈ D, h'.get b = h.get b) : QS K h' qb mo xs D := by
  obtain ⟨a, b, c, e, ver, v, g, r, rfl⟩ := q
  exact ⟨by omega, b, c, e, ver, v, kq.trans g, r.frame hn k, rfl⟩
theorem QS.lt (q : QS K h qb mo xs D) : ∀ b ∈ D, b < h.next := by
  obtain ⟨a, b, c, e, ver, v, g, r, rfl⟩ := q
  exact r.lt
theorem MK.send_cl (K : MK P α) (g : Pg P tab) {x : α} (q : QS K h qb mo xs D) {c : List AV} (lc : ∀ h', Ext h h' → Fzs true h' c (K.C x)) (hc : c.length = 16) (oc : c.all AV.one = true) {Q : AV → Heap → Prop}
    (k0 : K.E x = false → ∀ h', QS K h' qb mo xs D → Ext h h' → ∃ e, e = 1700 ∧ Q (.int .i64 e) h')
    (k1 : K.E x = true → ¬ (xs.length : Int) < mo → ∀ h', QS K h' qb mo xs D → Ext h h' → ∃ e, e = 1701 ∧ Q (.int .i64 e) h')
    (k2 : K.E x = true → (xs.length : Int) < mo → ∀ h' y D', K.R x y → QS K h' qb mo (xs ++ [y]) D' → QF h h' qb D D' → ∃ e, e = 0 ∧ Q (.int .i64 e) h') : Cl P 35 [.ptr qb 0, .agg c] h Q := by
  refine g.cl (vf := v35) rfl rfl ?_
  have x1 := Ext.mk (h := h) (.cells c 63 0)
  have q1 := q.ext x1
  have g1 : (h.mk' h.next (.cells c 63 0)).get h.next = some (.cells c 63 0) := by rw [Heap.get_mk, if_pos rfl]
  have lc1 := lc _ x1
  have n1 : (h.mk' h.next (.cells c 63 0)).next = h.next + 1 := by rw [mk_next]; omega
  have ct : c.take 16 = c := List.take_of_length_le (by omega)
  simp only [v35, HE, RX, VOp.fresh, bxC, bsC, un, most, callsOf, seval, Int.reducePow, ↓reduceIte, Nat.reduceEqDiff, reduceCtorEq]
  clear lc
  generalize hH : h.mk' h.next (.cells c 63 0) = h1 at *
  simp only [g1, hc, ct, RX, VOp.fresh, bxC, bsC, un, most, callsOf, seval, Int.reducePow, ↓reduceIte, Nat.reduceEqDiff, reduceCtorEq]
  refine (K.pt x).cl (.cons (.agg lc1) .nil) ?_
  rintro v ⟨S, e, rfl, he⟩
  by_cases hE : K.E x = true
  · obtain rfl := he.2 hE
    obtain ⟨a, b, ⟨c1, c2⟩, e1, ver1, v1, gq, r, rfl⟩ := q1
    simp only [gq, r.len, RX, VOp.fresh, bxC, bsC, un, most, callsOf, seval, Int.reducePow, ↓reduceIte, Nat.reduceEqDiff, reduceCtorEq]
    by_cases hl : (xs.length : Int) < mo
    · have hl' : ¬ mo ≤ (xs.length : Int) := by omega
      obtain ⟨v2, v2', hz, o, hf, y, rfl, hy⟩ := K.cp x
      have ok : OK P 82 [.agg c] h1 (.agg (K.C y)) h1 := o.pure (.cons (.agg lc1) .nil) hf
      have ly := K.len y
      have ty : (K.C y).take 16 = K.C y := List.take_of_length_le (by omega)
      have x2 := Ext.mk (h := h1) (.cells (K.C y) 63 0)
      have g2 : (h1.mk' h1.next (.cells (K.C y) 63 0)).get h1.next = some (.cells (K.C y) 63 0) := by rw [Heap.get_mk, if_pos rfl]
      have r2 := r.frame x2.1 fun b hb => x2.2 b (r.lt b hb)
      have gq2 := (x2.2 qb a).trans gq
      have n2 : (h1.mk' h1.next (.cells (K.C y) 63 0)).next = h1.next + 1 := by rw [mk_next]; omega
      obtain ⟨v3, h3, ea, r3, n3, d3, k3⟩ := r2.push (by omega) g2
      have gq3 := (k3 qb (by omega) b).trans gq2
      have o3 := r3.one
      have c3 := r3.cells
      simp only [hl', RX, VOp.fresh, bxC, bsC, un, most, callsOf, seval, Int.reducePow, ↓reduceIte, Nat.reduceEqDiff, reduceCtorEq]
      refine EvD.lk (fun _ _ _ => (.agg (K.C y), h1)) ?_
      simp only [gq, g1, hc, ct, ok, ly, ty, ea, gq3, o3, c3, List.append_nil, RW, RX, VOp.fresh, bxC, bsC, un, most, callsOf, seval, Int.reducePow, ↓reduceIte, Nat.reduceEqDiff, reduceCtorEq]
      refine ⟨⟨⟨?_, ?_, trivial⟩, trivial⟩, ?_⟩
      · show Lk _ _ _ _
        simp only [Lk, wanted, gq, RX, VOp.fresh, bxC, bsC, un, most, callsOf, seval, Int.reducePow, ↓reduceIte, Nat.reduceEqDiff, reduceCtorEq]
      · show Lk _ _ _ _
        simp only [Lk, wanted, gq2, RX, VOp.fresh, bxC, bsC, un, most, callsOf, seval, Int.reducePow, ↓reduceIte, Nat.reduceEqDiff, reduceCtorEq]
      obtain ⟨_, rfl, hq⟩ := k2 hE hl (h3.put qb (.cells [.int .i64 mo, v3] e1 (ver1 + 1))) y (blkOf v3) hy
        ⟨by rw [put_next]; omega, fun hb => (d3 qb hb).elim b (fun e => by omega), ⟨by rw [List.length_append, List.length_singleton]; omega, c2⟩, e1, ver1 + 1, v3, by rw [Heap.get_put, if_pos rfl],
          r3.frame (by rw [put_next]; exact Nat.le_refl _) (fun d hd => by rw [Heap.get_put, if_neg]; intro e; exact (d3 d hd).elim (fun f => b (e ▸ f)) (fun f => by omega)), rfl⟩
        ⟨by rw [put_next]; omega, fun d hd => (d3 d hd).imp id (fun e => by omega), fun d hd hn1 hn2 => by
          rw [Heap.get_put, if_neg hn1, k3 d (by omega) hn2, x2.2 d (by omega), x1.2 d hd]⟩
      exact hq
    · have hl' : mo ≤ (xs.length : Int) := by omega
      simp only [hl', RX, VOp.fresh, bxC, bsC, un, most, callsOf, seval, Int.reducePow, ↓reduceIte, Nat.reduceEqDiff, reduceCtorEq]
      obtain ⟨_, rfl, hq⟩ := k1 hE hl h1 ⟨a, b, ⟨c1, c2⟩, e1, ver1, v1, gq, r, rfl⟩ x1
      exact hq
  · have hne : ¬ e = 0 := fun c => hE (he.1 c)
    simp only [hne, RX, VOp.fresh, bxC, bsC, un, most, callsOf, seval, Int.reducePow, ↓reduceIte, Nat.reduceEqDiff, reduceCtorEq]
    obtain ⟨_, rfl, hq⟩ := k0 (by simpa using hE) h1 q1 x1
    exact hq
theorem QRow.look (r : QRow K h v xs) {i : Nat} (hi : i < xs.length) : ∃ b cap e ver L, v = .sl b 0 xs.length cap 16 ∧ b < h.next ∧ h.get b = some (.cells L e ver) ∧ part true L (i * 16) 16 = some (.agg (K.C xs[i])) ∧ (∀ (hh : Heap) (kk : IntKind), iaV hh 16 none v (.int kk (i : Int)) = .val (.ptr b (i * 16)) hh) := by
  rcases r with ⟨rfl, rfl⟩ | ⟨b, cap, e, ver, z, rfl, hb, hg, hl, hz⟩
  · simp at hi
  · refine ⟨b, cap, e, ver, _, rfl, hb, hg, ?_, fun hh kk => ?_⟩
    · have e1 : xs = xs.take i ++ xs[i] :: xs.drop (i + 1) := by rw [List.getElem_cons_drop, List.take_append_drop]
      have e2 : K.row xs = K.row (xs.take i) ++ (K.C xs[i] ++ K.row (xs.drop (i + 1))) := by
        conv => lhs; rw [e1]
        rw [K.row_app, show xs[i] :: xs.drop (i + 1) = [xs[i]] ++ xs.drop (i + 1) from rfl, K.row_app, K.row_one]
      have l1 : (K.row (xs.take i)).length = i * 16 := by rw [K.row_len, List.length_take]; omega
      have l2 := K.len xs[i]
      have e3 : ((K.row xs ++ z).drop (i * 16)).take 16 = K.C xs[i] := by
        rw [e2, List.append_assoc, List.drop_left' l1, List.append_assoc, List.take_left' l2]
      rw [part_eq, e3, if_pos l2]
      rfl
    · have : 0 ≤ (i : Int) ∧ (i : Int) < (xs.length : Int) ∧ 16 = 16 := ⟨by omega, by omega, rfl⟩
      simp only [iaV, this, and_self, if_true, Int.toNat_natCast, Nat.zero_add]
theorem MK.take_cl (K : MK P α) (g : Pg P tab) (q : QS K h qb mo xs D) {i : Int} {Q : AV → Heap → Prop}
    (k0 : ¬ (0 ≤ i ∧ i < (xs.length : Int)) → ∀ h', QS K h' qb mo xs D → QF h h' qb D D → Q (.tup [.agg z16, .int .i64 1700]) h')
    (k1 : ∀ (j : Nat) (hj : j < xs.length), i = (j : Int) → ∀ h', QS K h' qb mo (xs.eraseIdx j) D → QF h h' qb D D → Q (.tup [.agg (K.C xs[j]), .int .i64 0]) h') : Cl P 37 [.ptr qb 0, .int .i64 i] h Q := by
  refine g.cl (vf := v37) rfl rfl ?_
  obtain ⟨a, b, ⟨c1, c2⟩, e1, ver1, v1, gq, r, rfl⟩ := q
  have hne : ¬ qb = h.next := by omega
  have hne' : ¬ h.next = qb := by omega
  have q0 : QS K h qb mo xs (blkOf v1) := ⟨a, b, ⟨c1, c2⟩, e1, ver1, v1, gq, r, rfl⟩
  by_cases i0 : i < 0
  · simp only [v37, HE, i0, RW, RX, VOp.fresh, bxC, bsC, un, most, callsOf, seval, Int.reducePow, ↓reduceIte, Nat.reduceEqDiff, reduceCtorEq]
    have x := Ext.new (h := h) (o := .cells z16 63 0) (o' := .cells z16 63 1)
    exact k0 (by omega) _ (q0.ext x) x.qf
  by_cases i1 : (xs.length : Int) ≤ i
  · simp only [v37, HE, i0, i1, hne, gq, r.len, RW, RX, VOp.fresh, bxC, bsC, un, most, callsOf, seval, Int.reducePow, ↓reduceIte, Nat.reduceEqDiff, reduceCtorEq]
    have x := Ext.new (h := h) (o := .cells z16 63 0) (o' := .cells z16 63 1)
    exact k0 (by omega) _ (q0.ext x) x.qf
  obtain ⟨j, rfl⟩ : ∃ j : Nat, i = (j : Int) := ⟨i.toNat, by omega⟩
  have hj : j < xs.length := by omega
  obtain ⟨bb, cap, e2, ver2, L, rfl, hb2, g2, hp, hia⟩ := r.look hj
  have hbq : ¬ qb = bb := fun e => b (by simp [blkOf, e])
  have w1 : IntKind.i64.wrap ((j : Int) + 1) = ((j + 1 : Nat) : Int) := by rw [w64 (by omega) (by omega)]; push_cast; rfl
  have hbn : ¬ bb = h.next := by omega
  have hbn1 : ¬ bb = h.next + 1 := by omega
  have hqn1 : ¬ qb = h.next + 1 := by omega
  have hqn2 : ¬ h.next + 1 = qb := by omega
  have lC := K.len xs[j]
  have oC := K.one xs[j]
  have tC : (K.C xs[j]).take 16 = K.C xs[j] := List.take_of_length_le (by omega)
  simp only [v37, HE, i0, i1, hne, hbn, hbn1, hqn1, gq, g2, hp, hia, r.len, lC, oC, w1, HN, RW, RX, VOp.fresh, bxC, bsC, un, most, callsOf, seval, Int.reducePow, ↓reduceIte, Nat.reduceEqDiff, reduceCtorEq]
  have x := Ext.mk (h := h) (.cells z16 63 0)
  have nx : (h.mk' h.next (.cells z16 63 0)).next = h.next + 1 := by rw [mk_next]; omega
  have x2 := Ext.new (h := h.mk' h.next (.cells z16 63 0)) (o := .cells z16 63 0) (o' := .cells (K.C xs[j]) 63 1)
  rw [nx] at x2
  have xx := x.trans x2
  have nn : (((h.mk' h.next (.cells z16 63 0)).mk' (h.next + 1) (.cells z16 63 0)).put (h.next + 1) (.cells (K.C xs[j]) 63 1)).next = h.next + 2 := by
    have := new_next (h := h.mk' h.next (.cells z16 63 0)) (o := .cells z16 63 0) (o' := .cells (K.C xs[j]) 63 1)
    rw [nx] at this
    omega
  have gz : (((h.mk' h.next (.cells z16 63 0)).mk' (h.next + 1) (.cells z16 63 0)).put (h.next + 1) (.cells (K.C xs[j]) 63 1)).get h.next = some (.cells z16 63 0) := by
    rw [Heap.get_put, if_neg (by omega), Heap.get_mk, if_neg (by omega), Heap.get_mk, if_pos rfl]
  have gm : (((h.mk' h.next (.cells z16 63 0)).mk' (h.next + 1) (.cells z16 63 0)).put (h.next + 1) (.cells (K.C xs[j]) 63 1)).get (h.next + 1) = some (.cells (K.C xs[j]) 63 1) := by
    rw [Heap.get_put, if_pos rfl]
  have q2 := q0.ext xx
  rw [List.append_nil]
  generalize ((h.mk' h.next (.cells z16 63 0)).mk' (h.next + 1) (.cells z16 63 0)).put (h.next + 1) (.cells (K.C xs[j]) 63 1) = h2 at *
  obtain ⟨_, _, _, e3, ver3, v3, gq3, r3, _⟩ := q2
  obtain rfl : v3 = .sl bb 0 xs.length cap 16 := by
    have := (xx.2 qb a).trans gq
    rw [gq3] at this
    simp only [Option.some.injEq, Blk.cells.injEq, List.cons.injEq, and_true, true_and] at this
    exact this.1
  rcases id r3 with ⟨h0, _⟩ | ⟨b', cap', e4, ver4, z, ev, hb4, g4, hl4, hz4⟩
  · cases h0
  cases ev
  refine K.del_cl g hj (by omega) hb4 g4 hl4 fun h3 v5 n3 k3 g3 => ?_
  have gq4 := (k3 qb hbq).trans gq3
  have gz4 := (k3 h.next (by omega)).trans gz
  have gm4 := (k3 (h.next + 1) (by omega)).trans gm
  simp only [gq4, gz4, gm4, lC, oC, tC, hne, hqn1, hqn2, hne', HN, List.append_nil, RW, RX, VOp.fresh, bxC, bsC, un, most, callsOf, seval, Int.reducePow, ↓reduceIte, Nat.reduceEqDiff, reduceCtorEq]
  refine k1 j hj rfl _ ?_ ?_
  · refine ⟨by rw [put_next, put_next]; omega, b, ⟨by rw [List.length_eraseIdx_of_lt hj]; omega, c2⟩, e3, ver3 + 1, .sl bb 0 (xs.length - 1) cap 16, ?_, .inr ⟨bb, cap, e4, v5, z16 ++ z, ?_, by rw [put_next, put_next]; omega, ?_, ?_, ?_⟩, rfl⟩
    · rw [Heap.get_put, if_neg hne, Heap.get_put, if_pos rfl]
    · rw [List.length_eraseIdx_of_lt hj]
    · rw [Heap.get_put, if_neg hbn, Heap.get_put, if_neg (fun e => hbq e.symm), g3]
    · rw [List.length_append, List.length_eraseIdx_of_lt hj, show z16.length = 16 from rfl]; omega
    · rw [List.all_append, hz4]; rfl
  · refine ⟨by rw [put_next, put_next]; omega, fun c hc => .inl hc, fun c hc h1 h2 => ?_⟩
    simp only [blkOf, List.mem_singleton] at h2
    rw [Heap.get_put, if_neg (by omega), Heap.get_put, if_neg h1, k3 c h2]
    exact xx.2 c hc
theorem MK.copy_cl (K : MK P α) (g : Pg P tab) (q : QS K h qb mo xs D) {i : Int} {Q : AV → Heap → Prop}
    (k0 : ¬ (0 ≤ i ∧ i < (xs.length : Int)) → ∀ h', QS K h' qb mo xs D → QF h h' qb D D → ∃ e, e = 1700 ∧ Q (.int .i64 e) h')
    (k1 : ∀ (j : Nat) (hj : j < xs.length), i = (j : Int) → K.E xs[j] = true → ¬ (xs.length : Int) < mo → ∀ h', QS K h' qb mo xs D → QF h h' qb D D → ∃ e, e = 1701 ∧ Q (.int .i64 e) h')
    (k2 : ∀ (j : Nat) (hj : j < xs.length), i = (j : Int) → K.E xs[j] = true → (xs.length : Int) < mo → ∀ h' y D', K.R xs[j] y → QS K h' qb mo (xs ++ [y]) D' → QF h h' qb D D' → ∃ e, e = 0 ∧ Q (.int .i64 e) h')
    (hE : ∀ x ∈ xs, K.E x = true) : Cl P 39 [.ptr qb 0, .int .i64 i] h Q := by
  refine g.cl (vf := v39) rfl rfl ?_
  obtain ⟨a, b, ⟨c1, c2⟩, e1, ver1, v1, gq, r, rfl⟩ := q
  have q0 : QS K h qb mo xs (blkOf v1) := ⟨a, b, ⟨c1, c2⟩, e1, ver1, v1, gq, r, rfl⟩
  by_cases i0 : i < 0
  · simp only [v39, HE, i0, RW, RX, VOp.fresh, bxC, bsC, un, most, callsOf, seval, Int.reducePow, ↓reduceIte, Nat.reduceEqDiff, reduceCtorEq]
    obtain ⟨_, rfl, hq⟩ := k0 (by omega) _ q0 QF.refl
    exact hq
  by_cases i1 : (xs.length : Int) ≤ i
  · simp only [v39, HE, i0, i1, gq, r.len, RW, RX, VOp.fresh, bxC, bsC, un, most, callsOf, seval, Int.reducePow, ↓reduceIte, Nat.reduceEqDiff, reduceCtorEq]
    obtain ⟨_, rfl, hq⟩ := k0 (by omega) _ q0 QF.refl
    exact hq
  obtain ⟨j, rfl⟩ : ∃ j : Nat, i = (j : Int) := ⟨i.toNat, by omega⟩
  have hj : j < xs.length := by omega
  obtain ⟨bb, cap, e2, ver2, L, rfl, hb2, g2, hp, hia⟩ := r.look hj
  have hEj := hE _ (List.getElem_mem hj)
  simp only [v39, HE, i0, i1, gq, g2, hp, hia, r.len, RX, VOp.fresh, bxC, bsC, un, most, callsOf, seval, Int.reducePow, ↓reduceIte, Nat.reduceEqDiff, reduceCtorEq]
  refine K.send_cl g q0 (fun _ _ => Fzs.refl (K.told xs[j])) (K.len _) (K.one _) (fun c => by rw [hEj] at c; cases c) (fun _ hl h' q' x' => ?_) (fun _ hl h' y D' hy q' f' => ?_)
  · obtain ⟨_, rfl, hq⟩ := k1 j hj rfl hEj hl h' q' x'.qf
    refine ⟨_, rfl, ?_⟩
    simp only [RX, VOp.fresh, bxC, bsC, un, most, callsOf, seval, Int.reducePow, ↓reduceIte, Nat.reduceEqDiff, reduceCtorEq]
    exact hq
  · obtain ⟨_, rfl, hq⟩ := k2 j hj rfl hEj hl h' y D' hy q' f'
    refine ⟨_, rfl, ?_⟩
    simp only [RX, VOp.fresh, bxC, bsC, un, most, callsOf, seval, Int.reducePow, ↓reduceIte, Nat.reduceEqDiff, reduceCtorEq]
    exact hq
end
end Go.Proofs.Ytinonmcnofjeeaa.VM
namespace Go.Proofs.Ytinonmcnofjeeaa.VM
attribute [local irreducible] Af Nx EvO Ev Un Gd Cd EvR EvQ EvC Nc Gc Lp EvM NxM AfM GdM EvMR EvMQ EvMD EvMC Nm Gm
section
variable {P : Program} {α : Type} {K : MK P α} {h0 : Heap} {w : AV} {xs : List α} {D : List Nat} {qb : Nat} {mo : Int}
theorem all_loop (g : Pg P tab) (r0 : QRow K h0 w xs) (hx : xs.length ≤ 64) (n : Nat) : ∀ (i : Nat) (ys : List α) (s : T AV) (h : Heap) (k : List Fr) (Q : Ex → T AV → Heap → Prop), i + n = xs.length → Ext h0 h → Row h (sg s 3) 16 (K.row ys) i → ys.length = i → (∀ j (h1 : j < ys.length) (h2 : j < xs.length), K.R xs[j] ys[j]) →
    (∀ b ∈ blkOf (sg s 3), h0.next ≤ b) → sg s 11 = w → sg s 12 = .int .i64 xs.length → sg s 13 = .int .i64 i →
    (∀ s' h' ys', Ext h0 h' → Row h' (sg s' 3) 16 (K.row ys') xs.length → ys'.length = xs.length → (∀ j (h1 : j < ys'.length) (h2 : j < xs.length), K.R xs[j] ys'[j]) → (∀ b ∈ blkOf (sg s' 3), h0.next ≤ b) → Un P k Q (.exit 0) s' h') → Lp P b41_0 s h (Un P k Q) := by
  induction n with
  | zero =>
    intro i ys s h k Q hi xe r hl hR hb t11 t12 t13 hQ
    refine g.lpe b41_0.eq_1 ?_
    have c1 : ¬ ((i : Int) < (xs.length : Int)) := by omega
    simp only [t12, t13, c1, RX, VOp.fresh, bxC, bsC, un, most, callsOf, seval, Int.reducePow, ↓reduceIte, Nat.reduceEqDiff, reduceCtorEq]
    have hi' : i = xs.length := by omega
    refine hQ _ _ ys xe ?_ (by omega) hR ?_
    · simp only [sg_set, Nat.reduceEqDiff, ↓reduceIte]
      rw [← hi']; exact r
    · simp only [sg_set, Nat.reduceEqDiff, ↓reduceIte]
      exact hb
  | succ n ih =>
    intro i ys s h k Q hi xe r hl hR hb t11 t12 t13 hQ
    refine g.lpe b41_0.eq_1 ?_
    have c1 : (i : Int) < (xs.length : Int) := by omega
    have w1 : IntKind.i64.wrap ((i : Int) + 1) = ((i + 1 : Nat) : Int) := by rw [w64 (by omega) (by omega)]; push_cast; rfl
    have hi' : i < xs.length := by omega
    have rf := r0.frame xe.1 fun b hb => xe.2 b (r0.lt b hb)
    obtain ⟨bb, cap, e2, ver2, L, ew, hb2, g2, hp, hia⟩ := rf.look hi'
    have lC := K.len xs[i]
    have oC := K.one xs[i]
    have tC : (K.C xs[i]).take 16 = K.C xs[i] := List.take_of_length_le (by omega)
    simp only [t11, t12, t13, c1, hia, g2, hp, lC, oC, tC, List.append_nil, RW, RX, VOp.fresh, bxC, bsC, un, most, callsOf, seval, Int.reducePow, ↓reduceIte, Nat.reduceEqDiff, reduceCtorEq]
    have x1 := Ext.new (h := h) (o := .cells z16 63 0) (o' := .cells (K.C xs[i]) 63 1)
    have n1 : ((h.mk' h.next (.cells z16 63 0)).put h.next (.cells (K.C xs[i]) 63 1)).next = h.next + 1 := new_next
    generalize (h.mk' h.next (.cells z16 63 0)).put h.next (.cells (K.C xs[i]) 63 1) = h1 at *
    refine (K.cp xs[i]).go (by simp [AV.tolds, AV.told, K.told]) ?_
    rintro v ⟨y, rfl, hy⟩
    have ly := K.len y
    have x2 := Ext.mk (h := h1) (.cells (K.C y) 63 0)
    have hlt := r.lt
    obtain ⟨h3, ea, r3, n3, k3⟩ := ((r.ext x1).ext x2).push (nb := h1.next) (by rw [Heap.get_mk, if_pos rfl]) ly (K.one y) (bytes := 160) (by unfold most2; omega) 63
    rw [show (h1.mk' h1.next (.cells (K.C y) 63 0)).next = h1.next + 1 by rw [mk_next]; omega] at ea r3 n3 k3
    have ty : (K.C y).take 16 = K.C y := List.take_of_length_le (by omega)
    simp only [t13, w1, ly, ty, ea, List.append_nil, RX, VOp.fresh, bxC, bsC, un, most, callsOf, seval, Int.reducePow, ↓reduceIte, Nat.reduceEqDiff, reduceCtorEq]
    have x3 : ∀ b, b < h0.next → h3.get b = h.get b := fun b hb' => by
      have := xe.1
      rw [k3 b (fun c => by have := hb b c; omega) (by omega), x2.2 b (by omega), x1.2 b (by omega)]
    refine ih (i + 1) (ys ++ [y]) _ h3 k Q (by omega) ⟨by have := xe.1; omega, fun b hb' => (x3 b hb').trans (xe.2 b hb')⟩ ?_ (by rw [List.length_append, List.length_singleton, hl]) ?_ ?_ ?_ ?_ ?_ hQ
    · simp only [sg_set, Nat.reduceEqDiff, ↓reduceIte]
      rw [K.row_app, K.row_one]; exact r3
    · intro j h1 h2
      rw [List.length_append, List.length_singleton] at h1
      by_cases hj : j < ys.length
      · rw [List.getElem_append_left hj]; exact hR j hj h2
      · have : j = i := by omega
        subst this
        rw [List.getElem_append_right (by omega)]
        simp only [hl, Nat.sub_self, List.getElem_singleton]
        exact hy
    · simp only [sg_set, Nat.reduceEqDiff, ↓reduceIte]
      intro b hb'
      simp only [blkOf, List.mem_singleton] at hb'
      have := xe.1
      omega
    · simp only [t11, sg_set, Nat.reduceEqDiff, ↓reduceIte]
    · simp only [t12, sg_set, Nat.reduceEqDiff, ↓reduceIte]
    · simp only [sg_set, Nat.reduceEqDiff, ↓reduceIte]
theorem MK.all_cl (K : MK P α) (g : Pg P tab) {h : Heap} (q : QS K h qb mo xs D) {Q : AV → Heap → Prop}
    (k : ∀ h' v ys, Ext h h' → Row h' v 16 (K.row ys) xs.length → ys.length = xs.length → (∀ j (h1 : j < ys.length) (h2 : j < xs.length), K.R xs[j] ys[j]) → (∀ b ∈ blkOf v, h.next ≤ b) → Q v h') : Cl P 41 [.ptr qb 0] h Q := by
  refine g.cl (vf := v41) rfl rfl ?_
  obtain ⟨a, b, ⟨c1, c2⟩, e1, ver1, v1, gq, r, rfl⟩ := q
  simp only [v41, HE, gq, r.len, RX, VOp.fresh, bxC, bsC, un, most, callsOf, seval, Int.reducePow, ↓reduceIte, Nat.reduceEqDiff, reduceCtorEq]
  refine all_loop (K := K) g r (by omega) xs.length 0 [] _ h _ _ (by omega) (Ext.refl _) ?_ rfl (fun j h1 => by simp at h1) ?_ ?_ ?_ ?_ ?_
  · simp only [sg_set, Nat.reduceEqDiff, ↓reduceIte]
    exact .nil _ _
  · simp only [sg_set, Nat.reduceEqDiff, ↓reduceIte]
    intro b hb; simp [blkOf] at hb
  · simp only [sg_set, Nat.reduceEqDiff, ↓reduceIte]
  · simp only [sg_set, Nat.reduceEqDiff, ↓reduceIte]
  · simp only [sg_set, Nat.reduceEqDiff, ↓reduceIte]
    rfl
  intro s' h' ys x r' hl hR hb
  simp only [RX, VOp.fresh, bxC, bsC, un, most, callsOf, seval, Int.reducePow, ↓reduceIte, Nat.reduceEqDiff, reduceCtorEq]
  exact k h' _ ys x r' hl hR hb
end
end Go.Proofs.Ytinonmcnofjeeaa.VM
namespace Go.Proofs.Ytinonmcnofjeeaa.VM
attribute [local irreducible] Af Nx EvO Ev Un Gd Cd EvR EvQ EvC Nc Gc Lp EvM NxM AfM GdM EvMR EvMQ EvMD EvMC Nm Gm
def nm (m : Ms) : Ms := ⟨m.kind, m.frm, m.to, m.node, m.seq, m.base, m.yes, m.query, m.applied, m.busy, m.box, [], []⟩
def askM (k : Int) : Ms := ⟨4, 0, 1, 0, k, 0, false, 0, 0, false, ⟨0, 0, 0, 0⟩, [], []⟩
open Classical in
noncomputable def plE (m : Ms) : Bool := decide (msOk (nm m) ∧ (msB (nm m)).length ≤ 16384)
theorem askOk (k : Int) : msOk (askM k) ↔ 1 ≤ k ∧ k ≤ 65535 := by
  simp [msOk, askM, nodeOk, txM, opsM, queryM, partM, kTx, kYes, kOps, kQuery, kPart, zeroBox, txOk]
theorem askLen (k : Int) : (msB (askM k)).length ≤ 16384 := by
  simp [msB, askM, kTx, kYes, kOps, kQuery, kPart, numB_len, txB]
theorem plE_ask (k : Int) : plE (askM k) = decide (1 ≤ k ∧ k ≤ 65535) := by
  have : nm (askM k) = askM k := rfl
  unfold plE
  rw [this]
  have := askOk k
  have := askLen k
  by_cases h : 1 ≤ k ∧ k ≤ 65535 <;> simp [*]
section
variable {P : Program}
theorem tl_nils {h : Heap} {R : AV → Prop} : Tl h .nils R = R .nils := propext ⟨fun ⟨_, f, r⟩ => by cases f; exact r, fun r => ⟨_, .nils, r⟩⟩
theorem msFz (h : Heap) (m : Ms) : Fz false h (.agg (msC m .nils .nils)) (.agg (msC m .nils .nils)) := .agg (.cons (.int _ _) (.cons (.int _ _) (.cons (.int _ _) (.cons (.int _ _) (.cons (.int _ _) (.cons (.int _ _) (.cons (.bool _) (.cons (.int _ _) (.cons (.int _ _) (.cons (.bool _) (.cons (.int _ _) (.cons (.int _ _) (.cons (.int _ _) (.cons (.int _ _) (.cons .nils (.cons .nils .nil))))))))))))))))
theorem cl116 (g : Pg P tab) : Pu P 116 [.nils] (fun v => v = .nils) := by
  refine g.pu (vf := v116) rfl rfl ?_
  simp only [v116, HE, tl_nils, RX, VOp.fresh, bxC, bsC, un, most, callsOf, seval, Int.reducePow, ↓reduceIte, Nat.reduceEqDiff, reduceCtorEq]
theorem cp105 (g : Pg P tab) : Pu P 105 [.nils] (fun v => v = .nils) := by
  refine g.pu (vf := v105) rfl rfl ?_
  simp only [v105, RX, VOp.fresh, bxC, bsC, un, most, callsOf, seval, Int.reducePow, ↓reduceIte, Nat.reduceEqDiff, reduceCtorEq]
  refine (cl116 g).go rfl ?_
  rintro v rfl
  simp only [RX, VOp.fresh, bxC, bsC, un, most, callsOf, seval, Int.reducePow, ↓reduceIte, Nat.reduceEqDiff, reduceCtorEq]
  refine g.lpe b105_0.eq_1 ?_
  simp only [tl_nils, RX, VOp.fresh, bxC, bsC, un, most, callsOf, seval, Int.reducePow, ↓reduceIte, Nat.reduceEqDiff, reduceCtorEq]
theorem cp106 (g : Pg P tab) : Pu P 106 [.nils] (fun v => v = .nils) := by
  refine g.pu (vf := v106) rfl rfl ?_
  simp only [v106, RX, VOp.fresh, bxC, bsC, un, most, callsOf, seval, Int.reducePow, ↓reduceIte, Nat.reduceEqDiff, reduceCtorEq]
  refine g.lpe b106_0.eq_1 ?_
  simp only [tl_nils, RX, VOp.fresh, bxC, bsC, un, most, callsOf, seval, Int.reducePow, ↓reduceIte, Nat.reduceEqDiff, reduceCtorEq]
theorem cp82 (g : Pg P tab) (m : Ms) : Pu P 82 [.agg (msC m .nils .nils)] (fun v => v = .agg (msC m .nils .nils)) := by
  refine g.pu (vf := v82) rfl rfl ?_
  have o1 : ∀ h, OK P 105 [.nils] h .nils h := fun h => (cp105 g).exact rfl
  have o2 : ∀ h, OK P 106 [.nils] h .nils h := fun h => (cp106 g).exact rfl
  simp only [v82, msC, RX, VOp.fresh, bxC, bsC, un, most, callsOf, seval, Int.reducePow, ↓reduceIte, Nat.reduceEqDiff, reduceCtorEq]
  refine EvD.lk (fun _ _ h => (.nils, h)) ?_
  simp only [o1, o2, RW, RX, VOp.fresh, bxC, bsC, un, most, callsOf, seval, Int.reducePow, ↓reduceIte, Nat.reduceEqDiff, reduceCtorEq]
  refine ⟨⟨⟨?_, trivial⟩, trivial⟩, ?_⟩
  · show Lk _ _ _ _
    simp only [Lk, wanted, RX, VOp.fresh, bxC, bsC, un, most, callsOf, seval, Int.reducePow, ↓reduceIte, Nat.reduceEqDiff, reduceCtorEq]
  · exact ⟨_, msFz _ m, rfl⟩
theorem msC_told (m : Ms) : AV.tolds (msC m .nils .nils) = true := by simp [msC, AV.tolds, AV.told]
noncomputable def askK (g : Pg P tab) : MK P Ms where
  C m := msC m .nils .nils
  R a b := a = b
  E := plE
  len _ := rfl
  one _ := rfl
  told m := msC_told m
  cp m := (cp82 g m).mono fun v e => ⟨m, e, rfl⟩
  pt m := by
    have ia : IsL 112 ROp .nils (nm m).ops := isL_nil _ _
    have iu : IsL 40 RFeat .nils (nm m).fs := isL_nil _ _
    by_cases ok : msOk (nm m)
    · have pp := msgPut_good g ia iu ok
      refine pp.mono fun v e => ?_
      subst e
      unfold msAns plE
      by_cases hl : (msB (nm m)).length ≤ 16384
      · rw [if_pos hl]; exact ⟨_, _, rfl, by simp [ok, hl]⟩
      · rw [if_neg hl]; exact ⟨_, _, rfl, by simp [hl]⟩
    · refine (msgPut_bad g ia iu ok).mono fun v e => ?_
      subst e
      exact ⟨_, _, rfl, by simp [plE, ok]⟩
theorem ask_pu (g : Pg P tab) (k : Int) : Pu P 43 [.int .i64 k] (fun v => v = .agg (msC (askM k) .nils .nils)) := by
  refine g.pu (vf := v43) rfl rfl ?_
  simp only [v43, RW, RX, VOp.fresh, bxC, bsC, un, most, callsOf, seval, Int.reducePow, ↓reduceIte, Nat.reduceEqDiff, reduceCtorEq]
  exact ⟨_, msFz _ (askM k), rfl⟩
theorem awake17_pu (g : Pg P tab) : Pu P 34 [] (fun v => v = .bool true) := g.run (n := 400) (by kernel_rfl)
end
end Go.Proofs.Ytinonmcnofjeeaa.VM
namespace Go.Proofs.Ytinonmcnofjeeaa.VM
attribute [local irreducible] Af Nx EvO Ev Un Gd Cd EvR EvQ EvC Nc Gc Lp EvM NxM AfM GdM EvMR EvMQ EvMD EvMC Nm Gm
def sw11 : VCode := match b11_1 with | .seq _ (.seq (.block _ (.seq _ (.seq (.seq _ (.block _ t)) _))) _) => t | x => x
def tail11 : VCode := match b11_1 with | .seq _ (.seq (.block _ (.seq _ (.seq _ t))) _) => t | x => x
abbrev ic (l : List Int) : List AV := l.map (.int .i64)
section
variable {P : Program}
/-- what stands in a round -/
structure RI (g : Pg P tab) (w : AV) (qb : Nat) (K : Nat) (i : Nat) (row : List Int) (s : T AV) (h : Heap) : Prop where
  t1 : sg s 1 = w
  t5 : sg s 5 = .int .i64 K
  t6 : sg s 6 = .ptr qb 0
  t9 : sg s 9 = .int .i64 i
  q : ∃ D, QS (askK g) h qb K (row.map askM) D ∧ SRow h (sg s 8) 1 (ic row) row.length ∧ qb ∉ blkOf (sg s 8) ∧ ∀ b ∈ blkOf (sg s 8), b ∉ D
  ok : ∀ k ∈ row, 1 ≤ k ∧ k ≤ 65535
  hi : i ≤ 60
  lk : row.length ≤ K
  k64 : K ≤ 64
theorem row_cmp (g : Pg P tab) {v8 v16 : AV} {row : List Int} {h : Heap} (r8 : SRow h v8 1 (ic row) row.length) (r16 : Row h v16 16 ((askK g).row (row.map askM)) row.length) (hl : row.length ≤ 64) (n : Nat) : ∀ (j : Nat) (s : T AV) (k : List Fr) (Q : Ex → T AV → Heap → Prop), j + n = row.length → sg s 16 = v16 → sg s 8 = v8 → sg s 17 = .int .i64 j →
    (∀ s', (∀ t, t < 16 → sg s' t = sg s t) → Un P k Q (.exit 3) s' h) → Lp P b11_0 s h (Un P k Q) := by
  induction n with
  | zero =>
    intro j s k Q hj t16 t8 t17 hQ
    refine g.lpe b11_0.eq_1 ?_
    have c1 : ¬ ((j : Int) < (row.length : Int)) := by omega
    simp only [t16, t17, r16.len, c1, RX, VOp.fresh, bxC, bsC, un, most, callsOf, seval, Int.reducePow, ↓reduceIte, Nat.reduceEqDiff, reduceCtorEq]
    exact hQ _ fun t ht => by simp only [sg_set]; repeat rw [if_neg (by omega)]
  | succ n ih =>
    intro j s k Q hj t16 t8 t17 hQ
    refine g.lpe b11_0.eq_1 ?_
    have c1 : (j : Int) < (row.length : Int) := by omega
    have w1 : IntKind.i64.wrap ((j : Int) + 1) = ((j + 1 : Nat) : Int) := by rw [w64 (by omega) (by omega)]; push_cast; rfl
    obtain ⟨b, e, ver, x, ev, hb, hg, hx, hp, hia⟩ := r8.at (i := j) (by omega)
    have ex : x = .int .i64 (row[j]'(by omega)) := by
      rw [List.getElem?_map, List.getElem?_eq_getElem (by omega)] at hx
      simpa using hx.symm
    subst ex
    obtain ⟨b2, e2, ver2, ev2, hg2, hb2, hia2⟩ := r16.at (i := j) (by omega)
    have hj2 : j < (row.map askM).length := by rw [List.length_map]; omega
    have hp2 : part false ((askK g).row (row.map askM)) (j * 16 + 4) 1 = some (.int .i64 (row[j]'(by omega))) := by
      have h1 : (row.map askM) = (row.map askM).take j ++ askM (row[j]'(by omega)) :: (row.map askM).drop (j + 1) := by
        rw [← List.getElem_map (f := askM) (h := hj2), List.getElem_cons_drop, List.take_append_drop]
      have h2 : ((askK g).row ((row.map askM).take j)).length = j * 16 := by rw [MK.row_len, List.length_take, List.length_map]; omega
      have h3 : ((askK g).row (row.map askM)).drop (j * 16 + 4) = .int .i64 (row[j]'(by omega)) :: (((askK g).C (askM (row[j]'(by omega)))).drop 5 ++ (askK g).row ((row.map askM).drop (j + 1))) := by
        conv => lhs; rw [h1]
        rw [MK.row_app, ← List.drop_drop, List.drop_left' h2, show ∀ (a : Ms) l, a :: l = [a] ++ l from fun _ _ => rfl, MK.row_app, MK.row_one]
        rfl
      exact part_f h3
    simp only [t16, t8, t17, r16.len, c1, hia, hia2, hg, hp, hg2, hp2, w1, RX, VOp.fresh, bxC, bsC, un, most, callsOf, seval, Int.reducePow, ↓reduceIte, Nat.reduceEqDiff, reduceCtorEq]
    refine ih (j + 1) _ k Q (by omega) ?_ ?_ ?_ fun s' hs => hQ s' fun t ht => ?_
    · simp only [t16, sg_set, Nat.reduceEqDiff, ↓reduceIte]
    · simp only [t8, sg_set, Nat.reduceEqDiff, ↓reduceIte]
    · simp only [sg_set, Nat.reduceEqDiff, ↓reduceIte]
    · rw [hs t ht]
      simp only [sg_set]; repeat rw [if_neg (by omega)]
variable {w : AV} {qb K i : Nat} {row : List Int} {s : T AV} {h : Heap} {k : List Fr} {Q : Ex → T AV → Heap → Prop}
theorem row_tail (g : Pg P tab) (ri : RI g w qb K i row s h) (hQ : ∀ s' h', RI g w qb K i row s' h' → Un P k Q .normal s' h') : Ev P tail11 s h (Un P k Q) := by
  obtain ⟨D, q, r8, d1, d2⟩ := ri.q
  have hlk := ri.lk
  have hk64 := ri.k64
  simp only [tail11, b11_1, ri.t6, RX, VOp.fresh, bxC, bsC, un, most, callsOf, seval, Int.reducePow, ↓reduceIte, Nat.reduceEqDiff, reduceCtorEq]
  refine (askK g).all_cl g q fun h2 v ys x2 r2 hl hR hb => ?_
  obtain rfl : ys = row.map askM := List.ext_getElem hl fun n h1 h2 => (hR n h1 (by simpa using h2)).symm
  have r8' := r8.ext x2
  rw [List.length_map] at r2
  simp only [r2.len, r8.len, RX, VOp.fresh, bxC, bsC, un, most, callsOf, seval, Int.reducePow, ↓reduceIte, Nat.reduceEqDiff, reduceCtorEq]
  refine row_cmp g r8' r2 (by omega) row.length 0 _ _ _ (by omega) ?_ ?_ ?_ ?_
  · simp only [sg_set, Nat.reduceEqDiff, ↓reduceIte]
  · simp only [sg_set, Nat.reduceEqDiff, ↓reduceIte]
  · simp only [sg_set, Nat.reduceEqDiff, ↓reduceIte]
    rfl
  intro s' hs
  simp only [RX, VOp.fresh, bxC, bsC, un, most, callsOf, seval, Int.reducePow, ↓reduceIte, Nat.reduceEqDiff, reduceCtorEq]
  have e8 : sg s' 8 = sg s 8 := (hs 8 (by decide)).trans (by simp only [sg_set, Nat.reduceEqDiff, ↓reduceIte])
  refine hQ _ _ ⟨(hs 1 (by decide)).trans ?_, (hs 5 (by decide)).trans ?_, (hs 6 (by decide)).trans ?_, (hs 9 (by decide)).trans ?_, ⟨D, q.ext x2, by rw [e8]; exact r8', by rw [e8]; exact d1, by rw [e8]; exact d2⟩, ri.ok, ri.hi, ri.lk, ri.k64⟩
  · simp only [ri.t1, sg_set, Nat.reduceEqDiff, ↓reduceIte]
  · simp only [ri.t5, sg_set, Nat.reduceEqDiff, ↓reduceIte]
  · simp only [ri.t6, sg_set, Nat.reduceEqDiff, ↓reduceIte]
  · simp only [ri.t9, sg_set, Nat.reduceEqDiff, ↓reduceIte]
theorem ic_len (l : List Int) : (ic l).length = l.length := List.length_map _
theorem ic_one (l : List Int) : (ic l).all AV.one = true := by simp [ic, AV.one]
theorem plE_of {k : Int} (h : 1 ≤ k ∧ k ≤ 65535) : plE (askM k) = true := (plE_ask k).trans (decide_eq_true h)
/-- a message is sent -/
theorem sw_send (g : Pg P tab) (ri : RI g w qb K i row s h) (hi : i < 60) {B : Int} (t57 : sg s 57 = .int .i64 B) (hB : B = 0 ∨ B = 1) (hQ : ∀ s' h' row', RI g w qb K i row' s' h' → Un P k Q .normal s' h') : Ev P sw11 s h (Un P k Q) := by
  obtain ⟨D, q, r8, d1, d2⟩ := ri.q
  have hlk := ri.lk
  have hk64 := ri.k64
  have w1 : IntKind.i64.wrap ((i : Int) + 1) = ((i + 1 : Nat) : Int) := by rw [w64 (by omega) (by omega)]; push_cast; rfl
  have hE : (askK g).E (askM ((i + 1 : Nat) : Int)) = true := plE_of ⟨by omega, by omega⟩
  rcases hB with rfl | rfl
  all_goals
    simp only [sw11, b11_1, t57, ri.t6, ri.t9, w1, RX, VOp.fresh, bxC, bsC, un, most, callsOf, seval, Int.reducePow, ↓reduceIte, Nat.reduceEqDiff, reduceCtorEq]
    refine (ask_pu g _).go rfl ?_
    rintro v rfl
    simp only [RX, VOp.fresh, bxC, bsC, un, most, callsOf, seval, Int.reducePow, ↓reduceIte, Nat.reduceEqDiff, reduceCtorEq]
    refine (askK g).send_cl g q (x := askM ((i + 1 : Nat) : Int)) (fun _ _ => Fzs.refl (msC_told _)) rfl rfl (fun c => by rw [hE] at c; cases c) (fun _ hn h2 q2 x2 => ?_) (fun _ hn h2 y D2 hy q2 f2 => ?_)
    · refine ⟨1701, rfl, ?_⟩
      rw [List.length_map] at hn
      have e1 : ((row.length : Nat) : Int) = (K : Int) := by omega
      have e2 : ¬ (K : Int) < (K : Int) := by omega
      simp only [RX, VOp.fresh, bxC, bsC, un, most, callsOf, seval, Int.reducePow, ↓reduceIte, Nat.reduceEqDiff, reduceCtorEq]
      refine (num_pu g _).go rfl ?_
      rintro v rfl
      simp only [HE, r8.len, ri.t5, e1, e2, RX, VOp.fresh, bxC, bsC, un, most, callsOf, seval, Int.reducePow, ↓reduceIte, Nat.reduceEqDiff, reduceCtorEq]
      refine (num_pu g _).go rfl ?_
      rintro v rfl
      simp only [RX, VOp.fresh, bxC, bsC, un, most, callsOf, seval, Int.reducePow, ↓reduceIte, Nat.reduceEqDiff, reduceCtorEq]
      refine (num_pu g _).go rfl ?_
      rintro v rfl
      simp only [RX, VOp.fresh, bxC, bsC, un, most, callsOf, seval, Int.reducePow, ↓reduceIte, Nat.reduceEqDiff, reduceCtorEq]
      refine hQ _ _ row ⟨?_, ?_, ?_, ?_, ⟨D, q2, ?_, ?_, ?_⟩, ri.ok, ri.hi, ri.lk, ri.k64⟩
      · simp only [ri.t1, sg_set, Nat.reduceEqDiff, ↓reduceIte]
      · simp only [ri.t5, sg_set, Nat.reduceEqDiff, ↓reduceIte]
      · simp only [ri.t6, sg_set, Nat.reduceEqDiff, ↓reduceIte]
      · simp only [ri.t9, sg_set, Nat.reduceEqDiff, ↓reduceIte]
      · simp only [sg_set, Nat.reduceEqDiff, ↓reduceIte]
        exact r8.ext x2
      · simp only [sg_set, Nat.reduceEqDiff, ↓reduceIte]
        exact d1
      · simp only [sg_set, Nat.reduceEqDiff, ↓reduceIte]
        exact d2
    · have hy : askM ((i + 1 : Nat) : Int) = y := hy
      subst hy
      refine ⟨0, rfl, ?_⟩
      rw [List.length_map] at hn
      have e1 : ¬ ((row.length : Nat) : Int) = (K : Int) := by omega
      have n2 := f2.1
      have r2 : SRow h2 (sg s 8) 1 (ic row) row.length := r8.frame n2 fun b hb => f2.2.2 b (r8.lt b hb) (fun e => d1 (e ▸ hb)) (d2 b hb)
      have lt8 := r8.lt
      obtain ⟨v3, h3, ea, r3, n3, s3, k3⟩ := (r2.ext (Ext.mk (h := h2) (.cells [.int .i64 ((i + 1 : Nat) : Int)] 3 0))).push (nb := h2.next) (c := [.int .i64 ((i + 1 : Nat) : Int)]) (by rw [Heap.get_mk, if_pos rfl]) rfl rfl (bytes := 8) (by unfold most2; omega) 3
      have em := Ext.mk (h := h2) (.cells [.int .i64 ((i + 1 : Nat) : Int)] 3 0)
      have nm := em.1
      have dq : ∀ b ∈ D2, b ∉ blkOf (sg s 8) := fun b hb hc => by
        rcases f2.2.1 b hb with e | e
        · exact d2 b hc e
        · have := lt8 b hc; omega
      have ltq : qb < h2.next := q2.1
      have kq : ∀ b, b < h2.next → b ∉ blkOf (sg s 8) → h3.get b = h2.get b := fun b hb hn => (k3 b (by omega) hn).trans (em.2 b hb)
      simp only [RX, VOp.fresh, bxC, bsC, un, most, callsOf, seval, Int.reducePow, ↓reduceIte, Nat.reduceEqDiff, reduceCtorEq]
      refine (num_pu g _).go rfl ?_
      rintro v rfl
      simp only [HE, r8.len, ri.t5, e1, hn, RX, VOp.fresh, bxC, bsC, un, most, callsOf, seval, Int.reducePow, ↓reduceIte, Nat.reduceEqDiff, reduceCtorEq]
      refine (num_pu g _).go rfl ?_
      rintro v rfl
      simp only [ri.t9, w1, ea, RX, VOp.fresh, bxC, bsC, un, most, callsOf, seval, Int.reducePow, ↓reduceIte, Nat.reduceEqDiff, reduceCtorEq]
      refine hQ _ _ (row ++ [((i + 1 : Nat) : Int)]) ⟨?_, ?_, ?_, ?_, ⟨D2, ?_, ?_, ?_, ?_⟩, ?_, ri.hi, ?_, ri.k64⟩
      · simp only [ri.t1, sg_set, Nat.reduceEqDiff, ↓reduceIte]
      · simp only [ri.t5, sg_set, Nat.reduceEqDiff, ↓reduceIte]
      · simp only [ri.t6, sg_set, Nat.reduceEqDiff, ↓reduceIte]
      · simp only [ri.t9, sg_set, Nat.reduceEqDiff, ↓reduceIte]
      · rw [List.map_append]
        exact q2.frame' (by omega) (kq _ ltq d1) fun b hb => kq b (q2.lt b hb) (dq b hb)
      · simp only [sg_set, Nat.reduceEqDiff, ↓reduceIte]
        rw [List.length_append, List.length_singleton, ic, List.map_append]; exact r3
      · simp only [sg_set, Nat.reduceEqDiff, ↓reduceIte]
        exact fun hc => (s3 _ hc).elim d1 (fun e => by omega)
      · simp only [sg_set, Nat.reduceEqDiff, ↓reduceIte]
        intro b hb hc
        rcases s3 b hb with e | e
        · exact dq b hc e
        · have := q2.lt b hc; omega
      · intro x hx
        rcases List.mem_append.1 hx with c | c
        · exact ri.ok x c
        · rw [List.mem_singleton.1 c]; omega
      · rw [List.length_append, List.length_singleton]; omega
theorem RI.same {g : Pg P tab} (ri : RI g w qb K i row s h) {s' : T AV} {h' : Heap} {D : List Nat} (hs : ∀ t, t = 1 ∨ t = 5 ∨ t = 6 ∨ t = 8 ∨ t = 9 → sg s' t = sg s t) (q2 : QS (askK g) h' qb K (row.map askM) D) (r8 : SRow h' (sg s 8) 1 (ic row) row.length) (d1 : qb ∉ blkOf (sg s 8)) (d2 : ∀ b ∈ blkOf (sg s 8), b ∉ D) : RI g w qb K i row s' h' :=
  ⟨(hs 1 (by omega)).trans ri.t1, (hs 5 (by omega)).trans ri.t5, (hs 6 (by omega)).trans ri.t6, (hs 9 (by omega)).trans ri.t9, ⟨D, q2, by rw [hs 8 (by omega)]; exact r8, by rw [hs 8 (by omega)]; exact d1, by rw [hs 8 (by omega)]; exact d2⟩, ri.ok, ri.hi, ri.lk, ri.k64⟩
/-- a message is taken -/
theorem sw_take (g : Pg P tab) (ri : RI g w qb K i row s h) {A : Nat} (t57 : sg s 57 = .int .i64 2) (t10 : sg s 10 = .int .i64 A) (hA : A < 64) (hQ : ∀ s' h' row', RI g w qb K i row' s' h' → Un P k Q .normal s' h') : Ev P sw11 s h (Un P k Q) := by
  obtain ⟨D, q, r8, d1, d2⟩ := ri.q
  have hlk := ri.lk
  have hk64 := ri.k64
  have o19 : ∀ n h, OK P 19 [.int .i64 n] h (.int .i64 n) h := fun n h => (num_pu g n).exact rfl
  have w1 : IntKind.i64.wrap ((A : Int) + 1) = ((A + 1 : Nat) : Int) := by rw [w64 (by omega) (by omega)]; push_cast; rfl
  simp only [sw11, b11_1, t57, t10, ri.t6, RX, VOp.fresh, bxC, bsC, un, most, callsOf, seval, Int.reducePow, ↓reduceIte, Nat.reduceEqDiff, reduceCtorEq]
  refine (askK g).take_cl g q (fun hn h2 q2 f2 => ?_) (fun j hj hij h2 q2 f2 => ?_)
  · rw [List.length_map] at hn
    have e2 : ¬ (A : Int) < ((row.length : Nat) : Int) := by omega
    have n2 := f2.1
    have r2 : SRow h2 (sg s 8) 1 (ic row) row.length := r8.frame n2 fun b hb => f2.2.2 b (r8.lt b hb) (fun e => d1 (e ▸ hb)) (d2 b hb)
    have x3 := Ext.new (h := h2) (o := .cells z16 63 0) (o' := .cells z16 63 1)
    simp only [t10, RW, RX, VOp.fresh, bxC, bsC, un, most, callsOf, seval, Int.reducePow, ↓reduceIte, Nat.reduceEqDiff, reduceCtorEq]
    refine EvD.lk (fun _ args h => (args.headD .undef, h)) ?_
    simp only [List.headD_cons, o19, r8.len, t10, e2, HE, RX, VOp.fresh, bxC, bsC, un, most, callsOf, seval, Int.reducePow, ↓reduceIte, Nat.reduceEqDiff, reduceCtorEq]
    refine ⟨⟨⟨?_, trivial⟩, trivial⟩, ?_⟩
    · show Lk _ _ _ _
      simp only [Lk, wanted, r8.len, RX, VOp.fresh, bxC, bsC, un, most, callsOf, seval, Int.reducePow, ↓reduceIte, Nat.reduceEqDiff, reduceCtorEq]
    · refine hQ _ _ row (ri.same ?_ (q2.ext x3) (r2.ext x3) d1 d2)
      intro t ht
      simp only [sg_set]
      rcases ht with rfl | rfl | rfl | rfl | rfl <;> simp only [Nat.reduceEqDiff, ↓reduceIte]
  · have hj' : j < row.length := by rw [List.length_map] at hj; exact hj
    obtain rfl : A = j := by omega
    have eC : (askK g).C ((row.map askM)[A]'hj) = msC (askM (row[A]'hj')) .nils .nils := by rw [List.getElem_map]; rfl
    rw [eC]
    have e2 : (A : Int) < ((row.length : Nat) : Int) := by omega
    have n2 := f2.1
    have lt8 := r8.lt
    have r2 : SRow h2 (sg s 8) 1 (ic row) row.length := r8.frame n2 fun b hb => f2.2.2 b (r8.lt b hb) (fun e => d1 (e ▸ hb)) (d2 b hb)
    have lt2 := r2.lt
    have x3 := Ext.new (h := h2) (o := .cells z16 63 0) (o' := .cells (msC (askM (row[A]'hj')) .nils .nils) 63 1)
    obtain ⟨b, e, ver, x, ev, hb, hg, hx, hp, hia⟩ := r2.at (i := A) hj'
    obtain rfl : x = .int .i64 (row[A]'hj') := by
      rw [List.getElem?_map, List.getElem?_eq_getElem hj'] at hx
      simpa using hx.symm
    have hne : ¬ b = h2.next := by omega
    have x4 := Ext.mkn (x3) (b := h2.next + 1) (by omega) (.cells [] 3 0)
    have n4 : (((h2.mk' h2.next (.cells z16 63 0)).put h2.next (.cells (msC (askM (row[A]'hj')) .nils .nils) 63 1)).mk' (h2.next + 1) (.cells [] 3 0)).next = h2.next + 2 := by rw [mk_next, new_next]; omega
    have g4 : (((h2.mk' h2.next (.cells z16 63 0)).put h2.next (.cells (msC (askM (row[A]'hj')) .nils .nils) 63 1)).mk' (h2.next + 1) (.cells [] 3 0)).get b = some (.cells (ic row) e ver) := (x4.2 b hb).trans hg
    have s4 : SRow (((h2.mk' h2.next (.cells z16 63 0)).put h2.next (.cells (msC (askM (row[A]'hj')) .nils .nils) 63 1)).mk' (h2.next + 1) (.cells [] 3 0)) (.sl (h2.next + 1) 0 0 0 1) 1 [] 0 := .inr ⟨h2.next + 1, 3, 0, rfl, by omega, by rw [Heap.get_mk, if_pos rfl], rfl, rfl⟩
    have icl := ic_len row
    have c1 : cellsOf (((h2.mk' h2.next (.cells z16 63 0)).put h2.next (.cells (msC (askM (row[A]'hj')) .nils .nils) 63 1)).mk' (h2.next + 1) (.cells [] 3 0)) 1 A (.sl b 0 A row.length 1) = some ((ic row).take A) := by
      have := cells_part (sz := 1) (lo := 0) (k := A) (cap := row.length) g4 (by omega)
      simpa using this
    obtain ⟨v5, h5, a5, r5, n5, d5, k5⟩ := s4.app c1 rfl (by rw [List.length_take]; omega) (List.all_eq_true.2 fun y hy => List.all_eq_true.1 (ic_one row) y (List.mem_of_mem_take hy)) (bytes := 8) (by unfold most2; omega) 3
    have kx : ∀ c, c < h2.next → h5.get c = h2.get c := fun c hc => (k5 c (by omega) (by simp only [blkOf, List.mem_singleton]; omega)).trans (x4.2 c hc)
    have g5 := (kx b hb).trans hg
    have c2 : cellsOf h5 1 (row.length - (A + 1)) (.sl b (A + 1) (row.length - (A + 1)) (row.length - (A + 1)) 1) = some ((ic row).drop (A + 1)) := by
      have := cells_part (sz := 1) (lo := A + 1) (k := row.length - (A + 1)) (cap := row.length - (A + 1)) g5 (by omega)
      simp only [Nat.mul_one] at this
      rw [this, List.take_of_length_le (by rw [List.length_drop]; omega)]
    obtain ⟨v6, h6, a6, r6, n6, d6, k6⟩ := r5.app c2 rfl (by rw [List.length_drop]; omega) (List.all_eq_true.2 fun y hy => List.all_eq_true.1 (ic_one row) y (List.mem_of_mem_drop hy)) (bytes := 8) (by unfold most2; omega) 3
    have d5' : ∀ c ∈ blkOf v5, h2.next < c := fun c hc => (d5 c hc).elim (fun e => by simp only [blkOf, List.mem_singleton] at e; omega) (fun e => by omega)
    have d6' : ∀ c ∈ blkOf v6, h2.next < c := fun c hc => (d6 c hc).elim (d5' c) (fun e => by omega)
    have ky : ∀ c, c < h2.next → h6.get c = h2.get c := fun c hc => (k6 c (by omega) (fun e => by have := d5' c e; omega)).trans (kx c hc)
    have s1 := slVhi (b := b) (off := 0) (len := row.length) (cap := row.length) (sz := 1) (k2 := .i64) (hi := A) (by omega)
    have s2 := slVlo (b := b) (off := 0) (len := row.length) (cap := row.length) (sz := 1) (k1 := .i64) (lo := A + 1) (by omega)
    simp only [Nat.zero_add, Nat.mul_one] at s2
    have er : ic (row.eraseIdx A) = (ic row).take A ++ (ic row).drop (A + 1) := by
      rw [ic, List.eraseIdx_eq_take_drop_succ, List.map_append, List.map_take, List.map_drop]
    have el : (row.eraseIdx A).length = A + (row.length - (A + 1)) := by rw [List.length_eraseIdx_of_lt hj']; omega
    simp only [t10, msC, askM, RW, RX, VOp.fresh, bxC, bsC, un, most, callsOf, seval, Int.reducePow, ↓reduceIte, Nat.reduceEqDiff, reduceCtorEq]
    refine EvD.lk (fun _ args h => (args.headD .undef, h)) ?_
    have iap : ∀ (hh : Heap), iaV hh 1 none (sg s 8) (.int .i64 (A : Int)) = .val (.ptr b A) hh := fun hh => hia hh _
    simp only [List.headD_cons, o19, r8.len, t10, e2, HE, iap, hg, hne, hp, HN, RX, VOp.fresh, bxC, bsC, un, most, callsOf, seval, Int.reducePow, ↓reduceIte, Nat.reduceEqDiff, reduceCtorEq]
    refine ⟨⟨⟨?_, trivial⟩, trivial⟩, ?_⟩
    · show Lk _ _ _ _
      simp only [Lk, wanted, r8.len, RX, VOp.fresh, bxC, bsC, un, most, callsOf, seval, Int.reducePow, ↓reduceIte, Nat.reduceEqDiff, reduceCtorEq]
    · unfold msC askM at a5
      rw [ev]
      simp only [t10, ev, s1, s2, w1, HN, a5, a6, r6.one, r6.cells, RX, VOp.fresh, bxC, bsC, un, most, callsOf, seval, Int.reducePow, ↓reduceIte, Nat.reduceEqDiff, reduceCtorEq]
      refine hQ _ _ (row.eraseIdx A) ⟨?_, ?_, ?_, ?_, ⟨D, ?_, ?_, ?_, ?_⟩, ?_, ri.hi, ?_, ri.k64⟩
      · simp only [ri.t1, sg_set, Nat.reduceEqDiff, ↓reduceIte]
      · simp only [ri.t5, sg_set, Nat.reduceEqDiff, ↓reduceIte]
      · simp only [ri.t6, sg_set, Nat.reduceEqDiff, ↓reduceIte]
      · simp only [ri.t9, sg_set, Nat.reduceEqDiff, ↓reduceIte]
      · have : (row.eraseIdx A).map askM = (row.map askM).eraseIdx A := by
          rw [List.eraseIdx_eq_take_drop_succ, List.eraseIdx_eq_take_drop_succ, List.map_append, List.map_take, List.map_drop]
        rw [this]
        exact q2.frame' (by omega) (ky _ q2.1) fun c hc => ky c (q2.lt c hc)
      · simp only [sg_set, Nat.reduceEqDiff, ↓reduceIte]
        rw [er, el]
        simpa using r6
      · simp only [sg_set, Nat.reduceEqDiff, ↓reduceIte]
        exact fun hc => by have := d6' _ hc; have := q2.1; omega
      · simp only [sg_set, Nat.reduceEqDiff, ↓reduceIte]
        exact fun c hc hd => by have := d6' _ hc; have := q2.lt c hd; omega
      · exact fun x hx => ri.ok x (List.mem_of_mem_eraseIdx hx)
      · rw [el]; omega
/-- a message stands once more -/
theorem sw_copy (g : Pg P tab) (ri : RI g w qb K i row s h) {A : Nat} (t57 : sg s 57 = .int .i64 3) (t10 : sg s 10 = .int .i64 A) (hA : A < 64) (hQ : ∀ s' h' row', RI g w qb K i row' s' h' → Un P k Q .normal s' h') : Ev P sw11 s h (Un P k Q) := by
  obtain ⟨D, q, r8, d1, d2⟩ := ri.q
  have hlk := ri.lk
  have hk64 := ri.k64
  have lt8 := r8.lt
  have hE : ∀ x ∈ row.map askM, (askK g).E x = true := fun x hx => by
    obtain ⟨k, hk, rfl⟩ := List.mem_map.1 hx
    exact plE_of (ri.ok k hk)
  simp only [sw11, b11_1, t57, t10, ri.t6, RX, VOp.fresh, bxC, bsC, un, most, callsOf, seval, Int.reducePow, ↓reduceIte, Nat.reduceEqDiff, reduceCtorEq]
  refine (askK g).copy_cl g q (fun hn h2 q2 f2 => ?_) (fun j hj hij _ hn h2 q2 f2 => ?_) (fun j hj hij _ hn h2 y D2 hy q2 f2 => ?_) hE
  · refine ⟨1700, rfl, ?_⟩
    rw [List.length_map] at hn
    have e2 : ¬ (A : Int) < ((row.length : Nat) : Int) := by omega
    have r2 : SRow h2 (sg s 8) 1 (ic row) row.length := r8.frame f2.1 fun b hb => f2.2.2 b (r8.lt b hb) (fun e => d1 (e ▸ hb)) (d2 b hb)
    simp only [RX, VOp.fresh, bxC, bsC, un, most, callsOf, seval, Int.reducePow, ↓reduceIte, Nat.reduceEqDiff, reduceCtorEq]
    refine (num_pu g _).go rfl ?_
    rintro v rfl
    simp only [t10, r8.len, e2, HE, RX, VOp.fresh, bxC, bsC, un, most, callsOf, seval, Int.reducePow, ↓reduceIte, Nat.reduceEqDiff, reduceCtorEq]
    refine (num_pu g _).go rfl ?_
    rintro v rfl
    simp only [RX, VOp.fresh, bxC, bsC, un, most, callsOf, seval, Int.reducePow, ↓reduceIte, Nat.reduceEqDiff, reduceCtorEq]
    refine hQ _ _ row (ri.same (fun t ht => ?_) q2 r2 d1 d2)
    simp only [sg_set]
    rcases ht with rfl | rfl | rfl | rfl | rfl <;> simp only [Nat.reduceEqDiff, ↓reduceIte]
  · refine ⟨1701, rfl, ?_⟩
    rw [List.length_map] at hn hj
    have e2 : (A : Int) < ((row.length : Nat) : Int) := by omega
    have e3 : ¬ ((row.length : Nat) : Int) < (K : Int) := by omega
    have r2 : SRow h2 (sg s 8) 1 (ic row) row.length := r8.frame f2.1 fun b hb => f2.2.2 b (r8.lt b hb) (fun e => d1 (e ▸ hb)) (d2 b hb)
    simp only [RX, VOp.fresh, bxC, bsC, un, most, callsOf, seval, Int.reducePow, ↓reduceIte, Nat.reduceEqDiff, reduceCtorEq]
    refine (num_pu g _).go rfl ?_
    rintro v rfl
    simp only [t10, r8.len, e2, e3, ri.t5, HE, RX, VOp.fresh, bxC, bsC, un, most, callsOf, seval, Int.reducePow, ↓reduceIte, Nat.reduceEqDiff, reduceCtorEq]
    refine (num_pu g _).go rfl ?_
    rintro v rfl
    simp only [RX, VOp.fresh, bxC, bsC, un, most, callsOf, seval, Int.reducePow, ↓reduceIte, Nat.reduceEqDiff, reduceCtorEq]
    refine hQ _ _ row (ri.same (fun t ht => ?_) q2 r2 d1 d2)
    simp only [sg_set]
    rcases ht with rfl | rfl | rfl | rfl | rfl <;> simp only [Nat.reduceEqDiff, ↓reduceIte]
  · refine ⟨0, rfl, ?_⟩
    have hj' : j < row.length := by rw [List.length_map] at hj; exact hj
    obtain rfl : A = j := by omega
    rw [List.length_map] at hn
    have hy : (row.map askM)[A]'hj = y := hy
    rw [List.getElem_map] at hy
    subst hy
    have e2 : (A : Int) < ((row.length : Nat) : Int) := by omega
    have n2 := f2.1
    have r2 : SRow h2 (sg s 8) 1 (ic row) row.length := r8.frame f2.1 fun b hb => f2.2.2 b (r8.lt b hb) (fun e => d1 (e ▸ hb)) (d2 b hb)
    obtain ⟨b, e, ver, x, ev, hb, hg, hx, hp, hia⟩ := r2.at (i := A) hj'
    obtain rfl : x = .int .i64 (row[A]'hj') := by
      rw [List.getElem?_map, List.getElem?_eq_getElem hj'] at hx
      simpa using hx.symm
    have iap : ∀ (hh : Heap), iaV hh 1 none (sg s 8) (.int .i64 (A : Int)) = .val (.ptr b A) hh := fun hh => hia hh _
    have em := Ext.mk (h := h2) (.cells [.int .i64 (row[A]'hj')] 3 0)
    obtain ⟨v3, h3, ea, r3, n3, s3, k3⟩ := (r2.ext em).push (nb := h2.next) (c := [.int .i64 (row[A]'hj')]) (by rw [Heap.get_mk, if_pos rfl]) rfl rfl (bytes := 8) (by unfold most2; omega) 3
    have nm := em.1
    have dq : ∀ b ∈ D2, b ∉ blkOf (sg s 8) := fun b hb hc => by
      rcases f2.2.1 b hb with e | e
      · exact d2 b hc e
      · have := lt8 b hc; omega
    have ltq : qb < h2.next := q2.1
    have kq : ∀ b, b < h2.next → b ∉ blkOf (sg s 8) → h3.get b = h2.get b := fun b hb hn => (k3 b (by omega) hn).trans (em.2 b hb)
    simp only [RX, VOp.fresh, bxC, bsC, un, most, callsOf, seval, Int.reducePow, ↓reduceIte, Nat.reduceEqDiff, reduceCtorEq]
    refine (num_pu g _).go rfl ?_
    rintro v rfl
    simp only [t10, r8.len, e2, hn, ri.t5, HE, RX, VOp.fresh, bxC, bsC, un, most, callsOf, seval, Int.reducePow, ↓reduceIte, Nat.reduceEqDiff, reduceCtorEq]
    refine (num_pu g _).go rfl ?_
    rintro v rfl
    simp only [t10, iap, hg, hp, ea, RX, VOp.fresh, bxC, bsC, un, most, callsOf, seval, Int.reducePow, ↓reduceIte, Nat.reduceEqDiff, reduceCtorEq]
    refine hQ _ _ (row ++ [row[A]'hj']) ⟨?_, ?_, ?_, ?_, ⟨D2, ?_, ?_, ?_, ?_⟩, ?_, ri.hi, ?_, ri.k64⟩
    · simp only [ri.t1, sg_set, Nat.reduceEqDiff, ↓reduceIte]
    · simp only [ri.t5, sg_set, Nat.reduceEqDiff, ↓reduceIte]
    · simp only [ri.t6, sg_set, Nat.reduceEqDiff, ↓reduceIte]
    · simp only [ri.t9, sg_set, Nat.reduceEqDiff, ↓reduceIte]
    · rw [List.map_append]
      exact q2.frame' (by omega) (kq _ ltq d1) fun b hb => kq b (q2.lt b hb) (dq b hb)
    · simp only [sg_set, Nat.reduceEqDiff, ↓reduceIte]
      rw [List.length_append, List.length_singleton, ic, List.map_append]; exact r3
    · simp only [sg_set, Nat.reduceEqDiff, ↓reduceIte]
      exact fun hc => (s3 _ hc).elim d1 (fun e => by omega)
    · simp only [sg_set, Nat.reduceEqDiff, ↓reduceIte]
      intro b hb hc
      rcases s3 b hb with e | e
      · exact dq b hc e
      · have := q2.lt b hc; omega
    · intro x hx
      rcases List.mem_append.1 hx with c | c
      · exact ri.ok x c
      · rw [List.mem_singleton.1 c]; exact ri.ok _ (List.getElem_mem _)
    · rw [List.length_append, List.length_singleton]; omega
theorem row_rounds (g : Pg P tab) {l : List Int} (hw : IsL 8 RInt w l) (n : Nat) : ∀ (i : Nat) (row : List Int) (s : T AV) (h : Heap) (k : List Fr) (Q : Ex → T AV → Heap → Prop), i + n = 60 → RI g w qb K i row s h → (∀ s' h', Un P k Q (.exit 0) s' h') → Lp P b11_1 s h (Un P k Q) := by
  have hbd := hw.bound (by decide)
  induction n with
  | zero =>
    intro i row s h k Q hi ri hQ
    refine g.lpe b11_1.eq_1 ?_
    have c2 : ¬ ((i : Int) < 60) := by omega
    by_cases c1 : (i : Int) < (l.length : Int)
    · simp only [ri.t1, ri.t9, hw.len, c1, c2, RX, VOp.fresh, bxC, bsC, un, most, callsOf, seval, Int.reducePow, ↓reduceIte, Nat.reduceEqDiff, reduceCtorEq]
      exact hQ _ _
    · simp only [ri.t1, ri.t9, hw.len, c1, RX, VOp.fresh, bxC, bsC, un, most, callsOf, seval, Int.reducePow, ↓reduceIte, Nat.reduceEqDiff, reduceCtorEq]
      exact hQ _ _
  | succ n ih =>
    intro i row s h k Q hi ri hQ
    have c2 : (i : Int) < 60 := by omega
    by_cases c1 : (i : Int) < (l.length : Int)
    · refine g.lpe (show b11_1 = .seq (match b11_1 with | .seq a _ => a | x => x) (.seq (.block 1 (.seq (match b11_1 with | .seq _ (.seq (.block _ (.seq a _)) _) => a | x => x) (.seq (.seq (match b11_1 with | .seq _ (.seq (.block _ (.seq _ (.seq (.seq a _) _))) _) => a | x => x) (.block 2 sw11)) tail11))) (match b11_1 with | .seq _ (.seq _ a) => a | x => x)) from rfl) ?_
      have hS := @sw_send P w qb K i row
      have hT := @sw_take P w qb K i row
      have hC := @sw_copy P w qb K i row
      have hL := @row_tail P w qb K i
      generalize sw11 = SW at *
      generalize tail11 = TL at *
      obtain ⟨ci, r, ⟨rfl, i64⟩, ht, hia⟩ := hw.get zInt tInt i (by omega)
      have a1 : bitsOf .and .i64 ((l[i]'(by omega)) / 4) 63 = ((((l[i]'(by omega)) / 4 % 18446744073709551616).toNat % 2 ^ 6 : Nat) : Int) := and_any _ (n := 6) (by decide)
      have a2 : bitsOf .and .i64 (l[i]'(by omega)) 3 = ((((l[i]'(by omega)) % 18446744073709551616).toNat % 2 ^ 2 : Nat) : Int) := and_any _ (n := 2) (by decide)
      simp only [b11_1, ri.t1, ri.t9, hw.len, c1, c2, hia, a1, a2, RX, VOp.fresh, bxC, bsC, un, most, callsOf, seval, Int.reducePow, ↓reduceIte, Nat.reduceEqDiff, reduceCtorEq]
      have hB4 : ((l[i]'(by omega)) % 18446744073709551616).toNat % 2 ^ 2 < 4 := Nat.mod_lt _ (by decide)
      have hA64 : ((l[i]'(by omega)) / 4 % 18446744073709551616).toNat % 2 ^ 6 < 64 := Nat.mod_lt _ (by decide)
      clear a1 a2
      generalize ((l[i]'(by omega)) % 18446744073709551616).toNat % 2 ^ 2 = B at *
      generalize ((l[i]'(by omega)) / 4 % 18446744073709551616).toNat % 2 ^ 6 = A at *
      obtain ⟨D, q, r8, d1, d2⟩ := ri.q
      have w1 : IntKind.i64.wrap ((i : Int) + 1) = ((i + 1 : Nat) : Int) := by rw [w64 (by omega) (by omega)]; push_cast; rfl
      have fin : ∀ (s' : T AV) (h' : Heap) (row' : List Int) (X : VCode), RI g w qb K i row' s' h' → Un P (.blk 2 :: .seq TL :: .blk 1 :: .seq (.ops [⟨some 45, none, .mov (.t 9)⟩, ⟨some 46, none, .bin .add (.t 45) (.c (.int .i64 1))⟩, ⟨some 9, none, .mov (.t 46)⟩]) :: .lp b11_1 :: k) Q .normal s' h' := by
        intro s' h' row' _ ri2
        simp only [RX, VOp.fresh, bxC, bsC, un, most, callsOf, seval, Int.reducePow, ↓reduceIte, Nat.reduceEqDiff, reduceCtorEq]
        refine hL g ri2 fun s2 h2 ri3 => ?_
        simp only [ri3.t9, w1, RX, VOp.fresh, bxC, bsC, un, most, callsOf, seval, Int.reducePow, ↓reduceIte, Nat.reduceEqDiff, reduceCtorEq]
        obtain ⟨D3, q3, r83, d13, d23⟩ := ri3.q
        refine ih (i + 1) row' _ _ k Q (by omega) ⟨?_, ?_, ?_, ?_, ⟨D3, q3, ?_, ?_, ?_⟩, ri3.ok, by omega, ri3.lk, ri3.k64⟩ hQ
        · simp only [ri3.t1, sg_set, Nat.reduceEqDiff, ↓reduceIte]
        · simp only [ri3.t5, sg_set, Nat.reduceEqDiff, ↓reduceIte]
        · simp only [ri3.t6, sg_set, Nat.reduceEqDiff, ↓reduceIte]
        · simp only [sg_set, Nat.reduceEqDiff, ↓reduceIte]
        · simp only [sg_set, Nat.reduceEqDiff, ↓reduceIte]
          exact r83
        · simp only [sg_set, Nat.reduceEqDiff, ↓reduceIte]
          exact d13
        · simp only [sg_set, Nat.reduceEqDiff, ↓reduceIte]
          exact d23
      have hB : B = 0 ∨ B = 1 ∨ B = 2 ∨ B = 3 := by omega
      rcases hB with rfl | rfl | rfl | rfl
      · refine hS g (ri.same (fun t ht => ?_) q r8 d1 d2) (by omega) (B := 0) ?_ (.inl rfl) fun s' h' row' ri2 => fin s' h' row' .skip ri2
        · simp only [sg_set]
          rcases ht with rfl | rfl | rfl | rfl | rfl <;> simp only [Nat.reduceEqDiff, ↓reduceIte]
        · simp only [sg_set, Nat.reduceEqDiff, ↓reduceIte]
          rfl
      · refine hS g (ri.same (fun t ht => ?_) q r8 d1 d2) (by omega) (B := 1) ?_ (.inr rfl) fun s' h' row' ri2 => fin s' h' row' .skip ri2
        · simp only [sg_set]
          rcases ht with rfl | rfl | rfl | rfl | rfl <;> simp only [Nat.reduceEqDiff, ↓reduceIte]
        · simp only [sg_set, Nat.reduceEqDiff, ↓reduceIte]
          rfl
      · refine hT g (ri.same (fun t ht => ?_) q r8 d1 d2) (A := A) ?_ ?_ hA64 fun s' h' row' ri2 => fin s' h' row' .skip ri2
        · simp only [sg_set]
          rcases ht with rfl | rfl | rfl | rfl | rfl <;> simp only [Nat.reduceEqDiff, ↓reduceIte]
        · simp only [sg_set, Nat.reduceEqDiff, ↓reduceIte]
          rfl
        · simp only [sg_set, Nat.reduceEqDiff, ↓reduceIte]
      · refine hC g (ri.same (fun t ht => ?_) q r8 d1 d2) (A := A) ?_ ?_ hA64 fun s' h' row' ri2 => fin s' h' row' .skip ri2
        · simp only [sg_set]
          rcases ht with rfl | rfl | rfl | rfl | rfl <;> simp only [Nat.reduceEqDiff, ↓reduceIte]
        · simp only [sg_set, Nat.reduceEqDiff, ↓reduceIte]
          rfl
        · simp only [sg_set, Nat.reduceEqDiff, ↓reduceIte]
    · refine g.lpe b11_1.eq_1 ?_
      simp only [ri.t1, ri.t9, hw.len, c1, RX, VOp.fresh, bxC, bsC, un, most, callsOf, seval, Int.reducePow, ↓reduceIte, Nat.reduceEqDiff, reduceCtorEq]
      exact hQ _ _
theorem queueRow_pu (g : Pg P tab) (mo : Int) {l : List Int} (hw : IsL 8 RInt w l) : Pu P 11 [.int .i64 mo, w] (fun v => v = .bool true) := by
  refine g.pu (vf := v11) rfl rfl ?_
  obtain ⟨K, hK1, hK64, hK⟩ : ∃ K : Nat, 1 ≤ K ∧ K ≤ 64 ∧ IntKind.i64.wrap (1 + IntKind.i64.wrap ((IntKind.u64.wrap mo).tmod 64)) = (K : Int) := by
    have e1 : IntKind.u64.wrap mo = mo % 18446744073709551616 := IntKind.wrap_u64 mo
    obtain ⟨n, hn⟩ : ∃ n : Nat, mo % 18446744073709551616 = (n : Int) := ⟨(mo % 18446744073709551616).toNat, by omega⟩
    have e2 : (IntKind.u64.wrap mo).tmod 64 = ((n % 64 : Nat) : Int) := by rw [e1, hn]; exact Int.ofNat_tmod n 64
    have hr := Nat.mod_lt n (show 0 < 64 by decide)
    refine ⟨1 + n % 64, by omega, by omega, ?_⟩
    have w0 : IntKind.i64.wrap ((n % 64 : Nat) : Int) = ((n % 64 : Nat) : Int) := w64 (by omega) (by omega)
    rw [e2, w0, w64 (by omega) (by omega)]
    omega
  simp only [v11, RX, VOp.fresh, bxC, bsC, un, most, callsOf, seval, Int.reducePow, ↓reduceIte, Nat.reduceEqDiff, reduceCtorEq]
  refine (awake17_pu g).go rfl ?_
  rintro v rfl
  simp only [hK, RX, VOp.fresh, bxC, bsC, un, most, callsOf, seval, Int.reducePow, ↓reduceIte, Nat.reduceEqDiff, reduceCtorEq]
  refine (askK g).new_cl g (mo := (K : Int)) (fun hm qb h1 q1 _ _ => ?_) (fun c => absurd ⟨by omega, by omega⟩ c)
  simp only [RX, VOp.fresh, bxC, bsC, un, most, callsOf, seval, Int.reducePow, ↓reduceIte, Nat.reduceEqDiff, reduceCtorEq]
  refine (num_pu g _).go rfl ?_
  rintro v rfl
  simp only [HE, RX, VOp.fresh, bxC, bsC, un, most, callsOf, seval, Int.reducePow, ↓reduceIte, Nat.reduceEqDiff, reduceCtorEq]
  refine row_rounds (qb := qb) (K := K) g hw 60 0 [] _ h1 _ _ (by omega) ⟨?_, ?_, ?_, ?_, ⟨[], q1, ?_, ?_, ?_⟩, by simp, by omega, by simp, hK64⟩ fun s' h' => ?_
  · simp only [sg_set, Nat.reduceEqDiff, ↓reduceIte]
  · simp only [hK, sg_set, Nat.reduceEqDiff, ↓reduceIte]
  · simp only [sg_set, Nat.reduceEqDiff, ↓reduceIte]
  · simp only [sg_set, Nat.reduceEqDiff, ↓reduceIte]
    rfl
  · simp only [sg_set, Nat.reduceEqDiff, ↓reduceIte]
    exact .nil _ _
  · simp only [sg_set, Nat.reduceEqDiff, ↓reduceIte]
    simp [blkOf]
  · simp only [sg_set, Nat.reduceEqDiff, ↓reduceIte]
    intro b hb; simp [blkOf] at hb
  · simp only [RX, VOp.fresh, bxC, bsC, un, most, callsOf, seval, Int.reducePow, ↓reduceIte, Nat.reduceEqDiff, reduceCtorEq]
end
theorem wIntsL {c : List AV} (h : Ws [.sl 8 [.int .i64]] c) : ∃ w l, c = [w] ∧ IsL 8 RInt w l := by
  cases h with | cons h1 t =>
    cases t
    obtain ⟨l, hl⟩ := h1.isL wInt
    exact ⟨_, l, rfl, hl⟩
end Go.Proofs.Ytinonmcnofjeeaa.VM
