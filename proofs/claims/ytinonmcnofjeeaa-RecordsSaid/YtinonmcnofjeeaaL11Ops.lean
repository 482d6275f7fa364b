/- Which operations may be, by the program's own functions. -/
import Derived.Test.YtinonmcnofjeeaaL11May
namespace Go.Proofs.Ytinonmcnofjeeaa.VM
set_option linter.unusedSimpArgs false
set_option linter.unusedVariables false
set_option linter.defProp false
set_option maxHeartbeats 1000000
attribute [local irreducible] Af Nx EvO Ev Un Gd Cd EvR EvQ EvC Nc Gc Lp EvM NxM AfM GdM EvMR EvMQ EvMD EvMC Nm Gm

def opOk (nodes : Int) (o : Op) : Prop := (o.kind = 0 ∧ featOk o.f ∧ o.id = 0 ∧ mpZero o.m) ∨ (o.kind = 1 ∧ 1 ≤ o.id ∧ o.id ≤ 65535 ∧ ftZero o.f ∧ mpZero o.m) ∨ (o.kind = 2 ∧ mpOk nodes o.m ∧ o.id = 0 ∧ ftZero o.f)
def opId (o : Op) : Int := if o.kind = 0 then o.f.id else o.id
def op0 : Op := ⟨0, ⟨0, 0, []⟩, 0, ⟨0, [], []⟩⟩
theorem tolds_cons {x : AV} {l : List AV} : AV.tolds (x :: l) = (x.told && AV.tolds l) := rfl

section
variable {P : Program}
theorem opMay_pu (g : Pg P tab) {nodes : Int} {o : Op} {c r : List AV} (hc : ROp o c) (hr : AV.tolds r = true) : Pu P 107 [.rp (c ++ r), .int .i64 nodes] (IsB (opOk nodes o)) := by
  refine g.pu (vf := v107) rfl rfl ?_
  obtain ⟨v, a, u, rfl, _, _, _, hv, _, _, ha, hu⟩ := hc
  have tv := hv.told tRing
  have ta := ha.told tInt
  have tu := hu.told tInt
  simp +contextual (maxSteps := 2000000) only [v107, R0, R1, R2, R3, R4, R5, R6, R7, R8, R9, VOp.fresh, bxC, bsC, R10, un, most, callsOf, List.contains_nil, List.contains_cons, beq_iff_eq, List.getElem?_cons_zero, List.getElem?_cons_succ, seval, Option.map_none, Int.reducePow, ↓reduceIte, Nat.reduceEqDiff, reduceCtorEq, and_self]
  repeat' (first | apply And.intro | intro _)
  · -- a put
    refine (shapeMay_pu g hv).go (by simp [AV.tolds, AV.told, tv]) ?_
    rintro x ⟨b, rfl, hb⟩
    cases b
    · simp +contextual (maxSteps := 2000000) only [R0, R1, R2, R3, R4, R5, R6, R7, R8, R9, VOp.fresh, bxC, bsC, R10, un, most, callsOf, List.contains_nil, List.contains_cons, beq_iff_eq, List.getElem?_cons_zero, List.getElem?_cons_succ, seval, Option.map_none, Int.reducePow, ↓reduceIte, Nat.reduceEqDiff, reduceCtorEq, and_self]
      rintro (⟨h1, h2, h3, h4⟩ | ⟨h1, _⟩ | ⟨h1, _⟩)
      · exact absurd (hb.2 h2) (by simp)
      · omega
      · omega
    · simp +contextual (maxSteps := 2000000) only [R0, R1, R2, R3, R4, R5, R6, R7, R8, R9, VOp.fresh, bxC, bsC, R10, un, most, callsOf, List.contains_nil, List.contains_cons, beq_iff_eq, List.getElem?_cons_zero, List.getElem?_cons_succ, seval, Option.map_none, Int.reducePow, ↓reduceIte, Nat.reduceEqDiff, reduceCtorEq, and_self]
      repeat' (first | apply And.intro | intro _)
      · refine (noMap_pu g ha hu _).go (by simp [AV.tolds, AV.told, ta, tu, hr]) ?_
        rintro x ⟨b, rfl, hb2⟩
        simp +contextual (maxSteps := 2000000) only [R0, R1, R2, R3, R4, R5, R6, R7, R8, R9, VOp.fresh, bxC, bsC, R10, un, most, callsOf, List.contains_nil, List.contains_cons, beq_iff_eq, List.getElem?_cons_zero, List.getElem?_cons_succ, seval, Option.map_none, Int.reducePow, ↓reduceIte, Nat.reduceEqDiff, reduceCtorEq, and_self]
        rw [hb2]
        exact ⟨fun h => .inl ⟨by assumption, hb.1 rfl, by assumption, h⟩, fun h => by rcases h with ⟨_, _, _, h4⟩ | ⟨h1, _⟩ | ⟨h1, _⟩ <;> first | exact h4 | omega⟩
      · rename_i hok
        rcases hok with ⟨_, _, h3, _⟩ | ⟨h1, _⟩ | ⟨h1, _⟩ <;> first | contradiction | omega
  · -- a delete
    refine (noFeature_pu g hv _).go (by simp [AV.tolds, AV.told, tv, ta, tu, hr]) ?_
    rintro x ⟨b, rfl, hb⟩
    cases b
    · simp +contextual (maxSteps := 2000000) only [R0, R1, R2, R3, R4, R5, R6, R7, R8, R9, VOp.fresh, bxC, bsC, R10, un, most, callsOf, List.contains_nil, List.contains_cons, beq_iff_eq, List.getElem?_cons_zero, List.getElem?_cons_succ, seval, Option.map_none, Int.reducePow, ↓reduceIte, Nat.reduceEqDiff, reduceCtorEq, and_self]
      rintro (⟨h1, _⟩ | ⟨h1, h2, h3, h4, h5⟩ | ⟨h1, _⟩)
      · omega
      · exact absurd (hb.2 h4) (by simp)
      · omega
    · simp +contextual (maxSteps := 2000000) only [R0, R1, R2, R3, R4, R5, R6, R7, R8, R9, VOp.fresh, bxC, bsC, R10, un, most, callsOf, List.contains_nil, List.contains_cons, beq_iff_eq, List.getElem?_cons_zero, List.getElem?_cons_succ, seval, Option.map_none, Int.reducePow, ↓reduceIte, Nat.reduceEqDiff, reduceCtorEq, and_self]
      refine (noMap_pu g ha hu _).go (by simp [AV.tolds, AV.told, ta, tu, hr]) ?_
      rintro x ⟨b, rfl, hb2⟩
      simp +contextual (maxSteps := 2000000) only [R0, R1, R2, R3, R4, R5, R6, R7, R8, R9, VOp.fresh, bxC, bsC, R10, un, most, callsOf, List.contains_nil, List.contains_cons, beq_iff_eq, List.getElem?_cons_zero, List.getElem?_cons_succ, seval, Option.map_none, Int.reducePow, ↓reduceIte, Nat.reduceEqDiff, reduceCtorEq, and_self]
      rw [hb2]
      exact ⟨fun h => .inr (.inl ⟨by assumption, by omega, by omega, hb.1 rfl, h⟩), fun h => by rcases h with ⟨h1, _⟩ | ⟨_, _, _, _, h4⟩ | ⟨h1, _⟩ <;> first | exact h4 | omega⟩
  · rename_i hok
    rcases hok with ⟨h1, _⟩ | ⟨h1, _⟩ | ⟨h1, _⟩ <;> omega
  · rename_i hok
    rcases hok with ⟨h1, _⟩ | ⟨h1, _⟩ | ⟨h1, _⟩ <;> omega
  · -- a map
    refine (mapMay_pu g ha hu).go (by simp [AV.tolds, AV.told, ta, tu]) ?_
    rintro x ⟨b, rfl, hb⟩
    cases b
    · simp +contextual (maxSteps := 2000000) only [R0, R1, R2, R3, R4, R5, R6, R7, R8, R9, VOp.fresh, bxC, bsC, R10, un, most, callsOf, List.contains_nil, List.contains_cons, beq_iff_eq, List.getElem?_cons_zero, List.getElem?_cons_succ, seval, Option.map_none, Int.reducePow, ↓reduceIte, Nat.reduceEqDiff, reduceCtorEq, and_self]
      rintro (⟨h1, _⟩ | ⟨h1, _⟩ | ⟨h1, h2, h3, h4⟩)
      · omega
      · omega
      · exact absurd (hb.2 h2) (by simp)
    · simp +contextual (maxSteps := 2000000) only [R0, R1, R2, R3, R4, R5, R6, R7, R8, R9, VOp.fresh, bxC, bsC, R10, un, most, callsOf, List.contains_nil, List.contains_cons, beq_iff_eq, List.getElem?_cons_zero, List.getElem?_cons_succ, seval, Option.map_none, Int.reducePow, ↓reduceIte, Nat.reduceEqDiff, reduceCtorEq, and_self]
      repeat' (first | apply And.intro | intro _)
      · refine (noFeature_pu g hv _).go (by simp [AV.tolds, AV.told, tv, ta, tu, hr]) ?_
        rintro x ⟨b, rfl, hb2⟩
        simp +contextual (maxSteps := 2000000) only [R0, R1, R2, R3, R4, R5, R6, R7, R8, R9, VOp.fresh, bxC, bsC, R10, un, most, callsOf, List.contains_nil, List.contains_cons, beq_iff_eq, List.getElem?_cons_zero, List.getElem?_cons_succ, seval, Option.map_none, Int.reducePow, ↓reduceIte, Nat.reduceEqDiff, reduceCtorEq, and_self]
        rw [hb2]
        exact ⟨fun h => .inr (.inr ⟨by assumption, hb.1 rfl, by assumption, h⟩), fun h => by rcases h with ⟨h1, _⟩ | ⟨h1, _⟩ | ⟨_, _, _, h4⟩ <;> first | exact h4 | omega⟩
      · rename_i hok
        rcases hok with ⟨h1, _⟩ | ⟨h1, _⟩ | ⟨_, _, h3, _⟩ <;> first | contradiction | omega
  · rename_i hok
    rcases hok with ⟨h1, _⟩ | ⟨h1, _⟩ | ⟨h1, _⟩ <;> contradiction
theorem opId_pu (g : Pg P tab) {o : Op} {c r : List AV} (hc : ROp o c) : Pu P 108 [.rp (c ++ r)] (fun x => x = .int .i64 (opId o)) := by
  refine g.pu (vf := v108) rfl rfl ?_
  obtain ⟨v, a, u, rfl, _⟩ := hc
  simp +contextual (maxSteps := 2000000) only [v108, opId, R0, R1, R2, R3, R4, R5, R6, R7, R8, R9, VOp.fresh, bxC, bsC, R10, un, most, callsOf, List.contains_nil, List.contains_cons, beq_iff_eq, List.getElem?_cons_zero, List.getElem?_cons_succ, seval, Option.map_none, Int.reducePow, ↓reduceIte, Nat.reduceEqDiff, reduceCtorEq, and_self]

/-! ### all of them -/
theorem getOp {v : AV} {l : List Op} (h : IsL 112 ROp v l) (i : Nat) (hi : i < l.length) : ∃ c r, ROp (l.getD i op0) c ∧ AV.tolds c = true ∧ AV.tolds r = true ∧ ∀ (hh : Heap) (kk : IntKind), iaV hh 8 none v (.int kk (i : Int)) = .val (.rp (c ++ r)) hh := by
  obtain ⟨ci, r, hr, ht, hia⟩ := h.get zOp tOp i hi
  have : l.getD i op0 = l[i] := by simp [List.getD_eq_getElem?_getD, List.getElem?_eq_getElem hi]
  rw [Cat.told.tolds_append, Bool.and_eq_true] at ht
  exact ⟨ci, r, by rw [this]; exact hr, ht.1, ht.2, hia⟩
def opsAt (nodes : Int) (l : List Op) (i : Nat) : Prop := opOk nodes (l.getD i op0) ∧ ((l.getD i op0).kind = 2 → i = 0) ∧ (0 < opId (l.getD i op0) → ∀ j, j < i → opId (l.getD j op0) ≠ opId (l.getD i op0))
def opsOk (nodes : Int) (l : List Op) : Prop := 1 ≤ l.length ∧ l.length ≤ 32 ∧ ∀ i, i < l.length → opsAt nodes l i
/-- the ids that were seen -/
def idsTo (l : List Op) : Nat → List Int
  | 0 => []
  | i + 1 => if 0 < opId (l.getD i op0) then idsTo l i ++ [opId (l.getD i op0)] else idsTo l i
theorem idsTo_mem (l : List Op) (x : Int) : ∀ i, x ∈ idsTo l i ↔ 0 < x ∧ ∃ j, j < i ∧ opId (l.getD j op0) = x
  | 0 => by simp [idsTo]
  | i + 1 => by
    unfold idsTo
    have ih := idsTo_mem l x i
    split
    · rename_i h
      rw [List.mem_append, ih, List.mem_singleton]
      constructor
      · rintro (⟨a, j, b, c⟩ | rfl)
        · exact ⟨a, j, by omega, c⟩
        · exact ⟨h, i, by omega, rfl⟩
      · rintro ⟨a, j, b, c⟩
        rcases Nat.lt_or_ge j i with h' | h'
        · exact .inl ⟨a, j, h', c⟩
        · have : j = i := by omega
          subst this; exact .inr c.symm
    · rename_i h
      rw [ih]
      constructor
      · rintro ⟨a, j, b, c⟩; exact ⟨a, j, by omega, c⟩
      · rintro ⟨a, j, b, c⟩
        refine ⟨a, j, ?_, c⟩
        rcases Nat.lt_or_ge j i with h' | h'
        · exact h'
        · have : j = i := by omega
          subst this; omega
def seenE (ids : List Int) : List (AV × AV) := ids.map fun x => (.int .i64 x, .bool true)
theorem findE_seen (x : Int) : ∀ ids : List Int, findE .int (.int .i64 x) (seenE ids) = some (if x ∈ ids then some (.bool true) else none)
  | [] => rfl
  | y :: ids => by
    show (match sameK .int (.int .i64 x) (.int .i64 y) with | some true => some (some (AV.bool true)) | some false => findE .int (.int .i64 x) (seenE ids) | none => none) = _
    have : sameK .int (.int .i64 x) (.int .i64 y) = some (decide (x = y)) := by simp [sameK]
    rw [this]
    by_cases e : x = y
    · simp [e]
    · simp [e, findE_seen x ids]
theorem updE_seen {x : Int} : ∀ {ids : List Int}, x ∉ ids → updE .int (.int .i64 x) (.bool true) (seenE ids) = seenE (ids ++ [x])
  | [], _ => rfl
  | y :: ids, h => by
    have hne : x ≠ y := fun e => h (by rw [e]; exact .head _)
    have : sameK .int (.int .i64 x) (.int .i64 y) = some (decide (x = y)) := by simp [sameK]
    show (match sameK .int (.int .i64 x) (.int .i64 y) with | some true => (AV.int .i64 x, AV.bool true) :: seenE ids | _ => (AV.int .i64 y, AV.bool true) :: updE .int (.int .i64 x) (.bool true) (seenE ids)) = _
    rw [this, decide_eq_false hne]
    simp only [updE_seen (fun hm => h (.tail _ hm))]
    rfl

theorem lkB_seen {hh : Heap} {x : Int} {ids : List Int} {ver : Nat} : lkB .int (.bool false) false hh (.int .i64 x) (some (.map (seenE ids) ver)) = .val (.bool (decide (x ∈ ids))) hh := by
  simp only [lkB, findE_seen]
  by_cases h : x ∈ ids <;> simp [h]
theorem muB_seen {hh : Heap} {b : Nat} {x : Int} {ids : List Int} {ver : Nat} (h : x ∉ ids) : muB .int hh b (.int .i64 x) (.bool true) (some (.map (seenE ids) ver)) = .val .undef (hh.put b (.map (seenE (ids ++ [x])) (ver + 1))) := by
  simp only [muB, findE_seen, updE_seen h]

theorem opsMay_loop (g : Pg P tab) {nodes : Int} {l : List Op} {v : AV} (hv : IsL 112 ROp v l) (hl : l.length ≤ 32) (b : Nat) (n : Nat) :
    ∀ (i : Nat) (s : T AV) (hh : Heap) (ver : Nat) (k : List Fr) (Q : Ex → T AV → Heap → Prop), i + n = l.length → sg s 0 = v → sg s 1 = .int .i64 nodes → sg s 5 = .map b → sg s 19 = .int .i64 l.length → sg s 20 = .int .i64 i →
      hh.get b = some (.map (seenE (idsTo l i)) ver) →
      ((∀ j, i ≤ j → j < l.length → opsAt nodes l j) → ∀ s' h', Un P k Q (.exit 0) s' h') → ((¬ ∀ j, i ≤ j → j < l.length → opsAt nodes l j) → ∀ s' h', sg s' 4 = .bool false → Un P k Q .ret s' h') → Lp P b87_0 s hh (Un P k Q) := by
  induction n with
  | zero =>
    intro i s hh ver k Q hi h0 h1 h5 h19 h20 hg hK hR
    refine g.lpe b87_0.eq_1 ?_
    have c1 : ¬ ((i : Int) < (l.length : Int)) := by omega
    simp only [h19, h20, c1, R0, R1, R2, R3, R4, R5, R6, R7, R8, R9, VOp.fresh, bxC, bsC, R10, un, most, callsOf, List.contains_nil, List.contains_cons, beq_iff_eq, List.getElem?_cons_zero, List.getElem?_cons_succ, seval, Option.map_none, Int.reducePow, ↓reduceIte, Nat.reduceEqDiff, reduceCtorEq, and_self]
    exact hK (fun j h1 h2 => by omega) _ _
  | succ n ih =>
    intro i s hh ver k Q hi h0 h1 h5 h19 h20 hg hK hR
    refine g.lpe b87_0.eq_1 ?_
    have c1 : (i : Int) < (l.length : Int) := by omega
    obtain ⟨c, r, hc, tc, tr, g1⟩ := getOp hv i (by omega)
    have w1 : IntKind.i64.wrap ((i : Int) + 1) = ((i + 1 : Nat) : Int) := by rw [w64 (by omega) (by omega)]; push_cast; rfl
    have next : opsAt nodes l i → ∀ (s' : T AV) (h' : Heap) (ver' : Nat), sg s' 0 = v → sg s' 1 = .int .i64 nodes → sg s' 5 = .map b → sg s' 19 = .int .i64 l.length → sg s' 20 = .int .i64 ((i + 1 : Nat) : Int) →
        h'.get b = some (.map (seenE (idsTo l (i + 1))) ver') → Lp P b87_0 s' h' (Un P k Q) := by
      intro hok s' h' ver' a1 a2 a3 a4 a5 a6
      refine ih (i + 1) s' h' ver' k Q (by omega) a1 a2 a3 a4 a5 a6 (fun hall => hK fun j h1 h2 => ?_) (fun hn => hR fun hall => hn fun j h1 h2 => hall j (by omega) h2)
      rcases Nat.lt_or_ge i j with h | h
      · exact hall j h h2
      · have : j = i := by omega
        subst this; exact hok
    have stop : ¬ opsAt nodes l i → ∀ (s' : T AV) (h' : Heap), sg s' 4 = .bool false → Un P k Q .ret s' h' := fun hn => hR fun hall => hn (hall i (Nat.le_refl _) (by omega))
    simp only [h0, h1, h5, h19, h20, c1, g1, R0, R1, R2, R3, R4, R5, R6, R7, R8, R9, VOp.fresh, bxC, bsC, R10, un, most, callsOf, List.contains_nil, List.contains_cons, beq_iff_eq, List.getElem?_cons_zero, List.getElem?_cons_succ, seval, Option.map_none, Int.reducePow, ↓reduceIte, Nat.reduceEqDiff, reduceCtorEq, and_self]
    refine (opMay_pu g hc tr).go (by simp [AV.tolds, AV.told, Cat.told.tolds_append, tc, tr]) ?_
    rintro x ⟨ob, rfl, hob⟩
    have hid := opId_pu g (r := r) hc
    have hkind : ∃ c', c = .int .i64 (l.getD i op0).kind :: c' := by
      obtain ⟨v', a, u, rfl, _⟩ := hc
      exact ⟨_, rfl⟩
    obtain ⟨c', rfl⟩ := hkind
    cases ob
    · simp only [R0, R1, R2, R3, R4, R5, R6, R7, R8, R9, VOp.fresh, bxC, bsC, R10, un, most, callsOf, List.contains_nil, List.contains_cons, beq_iff_eq, List.getElem?_cons_zero, List.getElem?_cons_succ, seval, Option.map_none, Int.reducePow, ↓reduceIte, Nat.reduceEqDiff, reduceCtorEq, and_self]
      exact stop (fun hok => absurd (hob.2 hok.1) (by simp)) _ _ (by simp only [sg_set, Nat.reduceEqDiff, ↓reduceIte])
    · have hok := hob.1 rfl
      generalize hx : opId (l.getD i op0) = x0 at *
      have hids : idsTo l (i + 1) = if 0 < x0 then idsTo l i ++ [x0] else idsTo l i := by rw [idsTo, hx]
      by_cases hk : (l.getD i op0).kind = 2
      · rw [hk] at hid tc
        by_cases hi0 : (0 : Int) < (i : Int)
        · simp only [h0, h1, h5, h19, h20, hk, hi0, R0, R1, R2, R3, R4, R5, R6, R7, R8, R9, VOp.fresh, bxC, bsC, R10, un, most, callsOf, List.contains_nil, List.contains_cons, beq_iff_eq, List.getElem?_cons_zero, List.getElem?_cons_succ, seval, Option.map_none, Int.reducePow, ↓reduceIte, Nat.reduceEqDiff, reduceCtorEq, and_self]
          exact stop (fun hok => absurd (hok.2.1 hk) (by omega)) _ _ (by simp only [sg_set, Nat.reduceEqDiff, ↓reduceIte])
        · simp only [h0, h1, h5, h19, h20, hk, hi0, R0, R1, R2, R3, R4, R5, R6, R7, R8, R9, VOp.fresh, bxC, bsC, R10, un, most, callsOf, List.contains_nil, List.contains_cons, beq_iff_eq, List.getElem?_cons_zero, List.getElem?_cons_succ, seval, Option.map_none, Int.reducePow, ↓reduceIte, Nat.reduceEqDiff, reduceCtorEq, and_self]
          refine hid.go (by simp [AV.tolds, AV.told, Cat.told.tolds_append, tc, tr]; simpa [AV.tolds, AV.told] using tc) ?_
          rintro x rfl
          by_cases hp : 0 < x0
          · by_cases hm : x0 ∈ idsTo l i
            · simp only [h0, h1, h5, h19, h20, hp, hm, hg, lkB_seen, R0, R1, R2, R3, R4, R5, R6, R7, R8, R9, VOp.fresh, bxC, bsC, R10, un, most, callsOf, List.contains_nil, List.contains_cons, beq_iff_eq, List.getElem?_cons_zero, List.getElem?_cons_succ, seval, Option.map_none, Int.reducePow, ↓reduceIte, Nat.reduceEqDiff, reduceCtorEq, and_self]
              refine stop (fun hok => ?_) _ _ (by simp only [sg_set, Nat.reduceEqDiff, ↓reduceIte])
              obtain ⟨_, j, h1, h2⟩ := (idsTo_mem l _ i).1 hm
              exact hok.2.2 (by rw [hx]; exact hp) j h1 (by rw [hx]; exact h2)
            · simp only [h0, h1, h5, h19, h20, hp, hm, hg, lkB_seen, muB_seen hm, w1, R0, R1, R2, R3, R4, R5, R6, R7, R8, R9, VOp.fresh, bxC, bsC, R10, un, most, callsOf, List.contains_nil, List.contains_cons, beq_iff_eq, List.getElem?_cons_zero, List.getElem?_cons_succ, seval, Option.map_none, Int.reducePow, ↓reduceIte, Nat.reduceEqDiff, reduceCtorEq, and_self]
              refine next ⟨hok, fun _ => by omega, fun _ j h1 h2 => hm ((idsTo_mem l _ i).2 ⟨hp, j, h1, by rw [h2, hx]⟩)⟩ _ _ (ver + 1) ?_ ?_ ?_ ?_ ?_ ?_
              · simp only [h0, sg_set, Nat.reduceEqDiff, ↓reduceIte]
              · simp only [h1, sg_set, Nat.reduceEqDiff, ↓reduceIte]
              · simp only [h5, sg_set, Nat.reduceEqDiff, ↓reduceIte]
              · simp only [h19, sg_set, Nat.reduceEqDiff, ↓reduceIte]
              · simp only [sg_set, Nat.reduceEqDiff, ↓reduceIte]
              · rw [Heap.get_put, if_pos rfl, hids, if_pos hp]
          · simp only [h0, h1, h5, h19, h20, hp, w1, R0, R1, R2, R3, R4, R5, R6, R7, R8, R9, VOp.fresh, bxC, bsC, R10, un, most, callsOf, List.contains_nil, List.contains_cons, beq_iff_eq, List.getElem?_cons_zero, List.getElem?_cons_succ, seval, Option.map_none, Int.reducePow, ↓reduceIte, Nat.reduceEqDiff, reduceCtorEq, and_self]
            refine next ⟨hok, fun _ => by omega, fun h => absurd (by rw [hx] at h; exact h) hp⟩ _ _ ver ?_ ?_ ?_ ?_ ?_ ?_
            · simp only [h0, sg_set, Nat.reduceEqDiff, ↓reduceIte]
            · simp only [h1, sg_set, Nat.reduceEqDiff, ↓reduceIte]
            · simp only [h5, sg_set, Nat.reduceEqDiff, ↓reduceIte]
            · simp only [h19, sg_set, Nat.reduceEqDiff, ↓reduceIte]
            · simp only [sg_set, Nat.reduceEqDiff, ↓reduceIte]
            · rw [hg, hids, if_neg hp]
      · simp only [h0, h1, h5, h19, h20, hk, R0, R1, R2, R3, R4, R5, R6, R7, R8, R9, VOp.fresh, bxC, bsC, R10, un, most, callsOf, List.contains_nil, List.contains_cons, beq_iff_eq, List.getElem?_cons_zero, List.getElem?_cons_succ, seval, Option.map_none, Int.reducePow, ↓reduceIte, Nat.reduceEqDiff, reduceCtorEq, and_self]
        refine hid.go (by simp [AV.tolds, AV.told, Cat.told.tolds_append, tc, tr]; simpa [AV.tolds, AV.told] using tc) ?_
        rintro x rfl
        by_cases hp : 0 < x0
        · by_cases hm : x0 ∈ idsTo l i
          · simp only [h0, h1, h5, h19, h20, hp, hm, hg, lkB_seen, R0, R1, R2, R3, R4, R5, R6, R7, R8, R9, VOp.fresh, bxC, bsC, R10, un, most, callsOf, List.contains_nil, List.contains_cons, beq_iff_eq, List.getElem?_cons_zero, List.getElem?_cons_succ, seval, Option.map_none, Int.reducePow, ↓reduceIte, Nat.reduceEqDiff, reduceCtorEq, and_self]
            refine stop (fun hok => ?_) _ _ (by simp only [sg_set, Nat.reduceEqDiff, ↓reduceIte])
            obtain ⟨_, j, h1, h2⟩ := (idsTo_mem l _ i).1 hm
            exact hok.2.2 (by rw [hx]; exact hp) j h1 (by rw [hx]; exact h2)
          · simp only [h0, h1, h5, h19, h20, hp, hm, hg, lkB_seen, muB_seen hm, w1, R0, R1, R2, R3, R4, R5, R6, R7, R8, R9, VOp.fresh, bxC, bsC, R10, un, most, callsOf, List.contains_nil, List.contains_cons, beq_iff_eq, List.getElem?_cons_zero, List.getElem?_cons_succ, seval, Option.map_none, Int.reducePow, ↓reduceIte, Nat.reduceEqDiff, reduceCtorEq, and_self]
            refine next ⟨hok, fun h => absurd h hk, fun _ j h1 h2 => hm ((idsTo_mem l _ i).2 ⟨hp, j, h1, by rw [h2, hx]⟩)⟩ _ _ (ver + 1) ?_ ?_ ?_ ?_ ?_ ?_
            · simp only [h0, sg_set, Nat.reduceEqDiff, ↓reduceIte]
            · simp only [h1, sg_set, Nat.reduceEqDiff, ↓reduceIte]
            · simp only [h5, sg_set, Nat.reduceEqDiff, ↓reduceIte]
            · simp only [h19, sg_set, Nat.reduceEqDiff, ↓reduceIte]
            · simp only [sg_set, Nat.reduceEqDiff, ↓reduceIte]
            · rw [Heap.get_put, if_pos rfl, hids, if_pos hp]
        · simp only [h0, h1, h5, h19, h20, hp, w1, R0, R1, R2, R3, R4, R5, R6, R7, R8, R9, VOp.fresh, bxC, bsC, R10, un, most, callsOf, List.contains_nil, List.contains_cons, beq_iff_eq, List.getElem?_cons_zero, List.getElem?_cons_succ, seval, Option.map_none, Int.reducePow, ↓reduceIte, Nat.reduceEqDiff, reduceCtorEq, and_self]
          refine next ⟨hok, fun h => absurd h hk, fun h => absurd (by rw [hx] at h; exact h) hp⟩ _ _ ver ?_ ?_ ?_ ?_ ?_ ?_
          · simp only [h0, sg_set, Nat.reduceEqDiff, ↓reduceIte]
          · simp only [h1, sg_set, Nat.reduceEqDiff, ↓reduceIte]
          · simp only [h5, sg_set, Nat.reduceEqDiff, ↓reduceIte]
          · simp only [h19, sg_set, Nat.reduceEqDiff, ↓reduceIte]
          · simp only [sg_set, Nat.reduceEqDiff, ↓reduceIte]
          · rw [hg, hids, if_neg hp]
theorem opsMay_pu (g : Pg P tab) {nodes : Int} {l : List Op} {v : AV} (hv : IsL 112 ROp v l) : Pu P 87 [v, .int .i64 nodes] (IsB (opsOk nodes l)) := by
  refine g.pu (vf := v87) rfl rfl ?_
  have hb := hv.bound (by decide)
  simp +contextual (maxSteps := 2000000) only [v87, hv.len, R0, R1, R2, R3, R4, R5, R6, R7, R8, R9, VOp.fresh, bxC, bsC, R10, un, most, callsOf, List.contains_nil, List.contains_cons, beq_iff_eq, List.getElem?_cons_zero, List.getElem?_cons_succ, seval, Option.map_none, Int.reducePow, ↓reduceIte, Nat.reduceEqDiff, reduceCtorEq, and_self]
  repeat' (first | apply And.intro | intro _)
  all_goals first
    | (rename_i hok; unfold opsOk at hok; omega)
    | skip
  refine opsMay_loop (nodes := nodes) g hv (by omega) 0 l.length 0 _ _ 0 _ _ (by omega) ?_ ?_ ?_ ?_ ?_ ?_ ?_ ?_
  · simp only [sg_set, Nat.reduceEqDiff, ↓reduceIte]
  · simp only [sg_set, Nat.reduceEqDiff, ↓reduceIte]
  · simp only [sg_set, Nat.reduceEqDiff, ↓reduceIte]
  · simp only [sg_set, Nat.reduceEqDiff, ↓reduceIte]
  · simp only [sg_set, Nat.reduceEqDiff, ↓reduceIte]
    rfl
  · rw [Heap.get_mk, if_pos rfl]; rfl
  · intro hall s' h'
    simp +contextual (maxSteps := 2000000) only [R0, R1, R2, R3, R4, R5, R6, R7, R8, R9, VOp.fresh, bxC, bsC, R10, un, most, callsOf, List.contains_nil, List.contains_cons, beq_iff_eq, List.getElem?_cons_zero, List.getElem?_cons_succ, seval, Option.map_none, Int.reducePow, ↓reduceIte, Nat.reduceEqDiff, reduceCtorEq, and_self]
    exact ⟨by omega, by omega, fun i hi => hall i (by omega) hi⟩
  · intro hn s' h' h4
    simp +contextual (maxSteps := 2000000) only [h4, R0, R1, R2, R3, R4, R5, R6, R7, R8, R9, VOp.fresh, bxC, bsC, R10, un, most, callsOf, List.contains_nil, List.contains_cons, beq_iff_eq, List.getElem?_cons_zero, List.getElem?_cons_succ, seval, Option.map_none, Int.reducePow, ↓reduceIte, Nat.reduceEqDiff, reduceCtorEq, and_self]
    intro hok
    exact hn fun j _ hj => hok.2.2 j hj
end
end Go.Proofs.Ytinonmcnofjeeaa.VM
