/- Which records may be, by the program's own functions; what is none is written as nothing. -/
import Derived.Test.YtinonmcnofjeeaaL11Ops
namespace Go.Proofs.Ytinonmcnofjeeaa.VM
set_option linter.unusedSimpArgs false
set_option linter.unusedVariables false
set_option linter.defProp false
set_option maxHeartbeats 1000000
attribute [local irreducible] Af Nx EvO Ev Un Gd Cd EvR EvQ EvC Nc Gc Lp EvM NxM AfM GdM EvMR EvMQ EvMD EvMC Nm Gm

structure Rc where
  kind : Int
  node : Int
  seq : Int
  base : Int
  commit : Bool
  m : Mp
  ops : List Op
def RRc (r : Rc) (c : List AV) : Prop := ∃ a u w, c = [.int .i64 r.kind, .int .i64 r.node, .int .i64 r.seq, .int .i64 r.base, .bool r.commit, .int .i64 r.m.epoch, a, u, w] ∧
  IsL 8 RInt a r.m.starts ∧ IsL 8 RInt u r.m.owners ∧ IsL 112 ROp w r.ops
def txOk (a b : Int) : Prop := 0 ≤ a ∧ a < 8 ∧ 1 ≤ b ∧ b ≤ 65535
def recOk (r : Rc) : Prop :=
  (r.kind = 0 ∧ mpOk 8 r.m ∧ r.node = 0 ∧ r.seq = 0 ∧ r.base = 0 ∧ r.ops = [] ∧ r.commit = false) ∨
  ((r.kind = 1 ∨ r.kind = 2) ∧ txOk r.node r.seq ∧ -1 ≤ r.base ∧ r.base ≤ 65535 ∧ opsOk 8 r.ops ∧ r.commit = false ∧ mpZero r.m) ∨
  (r.kind = 3 ∧ txOk r.node r.seq ∧ r.base = 0 ∧ r.ops = [] ∧ mpZero r.m) ∨
  (r.kind = 4 ∧ txOk r.node r.seq ∧ r.base = 0 ∧ r.ops = [] ∧ r.commit = false ∧ mpZero r.m)
section
variable {P : Program}
theorem lenPos {α : Type} {l : List α} : ((0 : Int) < (l.length : Int)) = (¬ l = []) := by
  rw [eq_iff_iff]; cases l <;> simp <;> omega
theorem recMay_pu (g : Pg P tab) {r : Rc} {c t : List AV} (hc : RRc r c) (ht : AV.tolds t = true) : Pu P 45 [.rp (c ++ t)] (IsB (recOk r)) := by
  refine g.pu (vf := v45) rfl rfl ?_
  obtain ⟨a, u, w, rfl, ha, hu, hw⟩ := hc
  have ta := ha.told tInt
  have tu := hu.told tInt
  have tw := hw.told tOp
  simp +contextual (maxSteps := 2000000) only [v45, R0, R1, R2, R3, R4, R5, R6, R7, R8, R9, VOp.fresh, bxC, bsC, R10, un, most, callsOf, List.contains_nil, List.contains_cons, beq_iff_eq, List.getElem?_cons_zero, List.getElem?_cons_succ, seval, Option.map_none, Int.reducePow, ↓reduceIte, Nat.reduceEqDiff, reduceCtorEq, and_self]
  refine EvD.same (fun f args h => (.bool (decide (0 ≤ r.node ∧ r.node < 8 ∧ 1 ≤ r.seq ∧ r.seq ≤ 65535)), h)) (by rfl) ?_
  have h84 : ∀ h, OK P 84 [.agg [.int .i64 r.node, .int .i64 r.seq]] h (.bool (decide (0 ≤ r.node ∧ r.node < 8 ∧ 1 ≤ r.seq ∧ r.seq ≤ 65535))) h := fun h => (nameMay_pu g r.node r.seq).exact rfl
  have etx : (0 ≤ r.node ∧ r.node < 8 ∧ 1 ≤ r.seq ∧ r.seq ≤ 65535) = txOk r.node r.seq := rfl
  have no : ∀ {kind node seq base : Int} {commit : Bool} {m : Mp} {ops : List Op}, recOk ⟨kind, node, seq, base, commit, m, ops⟩ →
      (kind = 0 ∧ mpOk 8 m ∧ node = 0 ∧ seq = 0 ∧ base = 0 ∧ ops = [] ∧ commit = false) ∨ ((kind = 1 ∨ kind = 2) ∧ (0 ≤ node ∧ node < 8 ∧ 1 ≤ seq ∧ seq ≤ 65535) ∧ -1 ≤ base ∧ base ≤ 65535 ∧ opsOk 8 ops ∧ commit = false ∧ mpZero m) ∨
      (kind = 3 ∧ (0 ≤ node ∧ node < 8 ∧ 1 ≤ seq ∧ seq ≤ 65535) ∧ base = 0 ∧ ops = [] ∧ mpZero m) ∨ (kind = 4 ∧ (0 ≤ node ∧ node < 8 ∧ 1 ≤ seq ∧ seq ≤ 65535) ∧ base = 0 ∧ ops = [] ∧ commit = false ∧ mpZero m) := fun h => h
  obtain ⟨kind, node, seq, base, commit, m, ops⟩ := r
  simp only at *
  have hnoMap := fun h (Q : AV → Heap → Prop) (k : ∀ b : Bool, (b = true ↔ mpZero m) → Q (.bool b) h) => (noMap_pu g ha hu (w :: t)).go (h := h) (Q := Q) (by simp [AV.tolds, AV.told, ta, tu, tw, ht]) (by rintro x ⟨b, rfl, hb⟩; exact k b hb)
  by_cases e0 : kind = 0
  · subst e0
    cases commit
    all_goals simp +contextual (maxSteps := 2000000) only [h84, hw.len, lenPos, R0, R1, R2, R3, R4, R5, R6, R7, R8, R9, VOp.fresh, bxC, bsC, R10, un, most, callsOf, List.contains_nil, List.contains_cons, beq_iff_eq, List.getElem?_cons_zero, List.getElem?_cons_succ, seval, Option.map_none, Int.reducePow, ↓reduceIte, Nat.reduceEqDiff, reduceCtorEq, and_self]
    all_goals repeat' (first | apply And.intro | intro _)
    all_goals
      refine (mapMay_pu g ha hu).go (by simp [AV.tolds, AV.told, ta, tu]) ?_
      rintro x ⟨b, rfl, hb⟩
      cases b
      · simp +contextual (maxSteps := 2000000) only [hw.len, lenPos, flat2, R0, R1, R2, R3, R4, R5, R6, R7, R8, R9, VOp.fresh, bxC, bsC, R10, un, most, callsOf, List.contains_nil, List.contains_cons, beq_iff_eq, List.getElem?_cons_zero, List.getElem?_cons_succ, seval, Option.map_none, Int.reducePow, ↓reduceIte, Nat.reduceEqDiff, reduceCtorEq, and_self]
        intro hok
        rcases no hok with ⟨k1, k2, _⟩ | ⟨k1 | k1, _⟩ | ⟨k1, _⟩ | ⟨k1, _⟩ <;> first | exact absurd (hb.2 k2) (by simp) | omega
      · have hm := hb.1 rfl
        simp +contextual (maxSteps := 2000000) only [hw.len, lenPos, flat2, R0, R1, R2, R3, R4, R5, R6, R7, R8, R9, VOp.fresh, bxC, bsC, R10, un, most, callsOf, List.contains_nil, List.contains_cons, beq_iff_eq, List.getElem?_cons_zero, List.getElem?_cons_succ, seval, Option.map_none, Int.reducePow, ↓reduceIte, Nat.reduceEqDiff, reduceCtorEq, and_self]
        simp [recOk, hm]
        try (intros; simp_all; done)
  · by_cases e12 : kind = 1 ∨ kind = 2
    · have ek : (kind = 1) = (¬ kind = 2) := by rw [eq_iff_iff]; omega
      have hops := fun h (Q : AV → Heap → Prop) (k : ∀ b : Bool, (b = true ↔ opsOk 8 ops) → Q (.bool b) h) => (opsMay_pu g (nodes := 8) hw).go (h := h) (Q := Q) (by simp [AV.tolds, AV.told, tw]) (by rintro x ⟨b, rfl, hb⟩; exact k b hb)
      have fin : (∀ hh : txOk node seq ∧ -1 ≤ base ∧ base ≤ 65535 ∧ opsOk 8 ops ∧ commit = false ∧ mpZero m, recOk ⟨kind, node, seq, base, commit, m, ops⟩) := fun h => .inr (.inl ⟨e12, h.1, h.2.1, h.2.2.1, h.2.2.2.1, h.2.2.2.2.1, h.2.2.2.2.2⟩)
      have not : recOk ⟨kind, node, seq, base, commit, m, ops⟩ → txOk node seq ∧ -1 ≤ base ∧ base ≤ 65535 ∧ opsOk 8 ops ∧ commit = false ∧ mpZero m := by
        intro hok
        rcases no hok with ⟨k1, _⟩ | ⟨_, k2, k3, k4, k5, k6, k7⟩ | ⟨k1, _⟩ | ⟨k1, _⟩
        · omega
        · exact ⟨k2, k3, k4, k5, k6, k7⟩
        · omega
        · omega
      generalize hR : recOk ⟨kind, node, seq, base, commit, m, ops⟩ = R at *
      have fin' : txOk node seq ∧ -1 ≤ base ∧ base ≤ 65535 ∧ opsOk 8 ops ∧ commit = false ∧ mpZero m → R := fin
      by_cases htx : txOk node seq
      · have d1 : decide (0 ≤ node ∧ node < 8 ∧ 1 ≤ seq ∧ seq ≤ 65535) = true := decide_eq_true htx
        rw [d1] at h84
        rcases e12 with rfl | rfl
        all_goals
          cases commit
          all_goals
            simp +contextual (maxSteps := 2000000) only [h84, d1, hw.len, lenPos, R0, R1, R2, R3, R4, R5, R6, R7, R8, R9, VOp.fresh, bxC, bsC, R10, un, most, callsOf, List.contains_nil, List.contains_cons, beq_iff_eq, List.getElem?_cons_zero, List.getElem?_cons_succ, seval, Option.map_none, Int.reducePow, ↓reduceIte, Nat.reduceEqDiff, reduceCtorEq, and_self]
            repeat' (first | apply And.intro | intro _)
            all_goals
              refine (baseMay_pu g _).go rfl ?_
              rintro x rfl
              simp +contextual (maxSteps := 2000000) only [R0, R1, R2, R3, R4, R5, R6, R7, R8, R9, VOp.fresh, bxC, bsC, R10, un, most, callsOf, List.contains_nil, List.contains_cons, beq_iff_eq, List.getElem?_cons_zero, List.getElem?_cons_succ, seval, Option.map_none, Int.reducePow, ↓reduceIte, Nat.reduceEqDiff, reduceCtorEq, and_self]
              repeat' (first | apply And.intro | intro _)
              all_goals first
                | (refine hops _ _ fun b hb => ?_
                   cases b
                   · simp +contextual (maxSteps := 2000000) only [R0, R1, R2, R3, R4, R5, R6, R7, R8, R9, VOp.fresh, bxC, bsC, R10, un, most, callsOf, List.contains_nil, List.contains_cons, beq_iff_eq, List.getElem?_cons_zero, List.getElem?_cons_succ, seval, Option.map_none, Int.reducePow, ↓reduceIte, Nat.reduceEqDiff, reduceCtorEq, and_self]
                     intro hr
                     exact absurd (hb.2 (not hr).2.2.2.1) (by simp)
                   · simp +contextual (maxSteps := 2000000) only [R0, R1, R2, R3, R4, R5, R6, R7, R8, R9, VOp.fresh, bxC, bsC, R10, un, most, callsOf, List.contains_nil, List.contains_cons, beq_iff_eq, List.getElem?_cons_zero, List.getElem?_cons_succ, seval, Option.map_none, Int.reducePow, ↓reduceIte, Nat.reduceEqDiff, reduceCtorEq, and_self]
                     first
                       | (intro hr; exact absurd (not hr).2.2.2.2.1 (by simp))
                       | (refine hnoMap _ _ fun b hb2 => ?_
                          simp +contextual (maxSteps := 2000000) only [R0, R1, R2, R3, R4, R5, R6, R7, R8, R9, VOp.fresh, bxC, bsC, R10, un, most, callsOf, List.contains_nil, List.contains_cons, beq_iff_eq, List.getElem?_cons_zero, List.getElem?_cons_succ, seval, Option.map_none, Int.reducePow, ↓reduceIte, Nat.reduceEqDiff, reduceCtorEq, and_self]
                          rw [hb2]
                          exact ⟨fun h => fin' ⟨htx, by omega, by omega, hb.1 rfl, rfl, h⟩, fun h => (not h).2.2.2.2.2⟩))
                | (rename_i hr; have := not hr; omega)
      · have d1 : decide (0 ≤ node ∧ node < 8 ∧ 1 ≤ seq ∧ seq ≤ 65535) = false := decide_eq_false htx
        rw [d1] at h84
        rcases e12 with rfl | rfl
        all_goals
          simp +contextual (maxSteps := 2000000) only [h84, d1, hw.len, lenPos, R0, R1, R2, R3, R4, R5, R6, R7, R8, R9, VOp.fresh, bxC, bsC, R10, un, most, callsOf, List.contains_nil, List.contains_cons, beq_iff_eq, List.getElem?_cons_zero, List.getElem?_cons_succ, seval, Option.map_none, Int.reducePow, ↓reduceIte, Nat.reduceEqDiff, reduceCtorEq, and_self]
          exact ⟨fun _ hr => htx (not hr).1, fun _ hr => htx (not hr).1⟩
    · have n1 : ¬ kind = 1 := fun h => e12 (.inl h)
      have n2 : ¬ kind = 2 := fun h => e12 (.inr h)
      by_cases e3 : kind = 3
      · subst e3
        by_cases htx : txOk node seq
        · have d1 : decide (0 ≤ node ∧ node < 8 ∧ 1 ≤ seq ∧ seq ≤ 65535) = true := decide_eq_true htx
          rw [d1] at h84
          simp +contextual (maxSteps := 2000000) only [h84, d1, hw.len, lenPos, R0, R1, R2, R3, R4, R5, R6, R7, R8, R9, VOp.fresh, bxC, bsC, R10, un, most, callsOf, List.contains_nil, List.contains_cons, beq_iff_eq, List.getElem?_cons_zero, List.getElem?_cons_succ, seval, Option.map_none, Int.reducePow, ↓reduceIte, Nat.reduceEqDiff, reduceCtorEq, and_self]
          repeat' (first | apply And.intro | intro _)
          all_goals first
            | (refine hnoMap _ _ fun b hb2 => ?_
               simp +contextual (maxSteps := 2000000) only [R0, R1, R2, R3, R4, R5, R6, R7, R8, R9, VOp.fresh, bxC, bsC, R10, un, most, callsOf, List.contains_nil, List.contains_cons, beq_iff_eq, List.getElem?_cons_zero, List.getElem?_cons_succ, seval, Option.map_none, Int.reducePow, ↓reduceIte, Nat.reduceEqDiff, reduceCtorEq, and_self]
               rw [hb2]
               exact ⟨fun h => .inr (.inr (.inl ⟨rfl, htx, by first | assumption | rfl, by first | assumption | rfl, h⟩)), fun h => by rcases no h with ⟨k1, _⟩ | ⟨k1 | k1, _⟩ | ⟨_, _, _, _, k⟩ | ⟨k1, _⟩ <;> first | exact k | omega⟩)
            | (rename_i hr; rcases no hr with ⟨k1, _⟩ | ⟨k1 | k1, _⟩ | ⟨_, _, _, _, k⟩ | ⟨k1, _⟩ <;> first | contradiction | omega)
            | trace_state
        · have d1 : decide (0 ≤ node ∧ node < 8 ∧ 1 ≤ seq ∧ seq ≤ 65535) = false := decide_eq_false htx
          rw [d1] at h84
          simp +contextual (maxSteps := 2000000) only [h84, d1, hw.len, lenPos, R0, R1, R2, R3, R4, R5, R6, R7, R8, R9, VOp.fresh, bxC, bsC, R10, un, most, callsOf, List.contains_nil, List.contains_cons, beq_iff_eq, List.getElem?_cons_zero, List.getElem?_cons_succ, seval, Option.map_none, Int.reducePow, ↓reduceIte, Nat.reduceEqDiff, reduceCtorEq, and_self]
          repeat' (first | apply And.intro | intro _)
          all_goals (rename_i hr; rcases no hr with ⟨k1, _⟩ | ⟨k1 | k1, _⟩ | ⟨_, k, _⟩ | ⟨k1, _⟩ <;> first | exact htx k | omega)
      · by_cases e4 : kind = 4
        · subst e4
          by_cases htx : txOk node seq
          · have d1 : decide (0 ≤ node ∧ node < 8 ∧ 1 ≤ seq ∧ seq ≤ 65535) = true := decide_eq_true htx
            rw [d1] at h84
            cases commit
            all_goals
              simp +contextual (maxSteps := 2000000) only [h84, d1, hw.len, lenPos, R0, R1, R2, R3, R4, R5, R6, R7, R8, R9, VOp.fresh, bxC, bsC, R10, un, most, callsOf, List.contains_nil, List.contains_cons, beq_iff_eq, List.getElem?_cons_zero, List.getElem?_cons_succ, seval, Option.map_none, Int.reducePow, ↓reduceIte, Nat.reduceEqDiff, reduceCtorEq, and_self]
              repeat' (first | apply And.intro | intro _)
              all_goals first
                | (refine hnoMap _ _ fun b hb2 => ?_
                   simp +contextual (maxSteps := 2000000) only [R0, R1, R2, R3, R4, R5, R6, R7, R8, R9, VOp.fresh, bxC, bsC, R10, un, most, callsOf, List.contains_nil, List.contains_cons, beq_iff_eq, List.getElem?_cons_zero, List.getElem?_cons_succ, seval, Option.map_none, Int.reducePow, ↓reduceIte, Nat.reduceEqDiff, reduceCtorEq, and_self]
                   rw [hb2]
                   exact ⟨fun h => .inr (.inr (.inr ⟨rfl, htx, by first | assumption | rfl, by first | assumption | rfl, rfl, h⟩)), fun h => by rcases no h with ⟨k1, _⟩ | ⟨k1 | k1, _⟩ | ⟨k1, _⟩ | ⟨_, _, _, _, _, k⟩ <;> first | exact k | omega⟩)
                | (rename_i hr; rcases no hr with ⟨k1, _⟩ | ⟨k1 | k1, _⟩ | ⟨k1, _⟩ | ⟨_, _, k3, k4, k5, _⟩ <;> first | contradiction | omega)
                | trace_state
          · have d1 : decide (0 ≤ node ∧ node < 8 ∧ 1 ≤ seq ∧ seq ≤ 65535) = false := decide_eq_false htx
            rw [d1] at h84
            simp +contextual (maxSteps := 2000000) only [h84, d1, hw.len, lenPos, R0, R1, R2, R3, R4, R5, R6, R7, R8, R9, VOp.fresh, bxC, bsC, R10, un, most, callsOf, List.contains_nil, List.contains_cons, beq_iff_eq, List.getElem?_cons_zero, List.getElem?_cons_succ, seval, Option.map_none, Int.reducePow, ↓reduceIte, Nat.reduceEqDiff, reduceCtorEq, and_self]
            repeat' (first | apply And.intro | intro _)
            all_goals (rename_i hr; rcases no hr with ⟨k1, _⟩ | ⟨k1 | k1, _⟩ | ⟨k1, _⟩ | ⟨_, k, _⟩ <;> first | exact htx k | omega)
        · simp +contextual (maxSteps := 2000000) only [h84, hw.len, lenPos, e0, n1, n2, e3, e4, R0, R1, R2, R3, R4, R5, R6, R7, R8, R9, VOp.fresh, bxC, bsC, R10, un, most, callsOf, List.contains_nil, List.contains_cons, beq_iff_eq, List.getElem?_cons_zero, List.getElem?_cons_succ, seval, Option.map_none, Int.reducePow, ↓reduceIte, Nat.reduceEqDiff, reduceCtorEq, and_self]
          repeat' (first | apply And.intro | intro _)
          all_goals (rename_i hr; rcases no hr with ⟨k1, _⟩ | ⟨k1 | k1, _⟩ | ⟨k1, _⟩ | ⟨k1, _⟩ <;> contradiction)
/-- what is none is written as nothing -/
theorem put_bad (g : Pg P tab) {r : Rc} {c : List AV} (hc : RRc r c) (hn : ¬ recOk r) : Pu P 15 [.agg c] (fun v => v = .tup [.str [], .int .i64 1100]) := by
  refine g.pu (vf := v15) rfl rfl ?_
  have hm := recMay_pu g hc (t := []) rfl
  rw [List.append_nil] at hm
  simp only [v15, R0, R1, R2, R3, R4, R5, R6, R7, R8, R9, VOp.fresh, bxC, bsC, R10, un, most, callsOf, List.contains_nil, List.contains_cons, beq_iff_eq, List.getElem?_cons_zero, List.getElem?_cons_succ, seval, Option.map_none, Int.reducePow, ↓reduceIte, Nat.reduceEqDiff, reduceCtorEq, and_self]
  have hf : Fzs true (({ next := 0, t := T.e } : Heap).mk' 0 (.cells c 29 0)) [.ptr 0 0] [.rp c] := by
    obtain ⟨a, u, w, rfl, ha, hu, hw⟩ := hc
    refine .cons (.ptr (by rw [Heap.get_mk, if_pos rfl]) (Fzs.refl ?_)) .nil
    simp [AV.tolds, AV.told, ha.told tInt, hu.told tInt, hw.told tOp]
  refine hm.cl hf ?_
  rintro x ⟨b, rfl, hb⟩
  cases b
  · simp only [R0, R1, R2, R3, R4, R5, R6, R7, R8, R9, VOp.fresh, bxC, bsC, R10, un, most, callsOf, List.contains_nil, List.contains_cons, beq_iff_eq, List.getElem?_cons_zero, List.getElem?_cons_succ, seval, Option.map_none, Int.reducePow, ↓reduceIte, Nat.reduceEqDiff, reduceCtorEq, and_self]
  · exact absurd (hb.1 rfl) hn
end
end Go.Proofs.Ytinonmcnofjeeaa.VM
