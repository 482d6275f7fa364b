/- Operations as bytes: by the reference's own functions. -/
import Derived.Test.YtinonmcnofjeeaaL11RefB
namespace Go.Proofs.Ytinonmcnofjeeaa.VM
set_option linter.unusedSimpArgs false
set_option linter.unusedVariables false
set_option linter.defProp false
set_option maxHeartbeats 1000000
attribute [local irreducible] Af Nx EvO Ev Un Gd Cd EvR EvQ EvC Nc Gc Lp
def opSmall (o : Op) : Prop := featSmall o.f ∧ o.m.starts.length ≤ 1000 ∧ o.m.owners.length ≤ 1000
theorem featOk_small {f : Feat} (h : featOk f) : featSmall f := by
  obtain ⟨_, _, h1, h2, h3⟩ := h
  refine ⟨by omega, fun r hr => ?_⟩
  obtain ⟨i, hi, rfl⟩ := List.mem_iff_getElem.1 hr
  rw [← getD_ring hi]
  rcases h3 with ⟨_, a, b, _⟩ | ⟨_, a, _, b, _⟩ | ⟨_, a⟩
  · have : i = 0 := by omega
    subst this; omega
  · have : i = 0 := by omega
    subst this; omega
  · have := (a i hi).2.1
    omega
theorem ftZero_small {f : Feat} (h : ftZero f) : featSmall f := by
  obtain ⟨_, _, h⟩ := h
  exact ⟨by rw [h]; simp, fun r hr => by rw [h] at hr; simp at hr⟩
theorem opOk_small {o : Op} (h : opOk 8 o) : opSmall o := by
  rcases h with ⟨_, h1, _, _, h2, h3⟩ | ⟨_, _, _, h1, _, h2, h3⟩ | ⟨_, h2, _, h1⟩
  · exact ⟨featOk_small h1, by rw [h2]; simp, by rw [h3]; simp⟩
  · exact ⟨ftZero_small h1, by rw [h2]; simp, by rw [h3]; simp⟩
  · obtain ⟨_, _, _, _, _, a, b, _⟩ := h2
    exact ⟨ftZero_small h1, by omega, by omega⟩
theorem opB_len {o : Op} (h : opSmall o) : (opB o).length ≤ 9000001 := by
  have h1 := featB_len h.1
  have h2 := mpB_len h.2.1 h.2.2
  rw [opB, List.length_append, numB_len]
  split
  · omega
  · split
    · rw [numB_len]; omega
    · omega
section
variable {P : Program}
theorem ops_loop (g : Pg P tab) {v : AV} {l : List Op} (hv : IsL 112 ROp v l) (hl : l.length ≤ 1000) (hs : ∀ o ∈ l, opSmall o) (hh : Heap) (acc : List Nat) (hacc : acc.length ≤ 1000) (n : Nat) :
    ∀ (i : Nat) (s : T AV) (k : List Fr) (Q : Ex → T AV → Heap → Prop), i + n = l.length → sg s 0 = v → sg s 3 = .str (acc ++ ((l.take i).map opB).flatten) → sg s 4 = .int .i64 i →
      (∀ s', sg s' 3 = .str (acc ++ (l.map opB).flatten) → Un P k Q (.exit 0) s' hh) → Lp P b55_0 s hh (Un P k Q) := by
  have hb := hv.bound (by decide)
  induction n with
  | zero =>
    intro i s k Q hi h0 h3 h4 hK
    refine g.lpe b55_0.eq_1 ?_
    have c1 : ¬ ((i : Int) < (l.length : Int)) := by omega
    simp only [h0, h3, h4, hv.len, c1, R0, R1, R2, R3, R4, R5, R6, R7, bxC, bsC, AV.cells, un, most, callsOf, List.contains_nil, List.contains_cons, beq_iff_eq, List.getElem?_cons_zero, List.getElem?_cons_succ, seval, Int.reducePow, ↓reduceIte, Nat.reduceEqDiff, reduceCtorEq, and_self]
    refine hK _ ?_
    have : l.take i = l := List.take_of_length_le (by omega)
    rw [this] at h3
    simp only [h3, sg_set, Nat.reduceEqDiff, ↓reduceIte]
  | succ n ih =>
    intro i s k Q hi h0 h3 h4 hK
    refine g.lpe b55_0.eq_1 ?_
    have c1 : (i : Int) < (l.length : Int) := by omega
    obtain ⟨c, r, hc, tc, tr, g1⟩ := getOp hv i (by omega)
    have hos : opSmall (l.getD i op0) := by rw [getD_op (by omega)]; exact hs _ (List.getElem_mem _)
    have w1 : IntKind.i64.wrap ((i : Int) + 1) = ((i + 1 : Nat) : Int) := by rw [w64 (by omega) (by omega)]; push_cast; rfl
    have hA0 : (acc ++ ((l.take i).map opB).flatten).length ≤ 10000000000 := by
      have := flat_lenT (F := opB) (B := 9000001) (l := l) (fun x hx => opB_len (hs x hx)) i
      rw [List.length_append]; omega
    have hA1 : acc ++ ((l.take i).map opB).flatten ++ opB (l.getD i op0) = acc ++ ((l.take (i + 1)).map opB).flatten := by
      rw [getD_op (by omega), List.append_assoc, flat_take opB l i (by omega)]
    generalize acc ++ ((l.take i).map opB).flatten = A at *
    generalize l.getD i op0 = o at *
    have hlt : A.length + 1 < 140737488355328 := by omega
    have hlt2 : A.length + 1 + 2 < 140737488355328 := by omega
    have hlf : A.length + 1 + (featB o.f).length < 140737488355328 := by have := featB_len hos.1; omega
    have hlm : A.length + 1 + (mpB o.m).length < 140737488355328 := by have := mpB_len hos.2.1 hos.2.2; omega
    obtain ⟨fv, sv, uv, rfl, _, _, _, hfv, _, _, hsv, huv⟩ := hc
    simp only [h0, h3, h4, hv.len, c1, g1, List.cons_append, List.nil_append, R0, R1, R2, R3, R4, R5, R6, R7, bxC, bsC, AV.cells, un, most, callsOf, List.contains_nil, List.contains_cons, beq_iff_eq, List.getElem?_cons_zero, List.getElem?_cons_succ, seval, Int.reducePow, ↓reduceIte, Nat.reduceEqDiff, reduceCtorEq, and_self]
    refine (be1_pu g _).go rfl ?_
    rintro v rfl
    have next : ∀ s', sg s' 0 = v → sg s' 3 = .str (A ++ opB o) → sg s' 4 = .int .i64 ((i + 1 : Nat) : Int) → Lp P b55_0 s' hh (Un P k Q) := by
      intro s' a1 a2 a3
      exact ih (i + 1) s' k Q (by omega) a1 (by rw [a2, hA1]) a3 hK
    by_cases e0 : o.kind = 0
    · simp only [h0, h3, h4, numB_len, hlt, g1, List.cons_append, List.nil_append, e0, R0, R1, R2, R3, R4, R5, R6, R7, bxC, bsC, AV.cells, un, most, callsOf, List.contains_nil, List.contains_cons, beq_iff_eq, List.getElem?_cons_zero, List.getElem?_cons_succ, seval, Int.reducePow, ↓reduceIte, Nat.reduceEqDiff, reduceCtorEq, and_self]
      refine (putFeat_pu g hfv hos.1).go (by simp [AV.tolds, AV.told, hfv.told tRing]) ?_
      rintro v rfl
      simp only [h0, h3, h4, List.length_append, numB_len, hlf, w1, R0, R1, R2, R3, R4, R5, R6, R7, bxC, bsC, AV.cells, un, most, callsOf, List.contains_nil, List.contains_cons, beq_iff_eq, List.getElem?_cons_zero, List.getElem?_cons_succ, seval, Int.reducePow, ↓reduceIte, Nat.reduceEqDiff, reduceCtorEq, and_self]
      refine next _ ?_ ?_ ?_
      · simp only [h0, sg_set, Nat.reduceEqDiff, ↓reduceIte]
      · simp only [sg_set, Nat.reduceEqDiff, ↓reduceIte]
        rw [opB, e0, if_pos rfl, List.append_assoc]
      · simp only [sg_set, Nat.reduceEqDiff, ↓reduceIte]
    · by_cases e1 : o.kind = 1
      · simp only [h0, h3, h4, numB_len, hlt, g1, List.cons_append, List.nil_append, e1, R0, R1, R2, R3, R4, R5, R6, R7, bxC, bsC, AV.cells, un, most, callsOf, List.contains_nil, List.contains_cons, beq_iff_eq, List.getElem?_cons_zero, List.getElem?_cons_succ, seval, Int.reducePow, ↓reduceIte, Nat.reduceEqDiff, reduceCtorEq, and_self]
        refine (be2_pu g _).go rfl ?_
        rintro v rfl
        simp only [h0, h3, h4, List.length_append, numB_len, hlt2, w1, R0, R1, R2, R3, R4, R5, R6, R7, bxC, bsC, AV.cells, un, most, callsOf, List.contains_nil, List.contains_cons, beq_iff_eq, List.getElem?_cons_zero, List.getElem?_cons_succ, seval, Int.reducePow, ↓reduceIte, Nat.reduceEqDiff, reduceCtorEq, and_self]
        refine next _ ?_ ?_ ?_
        · simp only [h0, sg_set, Nat.reduceEqDiff, ↓reduceIte]
        · simp only [sg_set, Nat.reduceEqDiff, ↓reduceIte]
          rw [opB, e1, if_neg (by decide), if_pos rfl, List.append_assoc]
        · simp only [sg_set, Nat.reduceEqDiff, ↓reduceIte]
      · simp only [h0, h3, h4, numB_len, hlt, g1, List.cons_append, List.nil_append, e0, e1, R0, R1, R2, R3, R4, R5, R6, R7, bxC, bsC, AV.cells, un, most, callsOf, List.contains_nil, List.contains_cons, beq_iff_eq, List.getElem?_cons_zero, List.getElem?_cons_succ, seval, Int.reducePow, ↓reduceIte, Nat.reduceEqDiff, reduceCtorEq, and_self]
        refine (putMap_pu g hsv huv hos.2.1 hos.2.2).go (by simp [AV.tolds, AV.told, hsv.told tInt, huv.told tInt]) ?_
        rintro v rfl
        simp only [h0, h3, h4, List.length_append, numB_len, hlm, w1, R0, R1, R2, R3, R4, R5, R6, R7, bxC, bsC, AV.cells, un, most, callsOf, List.contains_nil, List.contains_cons, beq_iff_eq, List.getElem?_cons_zero, List.getElem?_cons_succ, seval, Int.reducePow, ↓reduceIte, Nat.reduceEqDiff, reduceCtorEq, and_self]
        refine next _ ?_ ?_ ?_
        · simp only [h0, sg_set, Nat.reduceEqDiff, ↓reduceIte]
        · simp only [sg_set, Nat.reduceEqDiff, ↓reduceIte]
          rw [opB, if_neg e0, if_neg e1, List.append_assoc]
        · simp only [sg_set, Nat.reduceEqDiff, ↓reduceIte]
theorem putOps_pu (g : Pg P tab) {v : AV} {l : List Op} (hv : IsL 112 ROp v l) (hl : l.length ≤ 1000) (hs : ∀ o ∈ l, opSmall o) : Pu P 55 [v] (fun x => x = .str (opsB l)) := by
  refine g.pu (vf := v55) rfl rfl ?_
  simp only [v55, hv.len, R0, R1, R2, R3, R4, R5, R6, R7, bxC, bsC, AV.cells, un, most, callsOf, List.contains_nil, List.contains_cons, beq_iff_eq, List.getElem?_cons_zero, List.getElem?_cons_succ, seval, Int.reducePow, ↓reduceIte, Nat.reduceEqDiff, reduceCtorEq, and_self]
  refine (be1_pu g _).go rfl ?_
  rintro x rfl
  simp only [R0, R1, R2, R3, R4, R5, R6, R7, bxC, bsC, AV.cells, un, most, callsOf, List.contains_nil, List.contains_cons, beq_iff_eq, List.getElem?_cons_zero, List.getElem?_cons_succ, seval, Int.reducePow, ↓reduceIte, Nat.reduceEqDiff, reduceCtorEq, and_self]
  refine ops_loop g hv hl hs _ (numB l.length 1) (by rw [numB_len]; omega) l.length 0 _ _ _ (by omega) ?_ ?_ ?_ ?_
  · simp only [sg_set, Nat.reduceEqDiff, ↓reduceIte]
  · simp only [sg_set, Nat.reduceEqDiff, ↓reduceIte]
    simp
  · simp only [sg_set, Nat.reduceEqDiff, ↓reduceIte]
    rfl
  · intro s' h3
    simp only [h3, R0, R1, R2, R3, R4, R5, R6, R7, bxC, bsC, AV.cells, un, most, callsOf, List.contains_nil, List.contains_cons, beq_iff_eq, List.getElem?_cons_zero, List.getElem?_cons_succ, seval, Int.reducePow, ↓reduceIte, Nat.reduceEqDiff, reduceCtorEq, and_self]
    rfl
end
end Go.Proofs.Ytinonmcnofjeeaa.VM
