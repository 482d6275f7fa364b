/- Features and operations as bytes: by the reference's own functions. -/
import Derived.Test.YtinonmcnofjeeaaL11Ref
namespace Go.Proofs.Ytinonmcnofjeeaa.VM
set_option linter.unusedSimpArgs false
set_option linter.unusedVariables false
set_option linter.defProp false
set_option maxHeartbeats 1000000
attribute [local irreducible] Af Nx EvO Ev Un Gd Cd EvR EvQ EvC Nc Gc Lp
theorem getD_pt {l : List Pt} {i : Nat} (hi : i < l.length) : l.getD i ⟨0, 0⟩ = l[i] := by simp [List.getD_eq_getElem?_getD, List.getElem?_eq_getElem hi]
theorem getD_ring {l : List (List Pt)} {i : Nat} (hi : i < l.length) : l.getD i [] = l[i] := by simp [List.getD_eq_getElem?_getD, List.getElem?_eq_getElem hi]
theorem getD_op {l : List Op} {i : Nat} (hi : i < l.length) : l.getD i op0 = l[i] := by simp [List.getD_eq_getElem?_getD, List.getElem?_eq_getElem hi]
theorem ptB_len (p : Pt) : (ptB p).length = 8 := by rw [ptB, List.length_append, numB_len, numB_len]
theorem ringB_len {r : List Pt} (h : r.length ≤ 1000) : (ringB r).length ≤ 8001 := by
  have := flatB_len (F := ptB) (B := 8) (l := r) fun x _ => by rw [ptB_len]; omega
  rw [ringB, List.length_append, numB_len]; omega
section
variable {P : Program}
theorem pts_loop (g : Pg P tab) {a b : Int} {v rv : AV} {j : Nat} {l : List Pt} (hv : IsL 16 RPt rv l) {r : List AV} (g0 : ∀ (hh : Heap) (kk : IntKind), iaV hh 1 none v (.int kk (j : Int)) = .val (.rp (rv :: r)) hh)
    (hh : Heap) {e : TypeId} {ver : Nat} (hg : hh.get 0 = some (.cells [.int .i64 a, .int .i64 b, v] e ver)) (acc : List Nat) (hacc : acc.length + l.length * 8 ≤ 140737488000000) (n : Nat) :
    ∀ (i : Nat) (s : T AV) (k : List Fr) (Q : Ex → T AV → Heap → Prop), i + n = l.length → sg s 1 = .ptr 0 0 → sg s 3 = .str (acc ++ ((l.take i).map ptB).flatten) → sg s 4 = .int .i64 j → sg s 5 = .int .i64 i →
      (∀ s', sg s' 1 = .ptr 0 0 → sg s' 3 = .str (acc ++ (l.map ptB).flatten) → sg s' 4 = .int .i64 j → Un P k Q (.exit 2) s' hh) → Lp P b76_0 s hh (Un P k Q) := by
  have hb := hv.bound (by decide)
  induction n with
  | zero =>
    intro i s k Q hi h1 h3 h4 h5 hK
    refine g.lpe b76_0.eq_1 ?_
    have c1 : ¬ ((i : Int) < (l.length : Int)) := by omega
    simp only [h1, h3, h4, h5, hg, hv.len, c1, g0, R0, R1, R2, R3, R4, R5, R6, R7, bxC, bsC, AV.cells, un, most, callsOf, List.contains_nil, List.contains_cons, beq_iff_eq, List.getElem?_cons_zero, List.getElem?_cons_succ, seval, Int.reducePow, ↓reduceIte, Nat.reduceEqDiff, reduceCtorEq, and_self]
    refine hK _ ?_ ?_ ?_
    · simp only [h1, sg_set, Nat.reduceEqDiff, ↓reduceIte]
    · have : l.take i = l := List.take_of_length_le (by omega)
      rw [this] at h3
      simp only [h3, sg_set, Nat.reduceEqDiff, ↓reduceIte]
    · simp only [h4, sg_set, Nat.reduceEqDiff, ↓reduceIte]
  | succ n ih =>
    intro i s k Q hi h1 h3 h4 h5 hK
    refine g.lpe b76_0.eq_1 ?_
    have c1 : (i : Int) < (l.length : Int) := by omega
    obtain ⟨r1, _, g1⟩ := getPt hv i (by omega)
    have w1 : IntKind.i64.wrap ((i : Int) + 1) = ((i + 1 : Nat) : Int) := by rw [w64 (by omega) (by omega)]; push_cast; rfl
    have hl0 : (acc ++ ((l.take i).map ptB).flatten).length + 8 < 140737488355328 := by
      have := flat_lenT (F := ptB) (B := 8) (l := l) (fun x _ => by rw [ptB_len]; omega) i
      rw [List.length_append]; omega
    have hlt : (acc ++ ((l.take i).map ptB).flatten).length + 4 < 140737488355328 := by omega
    have hlt2 : (acc ++ ((l.take i).map ptB).flatten).length + 4 + 4 < 140737488355328 := by omega
    generalize hA : acc ++ ((l.take i).map ptB).flatten = A at *
    simp only [h1, h3, h4, h5, hg, hv.len, c1, g0, g1, R0, R1, R2, R3, R4, R5, R6, R7, bxC, bsC, AV.cells, un, most, callsOf, List.contains_nil, List.contains_cons, beq_iff_eq, List.getElem?_cons_zero, List.getElem?_cons_succ, seval, Int.reducePow, ↓reduceIte, Nat.reduceEqDiff, reduceCtorEq, and_self]
    refine EvD.same (fun _ => cBe) (by rfl) ?_
    simp +contextual (maxSteps := 2000000) only [h1, h3, h4, h5, hg, hv.len, g0, g1, cBe_eq, be4 g, (show Int.toNat 4 = 4 from rfl), List.length_append, numB_len, hlt, hlt2, w1, R0, R1, R2, R3, R4, R5, R6, R7, bxC, bsC, AV.cells, un, most, callsOf, List.contains_nil, List.contains_cons, beq_iff_eq, List.getElem?_cons_zero, List.getElem?_cons_succ, seval, Int.reducePow, ↓reduceIte, Nat.reduceEqDiff, reduceCtorEq, and_self]
    refine ih (i + 1) _ k Q (by omega) ?_ ?_ ?_ ?_ hK
    · simp only [h1, sg_set, Nat.reduceEqDiff, ↓reduceIte]
    · simp only [sg_set, Nat.reduceEqDiff, ↓reduceIte]
      rw [← hA, List.append_assoc, List.append_assoc, ← List.append_assoc _ (numB _ 4), getD_pt (by omega), List.append_assoc, ← flat_take ptB l i (by omega), ptB]
    · simp only [h4, sg_set, Nat.reduceEqDiff, ↓reduceIte]
    · simp only [sg_set, Nat.reduceEqDiff, ↓reduceIte]
theorem rings_loop (g : Pg P tab) {a b : Int} {v : AV} {l : List (List Pt)} (hv : IsL 24 RRing v l) (hl : l.length ≤ 1000) (hl2 : ∀ r ∈ l, r.length ≤ 1000)
    (hh : Heap) {e : TypeId} {ver : Nat} (hg : hh.get 0 = some (.cells [.int .i64 a, .int .i64 b, v] e ver)) (acc : List Nat) (hacc : acc.length ≤ 1000) (n : Nat) :
    ∀ (i : Nat) (s : T AV) (k : List Fr) (Q : Ex → T AV → Heap → Prop), i + n = l.length → sg s 1 = .ptr 0 0 → sg s 3 = .str (acc ++ ((l.take i).map ringB).flatten) → sg s 4 = .int .i64 i →
      (∀ s', sg s' 1 = .ptr 0 0 → sg s' 3 = .str (acc ++ (l.map ringB).flatten) → Un P k Q (.exit 0) s' hh) → Lp P b76_1 s hh (Un P k Q) := by
  have hb := hv.bound (by decide)
  induction n with
  | zero =>
    intro i s k Q hi h1 h3 h4 hK
    refine g.lpe b76_1.eq_1 ?_
    have c1 : ¬ ((i : Int) < (l.length : Int)) := by omega
    simp only [h1, h3, h4, hg, hv.len, c1, R0, R1, R2, R3, R4, R5, R6, R7, bxC, bsC, AV.cells, un, most, callsOf, List.contains_nil, List.contains_cons, beq_iff_eq, List.getElem?_cons_zero, List.getElem?_cons_succ, seval, Int.reducePow, ↓reduceIte, Nat.reduceEqDiff, reduceCtorEq, and_self]
    refine hK _ ?_ ?_
    · simp only [h1, sg_set, Nat.reduceEqDiff, ↓reduceIte]
    · have : l.take i = l := List.take_of_length_le (by omega)
      rw [this] at h3
      simp only [h3, sg_set, Nat.reduceEqDiff, ↓reduceIte]
  | succ n ih =>
    intro i s k Q hi h1 h3 h4 hK
    refine g.lpe b76_1.eq_1 ?_
    have c1 : (i : Int) < (l.length : Int) := by omega
    obtain ⟨rv, r1, hrv, _, g1⟩ := getRing hv i (by omega)
    have hrl : (l.getD i []).length ≤ 1000 := by rw [getD_ring (by omega)]; exact hl2 _ (List.getElem_mem _)
    have w1 : IntKind.i64.wrap ((i : Int) + 1) = ((i + 1 : Nat) : Int) := by rw [w64 (by omega) (by omega)]; push_cast; rfl
    have hA0 : (acc ++ ((l.take i).map ringB).flatten).length ≤ 10000000 := by
      have := flat_lenT (F := ringB) (B := 8001) (l := l) (fun x hx => ringB_len (hl2 x hx)) i
      rw [List.length_append]; omega
    have hA1 : acc ++ ((l.take i).map ringB).flatten ++ ringB (l.getD i []) = acc ++ ((l.take (i + 1)).map ringB).flatten := by
      rw [getD_ring (by omega), List.append_assoc, flat_take ringB l i (by omega)]
    generalize acc ++ ((l.take i).map ringB).flatten = A at *
    have hlt : A.length + 1 < 140737488355328 := by omega
    simp only [h1, h3, h4, hg, hv.len, c1, g1, hrv.len, R0, R1, R2, R3, R4, R5, R6, R7, bxC, bsC, AV.cells, un, most, callsOf, List.contains_nil, List.contains_cons, beq_iff_eq, List.getElem?_cons_zero, List.getElem?_cons_succ, seval, Int.reducePow, ↓reduceIte, Nat.reduceEqDiff, reduceCtorEq, and_self]
    refine (be1_pu g _).go rfl ?_
    rintro v rfl
    simp only [h1, h3, h4, numB_len, hlt, R0, R1, R2, R3, R4, R5, R6, R7, bxC, bsC, AV.cells, un, most, callsOf, List.contains_nil, List.contains_cons, beq_iff_eq, List.getElem?_cons_zero, List.getElem?_cons_succ, seval, Int.reducePow, ↓reduceIte, Nat.reduceEqDiff, reduceCtorEq, and_self]
    refine pts_loop g hrv g1 hh hg (A ++ numB (l.getD i []).length 1) (by rw [List.length_append, numB_len]; omega) (l.getD i []).length 0 _ _ _ (by omega) ?_ ?_ ?_ ?_ ?_
    · simp only [h1, sg_set, Nat.reduceEqDiff, ↓reduceIte]
    · simp only [h3, sg_set, Nat.reduceEqDiff, ↓reduceIte]
      simp
    · simp only [h4, sg_set, Nat.reduceEqDiff, ↓reduceIte]
    · simp only [sg_set, Nat.reduceEqDiff, ↓reduceIte]
      rfl
    · intro s' h1 h3 h4
      simp only [h1, h3, h4, w1, R0, R1, R2, R3, R4, R5, R6, R7, bxC, bsC, AV.cells, un, most, callsOf, List.contains_nil, List.contains_cons, beq_iff_eq, List.getElem?_cons_zero, List.getElem?_cons_succ, seval, Int.reducePow, ↓reduceIte, Nat.reduceEqDiff, reduceCtorEq, and_self]
      refine ih (i + 1) _ k Q (by omega) ?_ ?_ ?_ hK
      · simp only [h1, sg_set, Nat.reduceEqDiff, ↓reduceIte]
      · simp only [h3, sg_set, Nat.reduceEqDiff, ↓reduceIte]
        rw [← hA1, ringB, List.append_assoc]
      · simp only [sg_set, Nat.reduceEqDiff, ↓reduceIte]
def featSmall (f : Feat) : Prop := f.rings.length ≤ 1000 ∧ ∀ r ∈ f.rings, r.length ≤ 1000
theorem featB_len {f : Feat} (h : featSmall f) : (featB f).length ≤ 9000000 := by
  have h1 := h.1
  have := flatB_len (F := ringB) (B := 8001) (l := f.rings) (fun x hx => ringB_len (h.2 x hx))
  rw [featB, List.length_append, List.length_append, List.length_append, numB_len, numB_len, numB_len]; omega
theorem mpB_len {m : Mp} (h : m.starts.length ≤ 1000) (h' : m.owners.length ≤ 1000) : (mpB m).length ≤ 6000 := by
  have h1 := flatB_len (F := (numB · 4)) (B := 4) (l := m.starts) (fun x _ => by simp only [numB_len]; omega)
  have h2 := flatB_len (F := (numB · 1)) (B := 1) (l := m.owners) (fun x _ => by simp only [numB_len]; omega)
  rw [mpB, List.length_append, List.length_append, List.length_append, numB_len, numB_len]; omega
theorem putFeat_pu (g : Pg P tab) {f : Feat} {v : AV} (hv : IsL 24 RRing v f.rings) (hs : featSmall f) : Pu P 76 [.agg [.int .i64 f.id, .int .i64 f.shape, v]] (fun v => v = .str (featB f)) := by
  refine g.pu (vf := v76) rfl rfl ?_
  simp +contextual (maxSteps := 2000000) only [v76, R0, R1, R2, R3, R4, R5, R6, R7, bxC, bsC, AV.cells, un, most, callsOf, List.contains_nil, List.contains_cons, beq_iff_eq, List.getElem?_cons_zero, List.getElem?_cons_succ, seval, Int.reducePow, ↓reduceIte, Nat.reduceEqDiff, reduceCtorEq, and_self]
  refine EvD.same (fun _ => cBe) (by rfl) ?_
  simp +contextual (maxSteps := 2000000) only [cBe_eq, be1 g, be2 g, List.length_append, numB_len, hv.len, (show Int.toNat 1 = 1 from rfl), (show Int.toNat 2 = 2 from rfl), R0, R1, R2, R3, R4, R5, R6, R7, bxC, bsC, AV.cells, un, most, callsOf, List.contains_nil, List.contains_cons, beq_iff_eq, List.getElem?_cons_zero, List.getElem?_cons_succ, seval, Int.reducePow, ↓reduceIte, Nat.reduceEqDiff, reduceCtorEq, and_self]
  refine rings_loop g hv hs.1 hs.2 _ (a := f.id) (b := f.shape) (e := 52) (ver := 0) ?_ (numB f.id 2 ++ numB f.shape 1 ++ numB f.rings.length 1) ?_ f.rings.length 0 _ _ _ (by omega) ?_ ?_ ?_ ?_
  · rw [Heap.get_mk, if_pos rfl]
  · rw [List.length_append, List.length_append, numB_len, numB_len, numB_len]; omega
  · simp only [sg_set, Nat.reduceEqDiff, ↓reduceIte]
  · simp only [sg_set, Nat.reduceEqDiff, ↓reduceIte]
    simp
  · simp only [sg_set, Nat.reduceEqDiff, ↓reduceIte]
    rfl
  · intro s' h1 h3
    simp +contextual (maxSteps := 2000000) only [h1, h3, R0, R1, R2, R3, R4, R5, R6, R7, bxC, bsC, AV.cells, un, most, callsOf, List.contains_nil, List.contains_cons, beq_iff_eq, List.getElem?_cons_zero, List.getElem?_cons_succ, seval, Int.reducePow, ↓reduceIte, Nat.reduceEqDiff, reduceCtorEq, and_self]
    simp [featB]
end
end Go.Proofs.Ytinonmcnofjeeaa.VM
