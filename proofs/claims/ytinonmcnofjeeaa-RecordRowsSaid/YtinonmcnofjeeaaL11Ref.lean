/- Records as bytes: by the reference's own functions. -/
import Derived.Test.YtinonmcnofjeeaaL11Rec
import Derived.Test.YtinonmcnofjeeaaL11Num
namespace Go.Proofs.Ytinonmcnofjeeaa.VM
set_option linter.unusedSimpArgs false
set_option linter.unusedVariables false
set_option linter.defProp false
set_option maxHeartbeats 1000000
attribute [local irreducible] Af Nx EvO Ev Un Gd Cd EvR EvQ EvC Nc Gc Lp
def ptB (p : Pt) : List Nat := numB p.x 4 ++ numB p.y 4
def ringB (r : List Pt) : List Nat := numB r.length 1 ++ (r.map ptB).flatten
def featB (f : Feat) : List Nat := numB f.id 2 ++ (numB f.shape 1 ++ (numB f.rings.length 1 ++ (f.rings.map ringB).flatten))
def mpB (m : Mp) : List Nat := numB m.epoch 2 ++ (numB m.starts.length 1 ++ ((m.starts.map (numB · 4)).flatten ++ (m.owners.map (numB · 1)).flatten))
def opB (o : Op) : List Nat := numB o.kind 1 ++ (if o.kind = 0 then featB o.f else if o.kind = 1 then numB o.id 2 else mpB o.m)
def opsB (l : List Op) : List Nat := numB l.length 1 ++ (l.map opB).flatten
def txB (a b : Int) : List Nat := numB a 1 ++ numB b 2
def bitB (b : Bool) : List Nat := numB (if b then 1 else 0) 1
def recB (r : Rc) : List Nat := numB r.kind 1 ++ (if r.kind = 0 then mpB r.m else txB r.node r.seq ++
  (if r.kind = 1 ∨ r.kind = 2 then numB (r.base + 1) 4 ++ opsB r.ops else if r.kind = 3 then bitB r.commit else []))
theorem flat_take {α : Type} (F : α → List Nat) (l : List α) (i : Nat) (hi : i < l.length) : ((l.take i).map F).flatten ++ F l[i] = ((l.take (i + 1)).map F).flatten := by
  rw [List.take_add_one, List.getElem?_eq_getElem hi, List.map_append, List.flatten_append]; simp
theorem getD_int {l : List Int} {i : Nat} (hi : i < l.length) : l.getD i 0 = l[i] := by simp [List.getD_eq_getElem?_getD, List.getElem?_eq_getElem hi]
theorem flatB_len {α : Type} {F : α → List Nat} {B : Nat} : ∀ {l : List α}, (∀ x ∈ l, (F x).length ≤ B) → (l.map F).flatten.length ≤ l.length * B
  | [], _ => by simp
  | a :: l, h => by
    have h1 := flatB_len (F := F) (B := B) (l := l) fun x hx => h x (List.mem_cons_of_mem _ hx)
    have h2 := h a (by simp)
    rw [List.map_cons, List.flatten_cons, List.length_append, List.length_cons, Nat.add_mul]; omega
theorem flat_lenT {α : Type} {F : α → List Nat} {B : Nat} {l : List α} (h : ∀ x ∈ l, (F x).length ≤ B) (i : Nat) : ((l.take i).map F).flatten.length ≤ l.length * B := by
  have h1 := flatB_len (F := F) (B := B) (l := l.take i) fun x hx => h x (List.mem_of_mem_take hx)
  have h2 : (l.take i).length ≤ l.length := by rw [List.length_take]; omega
  exact Nat.le_trans h1 (Nat.mul_le_mul_right _ h2)
/-- what the reference's number comes to -/
def cBe (args : List AV) (h : Heap) : AV × Heap := match args with
  | [.int _ x, .int _ n] => (.str (numB x n.toNat), h)
  | _ => (.undef, h)
theorem cBe_eq {h : Heap} {x n : Int} {k k' : IntKind} : cBe [.int k x, .int k' n] h = (.str (numB x n.toNat), h) := rfl
section
variable {P : Program}
theorem be1 (g : Pg P tab) {x : Int} (h : Heap) : OK P 52 [.int .i64 x, .int .i64 1] h (.str (numB x 1)) h := (be1_pu g x).exact rfl
theorem be2 (g : Pg P tab) {x : Int} (h : Heap) : OK P 52 [.int .i64 x, .int .i64 2] h (.str (numB x 2)) h := (be2_pu g x).exact rfl
theorem be4 (g : Pg P tab) {x : Int} (h : Heap) : OK P 52 [.int .i64 x, .int .i64 4] h (.str (numB x 4)) h := (be4_pu g x).exact rfl
theorem putTx_pu (g : Pg P tab) (a b : Int) : Pu P 54 [.agg [.int .i64 a, .int .i64 b]] (fun v => v = .str (txB a b)) := by
  refine g.pu (vf := v54) rfl rfl ?_
  simp +contextual (maxSteps := 2000000) only [v54, R0, R1, R2, R3, R4, R5, R6, R7, bxC, bsC, AV.cells, un, most, callsOf, List.contains_nil, List.contains_cons, beq_iff_eq, List.getElem?_cons_zero, List.getElem?_cons_succ, seval, Int.reducePow, ↓reduceIte, Nat.reduceEqDiff, reduceCtorEq, and_self]
  refine EvD.same (fun _ => cBe) (by rfl) ?_
  simp +contextual (maxSteps := 2000000) only [cBe_eq, be1 g, be2 g, numB_len, txB, (show Int.toNat 1 = 1 from rfl), (show Int.toNat 2 = 2 from rfl), R0, R1, R2, R3, R4, R5, R6, R7, bxC, bsC, AV.cells, un, most, callsOf, List.contains_nil, List.contains_cons, beq_iff_eq, List.getElem?_cons_zero, List.getElem?_cons_succ, seval, Int.reducePow, ↓reduceIte, Nat.reduceEqDiff, reduceCtorEq, and_self]
theorem bit_pu (g : Pg P tab) (b : Bool) : Pu P 56 [.bool b] (fun v => v = .str (bitB b)) := by
  refine g.pu (vf := v56) rfl rfl ?_
  cases b
  · simp +contextual (maxSteps := 2000000) only [v56, bitB, numB, R0, R1, R2, R3, R4, R5, R6, R7, bxC, bsC, AV.cells, un, most, callsOf, List.contains_nil, List.contains_cons, beq_iff_eq, List.getElem?_cons_zero, List.getElem?_cons_succ, seval, Int.reducePow, ↓reduceIte, Nat.reduceEqDiff, reduceCtorEq, and_self]
  · simp +contextual (maxSteps := 2000000) only [v56, bitB, numB, R0, R1, R2, R3, R4, R5, R6, R7, bxC, bsC, AV.cells, un, most, callsOf, List.contains_nil, List.contains_cons, beq_iff_eq, List.getElem?_cons_zero, List.getElem?_cons_succ, seval, Int.reducePow, ↓reduceIte, Nat.reduceEqDiff, reduceCtorEq, and_self]
theorem starts_loop (g : Pg P tab) {ep : Int} {l : List Int} {a u : AV} (ha : IsL 8 RInt a l) (hh : Heap) {e : TypeId} {ver : Nat} (hg : hh.get 0 = some (.cells [.int .i64 ep, a, u] e ver)) (acc : List Nat) (hacc : acc.length + l.length * 4 ≤ 140737488000000) (n : Nat) :
    ∀ (i : Nat) (s : T AV) (k : List Fr) (Q : Ex → T AV → Heap → Prop), i + n = l.length → sg s 1 = .ptr 0 0 → sg s 3 = .str (acc ++ ((l.take i).map (numB · 4)).flatten) → sg s 4 = .int .i64 i →
      (∀ s', sg s' 1 = .ptr 0 0 → sg s' 3 = .str (acc ++ (l.map (numB · 4)).flatten) → Un P k Q (.exit 0) s' hh) → Lp P b53_0 s hh (Un P k Q) := by
  have hb := ha.bound (by decide)
  induction n with
  | zero =>
    intro i s k Q hi h1 h3 h4 hK
    refine g.lpe b53_0.eq_1 ?_
    have c1 : ¬ ((i : Int) < (l.length : Int)) := by omega
    simp only [h1, h3, h4, hg, ha.len, c1, R0, R1, R2, R3, R4, R5, R6, R7, bxC, bsC, AV.cells, un, most, callsOf, List.contains_nil, List.contains_cons, beq_iff_eq, List.getElem?_cons_zero, List.getElem?_cons_succ, seval, Int.reducePow, ↓reduceIte, Nat.reduceEqDiff, reduceCtorEq, and_self]
    refine hK _ ?_ ?_
    · simp only [h1, sg_set, Nat.reduceEqDiff, ↓reduceIte]
    · have : l.take i = l := List.take_of_length_le (by omega)
      rw [this] at h3
      simp only [h3, sg_set, Nat.reduceEqDiff, ↓reduceIte]
  | succ n ih =>
    intro i s k Q hi h1 h3 h4 hK
    refine g.lpe b53_0.eq_1 ?_
    have c1 : (i : Int) < (l.length : Int) := by omega
    obtain ⟨r1, _, g1⟩ := getInt ha i (by omega)
    have w1 : IntKind.i64.wrap ((i : Int) + 1) = ((i + 1 : Nat) : Int) := by rw [w64 (by omega) (by omega)]; push_cast; rfl
    have hlt : (acc ++ ((l.take i).map (numB · 4)).flatten).length + (numB (l.getD i 0) 4).length < 140737488355328 := by
      have := flat_lenT (F := (numB · 4)) (B := 4) (l := l) (fun x _ => by simp only [numB_len]; omega) i
      rw [List.length_append, numB_len]; omega
    simp only [h1, h3, h4, hg, ha.len, c1, g1, R0, R1, R2, R3, R4, R5, R6, R7, bxC, bsC, AV.cells, un, most, callsOf, List.contains_nil, List.contains_cons, beq_iff_eq, List.getElem?_cons_zero, List.getElem?_cons_succ, seval, Int.reducePow, ↓reduceIte, Nat.reduceEqDiff, reduceCtorEq, and_self]
    refine (be4_pu g _).go rfl ?_
    rintro v rfl
    simp only [h1, h3, h4, hg, ha.len, c1, g1, w1, hlt, R0, R1, R2, R3, R4, R5, R6, R7, bxC, bsC, AV.cells, un, most, callsOf, List.contains_nil, List.contains_cons, beq_iff_eq, List.getElem?_cons_zero, List.getElem?_cons_succ, seval, Int.reducePow, ↓reduceIte, Nat.reduceEqDiff, reduceCtorEq, and_self]
    refine ih (i + 1) _ k Q (by omega) ?_ ?_ ?_ hK
    · simp only [h1, sg_set, Nat.reduceEqDiff, ↓reduceIte]
    · simp only [sg_set, Nat.reduceEqDiff, ↓reduceIte]
      rw [List.append_assoc, getD_int (by omega), flat_take (numB · 4) l i (by omega)]
    · simp only [sg_set, Nat.reduceEqDiff, ↓reduceIte]
theorem owners_loop (g : Pg P tab) {ep : Int} {l : List Int} {a u : AV} (ha : IsL 8 RInt a l) (hh : Heap) {e : TypeId} {ver : Nat} (hg : hh.get 0 = some (.cells [.int .i64 ep, u, a] e ver)) (acc : List Nat) (hacc : acc.length + l.length * 1 ≤ 140737488000000) (n : Nat) :
    ∀ (i : Nat) (s : T AV) (k : List Fr) (Q : Ex → T AV → Heap → Prop), i + n = l.length → sg s 1 = .ptr 0 0 → sg s 3 = .str (acc ++ ((l.take i).map (numB · 1)).flatten) → sg s 5 = .int .i64 i →
      (∀ s', sg s' 1 = .ptr 0 0 → sg s' 3 = .str (acc ++ (l.map (numB · 1)).flatten) → Un P k Q (.exit 2) s' hh) → Lp P b53_1 s hh (Un P k Q) := by
  have hb := ha.bound (by decide)
  induction n with
  | zero =>
    intro i s k Q hi h1 h3 h4 hK
    refine g.lpe b53_1.eq_1 ?_
    have c1 : ¬ ((i : Int) < (l.length : Int)) := by omega
    simp only [h1, h3, h4, hg, ha.len, c1, R0, R1, R2, R3, R4, R5, R6, R7, bxC, bsC, AV.cells, un, most, callsOf, List.contains_nil, List.contains_cons, beq_iff_eq, List.getElem?_cons_zero, List.getElem?_cons_succ, seval, Int.reducePow, ↓reduceIte, Nat.reduceEqDiff, reduceCtorEq, and_self]
    refine hK _ ?_ ?_
    · simp only [h1, sg_set, Nat.reduceEqDiff, ↓reduceIte]
    · have : l.take i = l := List.take_of_length_le (by omega)
      rw [this] at h3
      simp only [h3, sg_set, Nat.reduceEqDiff, ↓reduceIte]
  | succ n ih =>
    intro i s k Q hi h1 h3 h4 hK
    refine g.lpe b53_1.eq_1 ?_
    have c1 : (i : Int) < (l.length : Int) := by omega
    obtain ⟨r1, _, g1⟩ := getInt ha i (by omega)
    have w1 : IntKind.i64.wrap ((i : Int) + 1) = ((i + 1 : Nat) : Int) := by rw [w64 (by omega) (by omega)]; push_cast; rfl
    have hlt : (acc ++ ((l.take i).map (numB · 1)).flatten).length + (numB (l.getD i 0) 1).length < 140737488355328 := by
      have := flat_lenT (F := (numB · 1)) (B := 1) (l := l) (fun x _ => by simp only [numB_len]; omega) i
      rw [List.length_append, numB_len]; omega
    simp only [h1, h3, h4, hg, ha.len, c1, g1, R0, R1, R2, R3, R4, R5, R6, R7, bxC, bsC, AV.cells, un, most, callsOf, List.contains_nil, List.contains_cons, beq_iff_eq, List.getElem?_cons_zero, List.getElem?_cons_succ, seval, Int.reducePow, ↓reduceIte, Nat.reduceEqDiff, reduceCtorEq, and_self]
    refine (be1_pu g _).go rfl ?_
    rintro v rfl
    simp only [h1, h3, h4, hg, ha.len, c1, g1, w1, hlt, R0, R1, R2, R3, R4, R5, R6, R7, bxC, bsC, AV.cells, un, most, callsOf, List.contains_nil, List.contains_cons, beq_iff_eq, List.getElem?_cons_zero, List.getElem?_cons_succ, seval, Int.reducePow, ↓reduceIte, Nat.reduceEqDiff, reduceCtorEq, and_self]
    refine ih (i + 1) _ k Q (by omega) ?_ ?_ ?_ hK
    · simp only [h1, sg_set, Nat.reduceEqDiff, ↓reduceIte]
    · simp only [sg_set, Nat.reduceEqDiff, ↓reduceIte]
      rw [List.append_assoc, getD_int (by omega), flat_take (numB · 1) l i (by omega)]
    · simp only [sg_set, Nat.reduceEqDiff, ↓reduceIte]
theorem putMap_pu (g : Pg P tab) {m : Mp} {v u : AV} (hv : IsL 8 RInt v m.starts) (hu : IsL 8 RInt u m.owners) (hs : m.starts.length ≤ 1000) (ho : m.owners.length ≤ 1000) : Pu P 53 [.agg [.int .i64 m.epoch, v, u]] (fun v => v = .str (mpB m)) := by
  refine g.pu (vf := v53) rfl rfl ?_
  simp +contextual (maxSteps := 2000000) only [v53, R0, R1, R2, R3, R4, R5, R6, R7, bxC, bsC, AV.cells, un, most, callsOf, List.contains_nil, List.contains_cons, beq_iff_eq, List.getElem?_cons_zero, List.getElem?_cons_succ, seval, Int.reducePow, ↓reduceIte, Nat.reduceEqDiff, reduceCtorEq, and_self]
  refine EvD.same (fun _ => cBe) (by rfl) ?_
  simp +contextual (maxSteps := 2000000) only [cBe_eq, be1 g, be2 g, numB_len, hv.len, (show Int.toNat 1 = 1 from rfl), (show Int.toNat 2 = 2 from rfl), R0, R1, R2, R3, R4, R5, R6, R7, bxC, bsC, AV.cells, un, most, callsOf, List.contains_nil, List.contains_cons, beq_iff_eq, List.getElem?_cons_zero, List.getElem?_cons_succ, seval, Int.reducePow, ↓reduceIte, Nat.reduceEqDiff, reduceCtorEq, and_self]
  refine starts_loop g hv _ (ep := m.epoch) (u := u) (e := 26) (ver := 0) ?_ (numB m.epoch 2 ++ numB m.starts.length 1) ?_ m.starts.length 0 _ _ _ (by omega) ?_ ?_ ?_ ?_
  · rw [Heap.get_mk, if_pos rfl]
  · rw [List.length_append, numB_len, numB_len]; omega
  · simp only [sg_set, Nat.reduceEqDiff, ↓reduceIte]
  · simp only [sg_set, Nat.reduceEqDiff, ↓reduceIte]
    simp
  · simp only [sg_set, Nat.reduceEqDiff, ↓reduceIte]
    rfl
  · intro s' h1 h3
    simp +contextual (maxSteps := 2000000) only [h1, h3, R0, R1, R2, R3, R4, R5, R6, R7, bxC, bsC, AV.cells, un, most, callsOf, List.contains_nil, List.contains_cons, beq_iff_eq, List.getElem?_cons_zero, List.getElem?_cons_succ, seval, Int.reducePow, ↓reduceIte, Nat.reduceEqDiff, reduceCtorEq, and_self]
    refine owners_loop g hu _ (ep := m.epoch) (u := v) (e := 26) (ver := 0) ?_ (numB m.epoch 2 ++ numB m.starts.length 1 ++ (m.starts.map (numB · 4)).flatten) ?_ m.owners.length 0 _ _ _ (by omega) ?_ ?_ ?_ ?_
    · rw [Heap.get_mk, if_pos rfl]
    · have := flatB_len (F := (numB · 4)) (B := 4) (l := m.starts) (fun x _ => by simp only [numB_len]; omega)
      rw [List.length_append, List.length_append, numB_len, numB_len]; omega
    · simp only [h1, sg_set, Nat.reduceEqDiff, ↓reduceIte]
    · simp only [h3, sg_set, Nat.reduceEqDiff, ↓reduceIte]
      simp
    · simp only [sg_set, Nat.reduceEqDiff, ↓reduceIte]
      rfl
    · intro s' h1 h3
      simp +contextual (maxSteps := 2000000) only [h1, h3, R0, R1, R2, R3, R4, R5, R6, R7, bxC, bsC, AV.cells, un, most, callsOf, List.contains_nil, List.contains_cons, beq_iff_eq, List.getElem?_cons_zero, List.getElem?_cons_succ, seval, Int.reducePow, ↓reduceIte, Nat.reduceEqDiff, reduceCtorEq, and_self]
      simp [mpB]
end
end Go.Proofs.Ytinonmcnofjeeaa.VM
