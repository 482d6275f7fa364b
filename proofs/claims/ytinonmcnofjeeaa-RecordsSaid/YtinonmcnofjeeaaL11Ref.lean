/- Records as bytes: by the reference's own functions. -/
import Derived.Test.YtinonmcnofjeeaaL11Rec
import Derived.Test.YtinonmcnofjeeaaL11Num
namespace Go.Proofs.Ytinonmcnofjeeaa.VM
set_option linter.unusedSimpArgs false
set_option linter.unusedVariables false
set_option linter.defProp false
set_option maxHeartbeats 1000000
attribute [local irreducible] Af Nx EvO Ev Un Gd Cd EvR EvQ EvC Nc Gc Lp EvM NxM AfM GdM EvMR EvMQ EvMD EvMC Nm Gm
def ptB (p : Pt) : List Nat := numB p.x 4 ++ numB p.y 4
def ringB (r : List Pt) : List Nat := numB r.length 1 ++ (r.map ptB).flatten
def featB (f : Feat) : List Nat := numB f.id 2 ++ (numB f.shape 1 ++ (numB f.rings.length 1 ++ (f.rings.map ringB).flatten))
def mpB (m : Mp) : List Nat := numB m.epoch 2 ++ (numB m.starts.length 1 ++ ((m.starts.map (numB · 4)).flatten ++ (m.owners.map (numB · 1)).flatten))
def opB (o : Op) : List Nat := numB o.kind 1 ++ (if o.kind = 0 then featB o.f else if o.kind = 1 then numB o.id 2 else mpB o.m)
def opsB (l : List Op) : List Nat := numB l.length 1 ++ (l.map opB).flatten
def txB (a b : Int) : List Nat := numB a 1 ++ numB b 2
def bitB (b : Bool) : List Nat := numB (if b then 1 else 0) 1
def recB (r : Rc) : List Nat := numB r.kind 1 ++ (if r.kind = 0 then mpB r.m else txB r.node r.seq ++
  (if r.kind = 1 ∨ r.kind = 2 then numB (r.base + 1) 4 ++ opsB r.ops else if r.kind = 3 then bitB r.commit else []))
theorem flat_take {α : Type} (F : α → List Nat) (l : List α) (i : Nat) (hi : i < l.length) : ((l.take i).map F).flatten ++ F l[i] = ((l.take (i + 1)).map F).flatten := by
  rw [List.take_add_one, List.getElem?_eq_getElem hi, List.map_append, List.flatten_append]; simp
theorem getD_int {l : List Int} {i : Nat} (hi : i < l.length) : l.getD i 0 = l[i] := by simp [List.getD_eq_getElem?_getD, List.getElem?_eq_getElem hi]
theorem flatB_len {α : Type} {F : α → List Nat} {B : Nat} : ∀ {l : List α}, (∀ x ∈ l, (F x).length ≤ B) → (l.map F).flatten.length ≤ l.length * B
  | [], _ => by simp
  | a :: l, h => by
    have h1 := flatB_len (F := F) (B := B) (l := l) fun x hx => h x (List.mem_cons_of_mem _ hx)
    have h2 := h a (by simp)
    rw [List.map_cons, List.flatten_cons, List.length_append, List.length_cons, Nat.add_mul]; omega
theorem flat_lenT {α : Type} {F : α → List Nat} {B : Nat} {l : List α} (h : ∀ x ∈ l, (F x).length ≤ B) (i : Nat) : ((l.take i).map F).flatten.length ≤ l.length * B := by
  have h1 := flatB_len (F := F) (B := B) (l := l.take i) fun x hx => h x (List.mem_of_mem_take hx)
  have h2 : (l.take i).length ≤ l.length := by rw [List.length_take]; omega
  exact Nat.le_trans h1 (Nat.mul_le_mul_right _ h2)
/-- what the reference's number comes to -/
def cBe (args : List AV) (h : Heap) : AV × Heap := match args with
  | [.int _ x, .int _ n] => (.str (numB x n.toNat), h)
  | _ => (.undef, h)
theorem cBe_eq {h : Heap} {x n : Int} {k k' : IntKind} : cBe [.int k x, .int k' n] h = (.str (numB x n.toNat), h) := rfl
section
variable {P : Program}
theorem be1 (g : Pg P tab) {x : Int} (h : Heap) : OK P 52 [.int .i64 x, .int .i64 1] h (.str (numB x 1)) h := (be1_pu g x).exact rfl
theorem be2 (g : Pg P tab) {x : Int} (h : Heap) : OK P 52 [.int .i64 x, .int .i64 2] h (.str (numB x 2)) h := (be2_pu g x).exact rfl
theorem be4 (g : Pg P tab) {x : Int} (h : Heap) : OK P 52 [.int .i64 x, .int .i64 4] h (.str (numB x 4)) h := (be4_pu g x).exact rfl
theorem putTx_pu (g : Pg P tab) (a b : Int) : Pu P 54 [.agg [.int .i64 a, .int .i64 b]] (fun v => v = .str (txB a b)) := by
  refine g.pu (vf := v54) rfl rfl ?_
  simp +contextual (maxSteps := 2000000) only [v54, R0, R1, R2, R3, R4, R5, R6, R7, R8, R9, VOp.fresh, bxC, bsC, R10, un, most, callsOf, List.contains_nil, List.contains_cons, beq_iff_eq, List.getElem?_cons_zero, List.getElem?_cons_succ, seval, Option.map_none, Int.reducePow, ↓reduceIte, Nat.reduceEqDiff, reduceCtorEq, and_self]
  refine EvD.same (fun _ => cBe) (by rfl) ?_
  simp +contextual (maxSteps := 2000000) only [cBe_eq, be1 g, be2 g, numB_len, txB, (show Int.toNat 1 = 1 from rfl), (show Int.toNat 2 = 2 from rfl), R0, R1, R2, R3, R4, R5, R6, R7, R8, R9, VOp.fresh, bxC, bsC, R10, un, most, callsOf, List.contains_nil, List.contains_cons, beq_iff_eq, List.getElem?_cons_zero, List.getElem?_cons_succ, seval, Option.map_none, Int.reducePow, ↓reduceIte, Nat.reduceEqDiff, reduceCtorEq, and_self]
theorem bit_pu (g : Pg P tab) (b : Bool) : Pu P 56 [.bool b] (fun v => v = .str (bitB b)) := by
  refine g.pu (vf := v56) rfl rfl ?_
  cases b
  · simp +contextual (maxSteps := 2000000) only [v56, bitB, numB, R0, R1, R2, R3, R4, R5, R6, R7, R8, R9, VOp.fresh, bxC, bsC, R10, un, most, callsOf, List.contains_nil, List.contains_cons, beq_iff_eq, List.getElem?_cons_zero, List.getElem?_cons_succ, seval, Option.map_none, Int.reducePow, ↓reduceIte, Nat.reduceEqDiff, reduceCtorEq, and_self]
  · simp +contextual (maxSteps := 2000000) only [v56, bitB, numB, R0, R1, R2, R3, R4, R5, R6, R7, R8, R9, VOp.fresh, bxC, bsC, R10, un, most, callsOf, List.contains_nil, List.contains_cons, beq_iff_eq, List.getElem?_cons_zero, List.getElem?_cons_succ, seval, Option.map_none, Int.reducePow, ↓reduceIte, Nat.reduceEqDiff, reduceCtorEq, and_self]
theorem starts_loop (g : Pg P tab) {ep : Int} {l : List Int} {a u : AV} (ha : IsL 8 RInt a l) (hh : Heap) {e : TypeId} {ver : Nat} (hg : hh.get 0 = some (.cells [.int .i64 ep, a, u] e ver)) (acc : List Nat) (hacc : acc.length + l.length * 4 ≤ 140737488000000) (n : Nat) :
    ∀ (i : Nat) (s : T AV) (k : List Fr) (Q : Ex → T AV → Heap → Prop), i + n = l.length → sg s 1 = .ptr 0 0 → sg s 3 = .str (acc ++ ((l.take i).map (numB · 4)).flatten) → sg s 4 = .int .i64 i →
      (∀ s', sg s' 1 = .ptr 0 0 → sg s' 3 = .str (acc ++ (l.map (numB · 4)).flatten) → Un P k Q (.exit 0) s' hh) → Lp P b53_0 s hh (Un P k Q) := by
  have hb := ha.bound (by decide)
  induction n with
  | zero =>
    intro i s k Q hi h1 h3 h4 hK
    refine g.lpe b53_0.eq_1 ?_
    have c1 : ¬ ((i : Int) < (l.length : Int)) := by omega
    simp only [h1, h3, h4, hg, ha.len, c1, R0, R1, R2, R3, R4, R5, R6, R7, R8, R9, VOp.fresh, bxC, bsC, R10, un, most, callsOf, List.contains_nil, List.contains_cons, beq_iff_eq, List.getElem?_cons_zero, List.getElem?_cons_succ, seval, Option.map_none, Int.reducePow, ↓reduceIte, Nat.reduceEqDiff, reduceCtorEq, and_self]
    refine hK _ ?_ ?_
    · simp only [h1, sg_set, Nat.reduceEqDiff, ↓reduceIte]
    · have : l.take i = l := List.take_of_length_le (by omega)
      rw [this] at h3
      simp only [h3, sg_set, Nat.reduceEqDiff, ↓reduceIte]
  | succ n ih =>
    intro i s k Q hi h1 h3 h4 hK
    refine g.lpe b53_0.eq_1 ?_
    have c1 : (i : Int) < (l.length : Int) := by omega
    obtain ⟨r1, _, g1⟩ := getInt ha i (by omega)
    have w1 : IntKind.i64.wrap ((i : Int) + 1) = ((i + 1 : Nat) : Int) := by rw [w64 (by omega) (by omega)]; push_cast; rfl
    have hlt : (acc ++ ((l.take i).map (numB · 4)).flatten).length + (numB (l.getD i 0) 4).length < 140737488355328 := by
      have := flat_lenT (F := (numB · 4)) (B := 4) (l := l) (fun x _ => by simp only [numB_len]; omega) i
      rw [List.length_append, numB_len]; omega
    simp only [h1, h3, h4, hg, ha.len, c1, g1, R0, R1, R2, R3, R4, R5, R6, R7, R8, R9, VOp.fresh, bxC, bsC, R10, un, most, callsOf, List.contains_nil, List.contains_cons, beq_iff_eq, List.getElem?_cons_zero, List.getElem?_cons_succ, seval, Option.map_none, Int.reducePow, ↓reduceIte, Nat.reduceEqDiff, reduceCtorEq, and_self]
    refine (be4_pu g _).go rfl ?_
    rintro v rfl
    simp only [h1, h3, h4, hg, ha.len, c1, g1, w1, hlt, R0, R1, R2, R3, R4, R5, R6, R7, R8, R9, VOp.fresh, bxC, bsC, R10, un, most, callsOf, List.contains_nil, List.contains_cons, beq_iff_eq, List.getElem?_cons_zero, List.getElem?_cons_succ, seval, Option.map_none, Int.reducePow, ↓reduceIte, Nat.reduceEqDiff, reduceCtorEq, and_self]
    refine ih (i + 1) _ k Q (by omega) ?_ ?_ ?_ hK
    · simp only [h1, sg_set, Nat.reduceEqDiff, ↓reduceIte]
    · simp only [sg_set, Nat.reduceEqDiff, ↓reduceIte]
      rw [List.append_assoc, getD_int (by omega), flat_take (numB · 4) l i (by omega)]
    · simp only [sg_set, Nat.reduceEqDiff, ↓reduceIte]
theorem owners_loop (g : Pg P tab) {ep : Int} {l : List Int} {a u : AV} (ha : IsL 8 RInt a l) (hh : Heap) {e : TypeId} {ver : Nat} (hg : hh.get 0 = some (.cells [.int .i64 ep, u, a] e ver)) (acc : List Nat) (hacc : acc.length + l.length * 1 ≤ 140737488000000) (n : Nat) :
    ∀ (i : Nat) (s : T AV) (k : List Fr) (Q : Ex → T AV → Heap → Prop), i + n = l.length → sg s 1 = .ptr 0 0 → sg s 3 = .str (acc ++ ((l.take i).map (numB · 1)).flatten) → sg s 5 = .int .i64 i →
      (∀ s', sg s' 1 = .ptr 0 0 → sg s' 3 = .str (acc ++ (l.map (numB · 1)).flatten) → Un P k Q (.exit 2) s' hh) → Lp P b53_1 s hh (Un P k Q) := by
  have hb := ha.bound (by decide)
  induction n with
  | zero =>
    intro i s k Q hi h1 h3 h4 hK
    refine g.lpe b53_1.eq_1 ?_
    have c1 : ¬ ((i : Int) < (l.length : Int)) := by omega
    simp only [h1, h3, h4, hg, ha.len, c1, R0, R1, R2, R3, R4, R5, R6, R7, R8, R9, VOp.fresh, bxC, bsC, R10, un, most, callsOf, List.contains_nil, List.contains_cons, beq_iff_eq, List.getElem?_cons_zero, List.getElem?_cons_succ, seval, Option.map_none, Int.reducePow, ↓reduceIte, Nat.reduceEqDiff, reduceCtorEq, and_self]
    refine hK _ ?_ ?_
    · simp only [h1, sg_set, Nat.reduceEqDiff, ↓reduceIte]
    · have : l.take i = l := List.take_of_length_le (by omega)
      rw [this] at h3
      simp only [h3, sg_set, Nat.reduceEqDiff, ↓reduceIte]
  | succ n ih =>
    intro i s k Q hi h1 h3 h4 hK
    refine g.lpe b53_1.eq_1 ?_
    have c1 : (i : Int) < (l.length : Int) := by omega
    obtain ⟨r1, _, g1⟩ := getInt ha i (by omega)
    have w1 : IntKind.i64.wrap ((i : Int) + 1) = ((i + 1 : Nat) : Int) := by rw [w64 (by omega) (by omega)]; push_cast; rfl
    have hlt : (acc ++ ((l.take i).map (numB · 1)).flatten).length + (numB (l.getD i 0) 1).length < 140737488355328 := by
      have := flat_lenT (F := (numB · 1)) (B := 1) (l := l) (fun x _ => by simp only [numB_len]; omega) i
      rw [List.length_append, numB_len]; omega
    simp only [h1, h3, h4, hg, ha.len, c1, g1, R0, R1, R2, R3, R4, R5, R6, R7, R8, R9, VOp.fresh, bxC, bsC, R10, un, most, callsOf, List.contains_nil, List.contains_cons, beq_iff_eq, List.getElem?_cons_zero, List.getElem?_cons_succ, seval, Option.map_none, Int.reducePow, ↓reduceIte, Nat.reduceEqDiff, reduceCtorEq, and_self]
    refine (be1_pu g _).go rfl ?_
    rintro v rfl
    simp only [h1, h3, h4, hg, ha.len, c1, g1, w1, hlt, R0, R1, R2, R3, R4, R5, R6, R7, R8, R9, VOp.fresh, bxC, bsC, R10, un, most, callsOf, List.contains_nil, List.contains_cons, beq_iff_eq, List.getElem?_cons_zero, List.getElem?_cons_succ, seval, Option.map_none, Int.reducePow, ↓reduceIte, Nat.reduceEqDiff, reduceCtorEq, and_self]
    refine ih (i + 1) _ k Q (by omega) ?_ ?_ ?_ hK
    · simp only [h1, sg_set, Nat.reduceEqDiff, ↓reduceIte]
    · simp only [sg_set, Nat.reduceEqDiff, ↓reduceIte]
      rw [List.append_assoc, getD_int (by omega), flat_take (numB · 1) l i (by omega)]
    · simp only [sg_set, Nat.reduceEqDiff, ↓reduceIte]
theorem putMap_pu (g : Pg P tab) {m : Mp} {v u : AV} (hv : IsL 8 RInt v m.starts) (hu : IsL 8 RInt u m.owners) (hs : m.starts.length ≤ 1000) (ho : m.owners.length ≤ 1000) : Pu P 53 [.agg [.int .i64 m.epoch, v, u]] (fun v => v = .str (mpB m)) := by
  refine g.pu (vf := v53) rfl rfl ?_
  simp +contextual (maxSteps := 2000000) only [v53, R0, R1, R2, R3, R4, R5, R6, R7, R8, R9, VOp.fresh, bxC, bsC, R10, un, most, callsOf, List.contains_nil, List.contains_cons, beq_iff_eq, List.getElem?_cons_zero, List.getElem?_cons_succ, seval, Option.map_none, Int.reducePow, ↓reduceIte, Nat.reduceEqDiff, reduceCtorEq, and_self]
  refine EvD.same (fun _ => cBe) (by rfl) ?_
  simp +contextual (maxSteps := 2000000) only [cBe_eq, be1 g, be2 g, numB_len, hv.len, (show Int.toNat 1 = 1 from rfl), (show Int.toNat 2 = 2 from rfl), R0, R1, R2, R3, R4, R5, R6, R7, R8, R9, VOp.fresh, bxC, bsC, R10, un, most, callsOf, List.contains_nil, List.contains_cons, beq_iff_eq, List.getElem?_cons_zero, List.getElem?_cons_succ, seval, Option.map_none, Int.reducePow, ↓reduceIte, Nat.reduceEqDiff, reduceCtorEq, and_self]
  refine starts_loop g hv _ (ep := m.epoch) (u := u) (e := 26) (ver := 0) ?_ (numB m.epoch 2 ++ numB m.starts.length 1) ?_ m.starts.length 0 _ _ _ (by omega) ?_ ?_ ?_ ?_
  · rw [Heap.get_mk, if_pos rfl]
  · rw [List.length_append, numB_len, numB_len]; omega
  · simp only [sg_set, Nat.reduceEqDiff, ↓reduceIte]
  · simp only [sg_set, Nat.reduceEqDiff, ↓reduceIte]
    simp
  · simp only [sg_set, Nat.reduceEqDiff, ↓reduceIte]
    rfl
  · intro s' h1 h3
    simp +contextual (maxSteps := 2000000) only [h1, h3, R0, R1, R2, R3, R4, R5, R6, R7, R8, R9, VOp.fresh, bxC, bsC, R10, un, most, callsOf, List.contains_nil, List.contains_cons, beq_iff_eq, List.getElem?_cons_zero, List.getElem?_cons_succ, seval, Option.map_none, Int.reducePow, ↓reduceIte, Nat.reduceEqDiff, reduceCtorEq, and_self]
    refine owners_loop g hu _ (ep := m.epoch) (u := v) (e := 26) (ver := 0) ?_ (numB m.epoch 2 ++ numB m.starts.length 1 ++ (m.starts.map (numB · 4)).flatten) ?_ m.owners.length 0 _ _ _ (by omega) ?_ ?_ ?_ ?_
    · rw [Heap.get_mk, if_pos rfl]
    · have := flatB_len (F := (numB · 4)) (B := 4) (l := m.starts) (fun x _ => by simp only [numB_len]; omega)
      rw [List.length_append, List.length_append, numB_len, numB_len]; omega
    · simp only [h1, sg_set, Nat.reduceEqDiff, ↓reduceIte]
    · simp only [h3, sg_set, Nat.reduceEqDiff, ↓reduceIte]
      simp
    · simp only [sg_set, Nat.reduceEqDiff, ↓reduceIte]
      rfl
    · intro s' h1 h3
      simp +contextual (maxSteps := 2000000) only [h1, h3, R0, R1, R2, R3, R4, R5, R6, R7, R8, R9, VOp.fresh, bxC, bsC, R10, un, most, callsOf, List.contains_nil, List.contains_cons, beq_iff_eq, List.getElem?_cons_zero, List.getElem?_cons_succ, seval, Option.map_none, Int.reducePow, ↓reduceIte, Nat.reduceEqDiff, reduceCtorEq, and_self]
      simp [mpB]
end
theorem getD_pt {l : List Pt} {i : Nat} (hi : i < l.length) : l.getD i ⟨0, 0⟩ = l[i] := by simp [List.getD_eq_getElem?_getD, List.getElem?_eq_getElem hi]
theorem getD_ring {l : List (List Pt)} {i : Nat} (hi : i < l.length) : l.getD i [] = l[i] := by simp [List.getD_eq_getElem?_getD, List.getElem?_eq_getElem hi]
theorem getD_op {l : List Op} {i : Nat} (hi : i < l.length) : l.getD i op0 = l[i] := by simp [List.getD_eq_getElem?_getD, List.getElem?_eq_getElem hi]
theorem ptB_len (p : Pt) : (ptB p).length = 8 := by rw [ptB, List.length_append, numB_len, numB_len]
theorem ringB_len {r : List Pt} (h : r.length ≤ 1000) : (ringB r).length ≤ 8001 := by
  have := flatB_len (F := ptB) (B := 8) (l := r) fun x _ => by rw [ptB_len]; omega
  rw [ringB, List.length_append, numB_len]; omega
section
variable {P : Program}
theorem pts_loop (g : Pg P tab) {a b : Int} {v rv : AV} {j : Nat} {l : List Pt} (hv : IsL 16 RPt rv l) {r : List AV} (g0 : ∀ (hh : Heap) (kk : IntKind), iaV hh 1 none v (.int kk (j : Int)) = .val (.rp (rv :: r)) hh)
    (hh : Heap) {e : TypeId} {ver : Nat} (hg : hh.get 0 = some (.cells [.int .i64 a, .int .i64 b, v] e ver)) (acc : List Nat) (hacc : acc.length + l.length * 8 ≤ 140737488000000) (n : Nat) :
    ∀ (i : Nat) (s : T AV) (k : List Fr) (Q : Ex → T AV → Heap → Prop), i + n = l.length → sg s 1 = .ptr 0 0 → sg s 3 = .str (acc ++ ((l.take i).map ptB).flatten) → sg s 4 = .int .i64 j → sg s 5 = .int .i64 i →
      (∀ s', sg s' 1 = .ptr 0 0 → sg s' 3 = .str (acc ++ (l.map ptB).flatten) → sg s' 4 = .int .i64 j → Un P k Q (.exit 2) s' hh) → Lp P b76_0 s hh (Un P k Q) := by
  have hb := hv.bound (by decide)
  induction n with
  | zero =>
    intro i s k Q hi h1 h3 h4 h5 hK
    refine g.lpe b76_0.eq_1 ?_
    have c1 : ¬ ((i : Int) < (l.length : Int)) := by omega
    simp only [h1, h3, h4, h5, hg, hv.len, c1, g0, R0, R1, R2, R3, R4, R5, R6, R7, R8, R9, VOp.fresh, bxC, bsC, R10, un, most, callsOf, List.contains_nil, List.contains_cons, beq_iff_eq, List.getElem?_cons_zero, List.getElem?_cons_succ, seval, Option.map_none, Int.reducePow, ↓reduceIte, Nat.reduceEqDiff, reduceCtorEq, and_self]
    refine hK _ ?_ ?_ ?_
    · simp only [h1, sg_set, Nat.reduceEqDiff, ↓reduceIte]
    · have : l.take i = l := List.take_of_length_le (by omega)
      rw [this] at h3
      simp only [h3, sg_set, Nat.reduceEqDiff, ↓reduceIte]
    · simp only [h4, sg_set, Nat.reduceEqDiff, ↓reduceIte]
  | succ n ih =>
    intro i s k Q hi h1 h3 h4 h5 hK
    refine g.lpe b76_0.eq_1 ?_
    have c1 : (i : Int) < (l.length : Int) := by omega
    obtain ⟨r1, _, g1⟩ := getPt hv i (by omega)
    have w1 : IntKind.i64.wrap ((i : Int) + 1) = ((i + 1 : Nat) : Int) := by rw [w64 (by omega) (by omega)]; push_cast; rfl
    have hl0 : (acc ++ ((l.take i).map ptB).flatten).length + 8 < 140737488355328 := by
      have := flat_lenT (F := ptB) (B := 8) (l := l) (fun x _ => by rw [ptB_len]; omega) i
      rw [List.length_append]; omega
    have hlt : (acc ++ ((l.take i).map ptB).flatten).length + 4 < 140737488355328 := by omega
    have hlt2 : (acc ++ ((l.take i).map ptB).flatten).length + 4 + 4 < 140737488355328 := by omega
    generalize hA : acc ++ ((l.take i).map ptB).flatten = A at *
    simp only [h1, h3, h4, h5, hg, hv.len, c1, g0, g1, R0, R1, R2, R3, R4, R5, R6, R7, R8, R9, VOp.fresh, bxC, bsC, R10, un, most, callsOf, List.contains_nil, List.contains_cons, beq_iff_eq, List.getElem?_cons_zero, List.getElem?_cons_succ, seval, Option.map_none, Int.reducePow, ↓reduceIte, Nat.reduceEqDiff, reduceCtorEq, and_self]
    refine EvD.same (fun _ => cBe) (by rfl) ?_
    simp +contextual (maxSteps := 2000000) only [h1, h3, h4, h5, hg, hv.len, g0, g1, cBe_eq, be4 g, (show Int.toNat 4 = 4 from rfl), List.length_append, numB_len, hlt, hlt2, w1, R0, R1, R2, R3, R4, R5, R6, R7, R8, R9, VOp.fresh, bxC, bsC, R10, un, most, callsOf, List.contains_nil, List.contains_cons, beq_iff_eq, List.getElem?_cons_zero, List.getElem?_cons_succ, seval, Option.map_none, Int.reducePow, ↓reduceIte, Nat.reduceEqDiff, reduceCtorEq, and_self]
    refine ih (i + 1) _ k Q (by omega) ?_ ?_ ?_ ?_ hK
    · simp only [h1, sg_set, Nat.reduceEqDiff, ↓reduceIte]
    · simp only [sg_set, Nat.reduceEqDiff, ↓reduceIte]
      rw [← hA, List.append_assoc, List.append_assoc, ← List.append_assoc _ (numB _ 4), getD_pt (by omega), List.append_assoc, ← flat_take ptB l i (by omega), ptB]
    · simp only [h4, sg_set, Nat.reduceEqDiff, ↓reduceIte]
    · simp only [sg_set, Nat.reduceEqDiff, ↓reduceIte]
theorem rings_loop (g : Pg P tab) {a b : Int} {v : AV} {l : List (List Pt)} (hv : IsL 24 RRing v l) (hl : l.length ≤ 1000) (hl2 : ∀ r ∈ l, r.length ≤ 1000)
    (hh : Heap) {e : TypeId} {ver : Nat} (hg : hh.get 0 = some (.cells [.int .i64 a, .int .i64 b, v] e ver)) (acc : List Nat) (hacc : acc.length ≤ 1000) (n : Nat) :
    ∀ (i : Nat) (s : T AV) (k : List Fr) (Q : Ex → T AV → Heap → Prop), i + n = l.length → sg s 1 = .ptr 0 0 → sg s 3 = .str (acc ++ ((l.take i).map ringB).flatten) → sg s 4 = .int .i64 i →
      (∀ s', sg s' 1 = .ptr 0 0 → sg s' 3 = .str (acc ++ (l.map ringB).flatten) → Un P k Q (.exit 0) s' hh) → Lp P b76_1 s hh (Un P k Q) := by
  have hb := hv.bound (by decide)
  induction n with
  | zero =>
    intro i s k Q hi h1 h3 h4 hK
    refine g.lpe b76_1.eq_1 ?_
    have c1 : ¬ ((i : Int) < (l.length : Int)) := by omega
    simp only [h1, h3, h4, hg, hv.len, c1, R0, R1, R2, R3, R4, R5, R6, R7, R8, R9, VOp.fresh, bxC, bsC, R10, un, most, callsOf, List.contains_nil, List.contains_cons, beq_iff_eq, List.getElem?_cons_zero, List.getElem?_cons_succ, seval, Option.map_none, Int.reducePow, ↓reduceIte, Nat.reduceEqDiff, reduceCtorEq, and_self]
    refine hK _ ?_ ?_
    · simp only [h1, sg_set, Nat.reduceEqDiff, ↓reduceIte]
    · have : l.take i = l := List.take_of_length_le (by omega)
      rw [this] at h3
      simp only [h3, sg_set, Nat.reduceEqDiff, ↓reduceIte]
  | succ n ih =>
    intro i s k Q hi h1 h3 h4 hK
    refine g.lpe b76_1.eq_1 ?_
    have c1 : (i : Int) < (l.length : Int) := by omega
    obtain ⟨rv, r1, hrv, _, g1⟩ := getRing hv i (by omega)
    have hrl : (l.getD i []).length ≤ 1000 := by rw [getD_ring (by omega)]; exact hl2 _ (List.getElem_mem _)
    have w1 : IntKind.i64.wrap ((i : Int) + 1) = ((i + 1 : Nat) : Int) := by rw [w64 (by omega) (by omega)]; push_cast; rfl
    have hA0 : (acc ++ ((l.take i).map ringB).flatten).length ≤ 10000000 := by
      have := flat_lenT (F := ringB) (B := 8001) (l := l) (fun x hx => ringB_len (hl2 x hx)) i
      rw [List.length_append]; omega
    have hA1 : acc ++ ((l.take i).map ringB).flatten ++ ringB (l.getD i []) = acc ++ ((l.take (i + 1)).map ringB).flatten := by
      rw [getD_ring (by omega), List.append_assoc, flat_take ringB l i (by omega)]
    generalize acc ++ ((l.take i).map ringB).flatten = A at *
    have hlt : A.length + 1 < 140737488355328 := by omega
    simp only [h1, h3, h4, hg, hv.len, c1, g1, hrv.len, R0, R1, R2, R3, R4, R5, R6, R7, R8, R9, VOp.fresh, bxC, bsC, R10, un, most, callsOf, List.contains_nil, List.contains_cons, beq_iff_eq, List.getElem?_cons_zero, List.getElem?_cons_succ, seval, Option.map_none, Int.reducePow, ↓reduceIte, Nat.reduceEqDiff, reduceCtorEq, and_self]
    refine (be1_pu g _).go rfl ?_
    rintro v rfl
    simp only [h1, h3, h4, numB_len, hlt, R0, R1, R2, R3, R4, R5, R6, R7, R8, R9, VOp.fresh, bxC, bsC, R10, un, most, callsOf, List.contains_nil, List.contains_cons, beq_iff_eq, List.getElem?_cons_zero, List.getElem?_cons_succ, seval, Option.map_none, Int.reducePow, ↓reduceIte, Nat.reduceEqDiff, reduceCtorEq, and_self]
    refine pts_loop g hrv g1 hh hg (A ++ numB (l.getD i []).length 1) (by rw [List.length_append, numB_len]; omega) (l.getD i []).length 0 _ _ _ (by omega) ?_ ?_ ?_ ?_ ?_
    · simp only [h1, sg_set, Nat.reduceEqDiff, ↓reduceIte]
    · simp only [h3, sg_set, Nat.reduceEqDiff, ↓reduceIte]
      simp
    · simp only [h4, sg_set, Nat.reduceEqDiff, ↓reduceIte]
    · simp only [sg_set, Nat.reduceEqDiff, ↓reduceIte]
      rfl
    · intro s' h1 h3 h4
      simp only [h1, h3, h4, w1, R0, R1, R2, R3, R4, R5, R6, R7, R8, R9, VOp.fresh, bxC, bsC, R10, un, most, callsOf, List.contains_nil, List.contains_cons, beq_iff_eq, List.getElem?_cons_zero, List.getElem?_cons_succ, seval, Option.map_none, Int.reducePow, ↓reduceIte, Nat.reduceEqDiff, reduceCtorEq, and_self]
      refine ih (i + 1) _ k Q (by omega) ?_ ?_ ?_ hK
      · simp only [h1, sg_set, Nat.reduceEqDiff, ↓reduceIte]
      · simp only [h3, sg_set, Nat.reduceEqDiff, ↓reduceIte]
        rw [← hA1, ringB, List.append_assoc]
      · simp only [sg_set, Nat.reduceEqDiff, ↓reduceIte]
def featSmall (f : Feat) : Prop := f.rings.length ≤ 1000 ∧ ∀ r ∈ f.rings, r.length ≤ 1000
theorem featB_len {f : Feat} (h : featSmall f) : (featB f).length ≤ 9000000 := by
  have h1 := h.1
  have := flatB_len (F := ringB) (B := 8001) (l := f.rings) (fun x hx => ringB_len (h.2 x hx))
  rw [featB, List.length_append, List.length_append, List.length_append, numB_len, numB_len, numB_len]; omega
theorem mpB_len {m : Mp} (h : m.starts.length ≤ 1000) (h' : m.owners.length ≤ 1000) : (mpB m).length ≤ 6000 := by
  have h1 := flatB_len (F := (numB · 4)) (B := 4) (l := m.starts) (fun x _ => by simp only [numB_len]; omega)
  have h2 := flatB_len (F := (numB · 1)) (B := 1) (l := m.owners) (fun x _ => by simp only [numB_len]; omega)
  rw [mpB, List.length_append, List.length_append, List.length_append, numB_len, numB_len]; omega
theorem putFeat_pu (g : Pg P tab) {f : Feat} {v : AV} (hv : IsL 24 RRing v f.rings) (hs : featSmall f) : Pu P 76 [.agg [.int .i64 f.id, .int .i64 f.shape, v]] (fun v => v = .str (featB f)) := by
  refine g.pu (vf := v76) rfl rfl ?_
  simp +contextual (maxSteps := 2000000) only [v76, R0, R1, R2, R3, R4, R5, R6, R7, R8, R9, VOp.fresh, bxC, bsC, R10, un, most, callsOf, List.contains_nil, List.contains_cons, beq_iff_eq, List.getElem?_cons_zero, List.getElem?_cons_succ, seval, Option.map_none, Int.reducePow, ↓reduceIte, Nat.reduceEqDiff, reduceCtorEq, and_self]
  refine EvD.same (fun _ => cBe) (by rfl) ?_
  simp +contextual (maxSteps := 2000000) only [cBe_eq, be1 g, be2 g, List.length_append, numB_len, hv.len, (show Int.toNat 1 = 1 from rfl), (show Int.toNat 2 = 2 from rfl), R0, R1, R2, R3, R4, R5, R6, R7, R8, R9, VOp.fresh, bxC, bsC, R10, un, most, callsOf, List.contains_nil, List.contains_cons, beq_iff_eq, List.getElem?_cons_zero, List.getElem?_cons_succ, seval, Option.map_none, Int.reducePow, ↓reduceIte, Nat.reduceEqDiff, reduceCtorEq, and_self]
  refine rings_loop g hv hs.1 hs.2 _ (a := f.id) (b := f.shape) (e := 52) (ver := 0) ?_ (numB f.id 2 ++ numB f.shape 1 ++ numB f.rings.length 1) ?_ f.rings.length 0 _ _ _ (by omega) ?_ ?_ ?_ ?_
  · rw [Heap.get_mk, if_pos rfl]
  · rw [List.length_append, List.length_append, numB_len, numB_len, numB_len]; omega
  · simp only [sg_set, Nat.reduceEqDiff, ↓reduceIte]
  · simp only [sg_set, Nat.reduceEqDiff, ↓reduceIte]
    simp
  · simp only [sg_set, Nat.reduceEqDiff, ↓reduceIte]
    rfl
  · intro s' h1 h3
    simp +contextual (maxSteps := 2000000) only [h1, h3, R0, R1, R2, R3, R4, R5, R6, R7, R8, R9, VOp.fresh, bxC, bsC, R10, un, most, callsOf, List.contains_nil, List.contains_cons, beq_iff_eq, List.getElem?_cons_zero, List.getElem?_cons_succ, seval, Option.map_none, Int.reducePow, ↓reduceIte, Nat.reduceEqDiff, reduceCtorEq, and_self]
    simp [featB]
end
def opSmall (o : Op) : Prop := featSmall o.f ∧ o.m.starts.length ≤ 1000 ∧ o.m.owners.length ≤ 1000
theorem featOk_small {f : Feat} (h : featOk f) : featSmall f := by
  obtain ⟨_, _, h1, h2, h3⟩ := h
  refine ⟨by omega, fun r hr => ?_⟩
  obtain ⟨i, hi, rfl⟩ := List.mem_iff_getElem.1 hr
  rw [← getD_ring hi]
  rcases h3 with ⟨_, a, b, _⟩ | ⟨_, a, _, b, _⟩ | ⟨_, a⟩
  · have : i = 0 := by omega
    subst this; omega
  · have : i = 0 := by omega
    subst this; omega
  · have := (a i hi).2.1
    omega
theorem ftZero_small {f : Feat} (h : ftZero f) : featSmall f := by
  obtain ⟨_, _, h⟩ := h
  exact ⟨by rw [h]; simp, fun r hr => by rw [h] at hr; simp at hr⟩
theorem opOk_small {o : Op} (h : opOk 8 o) : opSmall o := by
  rcases h with ⟨_, h1, _, _, h2, h3⟩ | ⟨_, _, _, h1, _, h2, h3⟩ | ⟨_, h2, _, h1⟩
  · exact ⟨featOk_small h1, by rw [h2]; simp, by rw [h3]; simp⟩
  · exact ⟨ftZero_small h1, by rw [h2]; simp, by rw [h3]; simp⟩
  · obtain ⟨_, _, _, _, _, a, b, _⟩ := h2
    exact ⟨ftZero_small h1, by omega, by omega⟩
theorem opB_len {o : Op} (h : opSmall o) : (opB o).length ≤ 9000001 := by
  have h1 := featB_len h.1
  have h2 := mpB_len h.2.1 h.2.2
  rw [opB, List.length_append, numB_len]
  split
  · omega
  · split
    · rw [numB_len]; omega
    · omega
section
variable {P : Program}
theorem ops_loop (g : Pg P tab) {v : AV} {l : List Op} (hv : IsL 112 ROp v l) (hl : l.length ≤ 1000) (hs : ∀ o ∈ l, opSmall o) (hh : Heap) (acc : List Nat) (hacc : acc.length ≤ 1000) (n : Nat) :
    ∀ (i : Nat) (s : T AV) (k : List Fr) (Q : Ex → T AV → Heap → Prop), i + n = l.length → sg s 0 = v → sg s 3 = .str (acc ++ ((l.take i).map opB).flatten) → sg s 4 = .int .i64 i →
      (∀ s', sg s' 3 = .str (acc ++ (l.map opB).flatten) → Un P k Q (.exit 0) s' hh) → Lp P b55_0 s hh (Un P k Q) := by
  have hb := hv.bound (by decide)
  induction n with
  | zero =>
    intro i s k Q hi h0 h3 h4 hK
    refine g.lpe b55_0.eq_1 ?_
    have c1 : ¬ ((i : Int) < (l.length : Int)) := by omega
    simp only [h0, h3, h4, hv.len, c1, R0, R1, R2, R3, R4, R5, R6, R7, R8, R9, VOp.fresh, bxC, bsC, R10, un, most, callsOf, List.contains_nil, List.contains_cons, beq_iff_eq, List.getElem?_cons_zero, List.getElem?_cons_succ, seval, Option.map_none, Int.reducePow, ↓reduceIte, Nat.reduceEqDiff, reduceCtorEq, and_self]
    refine hK _ ?_
    have : l.take i = l := List.take_of_length_le (by omega)
    rw [this] at h3
    simp only [h3, sg_set, Nat.reduceEqDiff, ↓reduceIte]
  | succ n ih =>
    intro i s k Q hi h0 h3 h4 hK
    refine g.lpe b55_0.eq_1 ?_
    have c1 : (i : Int) < (l.length : Int) := by omega
    obtain ⟨c, r, hc, tc, tr, g1⟩ := getOp hv i (by omega)
    have hos : opSmall (l.getD i op0) := by rw [getD_op (by omega)]; exact hs _ (List.getElem_mem _)
    have w1 : IntKind.i64.wrap ((i : Int) + 1) = ((i + 1 : Nat) : Int) := by rw [w64 (by omega) (by omega)]; push_cast; rfl
    have hA0 : (acc ++ ((l.take i).map opB).flatten).length ≤ 10000000000 := by
      have := flat_lenT (F := opB) (B := 9000001) (l := l) (fun x hx => opB_len (hs x hx)) i
      rw [List.length_append]; omega
    have hA1 : acc ++ ((l.take i).map opB).flatten ++ opB (l.getD i op0) = acc ++ ((l.take (i + 1)).map opB).flatten := by
      rw [getD_op (by omega), List.append_assoc, flat_take opB l i (by omega)]
    generalize acc ++ ((l.take i).map opB).flatten = A at *
    generalize l.getD i op0 = o at *
    have hlt : A.length + 1 < 140737488355328 := by omega
    have hlt2 : A.length + 1 + 2 < 140737488355328 := by omega
    have hlf : A.length + 1 + (featB o.f).length < 140737488355328 := by have := featB_len hos.1; omega
    have hlm : A.length + 1 + (mpB o.m).length < 140737488355328 := by have := mpB_len hos.2.1 hos.2.2; omega
    obtain ⟨fv, sv, uv, rfl, _, _, _, hfv, _, _, hsv, huv⟩ := hc
    simp only [h0, h3, h4, hv.len, c1, g1, List.cons_append, List.nil_append, R0, R1, R2, R3, R4, R5, R6, R7, R8, R9, VOp.fresh, bxC, bsC, R10, un, most, callsOf, List.contains_nil, List.contains_cons, beq_iff_eq, List.getElem?_cons_zero, List.getElem?_cons_succ, seval, Option.map_none, Int.reducePow, ↓reduceIte, Nat.reduceEqDiff, reduceCtorEq, and_self]
    refine (be1_pu g _).go rfl ?_
    rintro v rfl
    have next : ∀ s', sg s' 0 = v → sg s' 3 = .str (A ++ opB o) → sg s' 4 = .int .i64 ((i + 1 : Nat) : Int) → Lp P b55_0 s' hh (Un P k Q) := by
      intro s' a1 a2 a3
      exact ih (i + 1) s' k Q (by omega) a1 (by rw [a2, hA1]) a3 hK
    by_cases e0 : o.kind = 0
    · simp only [h0, h3, h4, numB_len, hlt, g1, List.cons_append, List.nil_append, e0, R0, R1, R2, R3, R4, R5, R6, R7, R8, R9, VOp.fresh, bxC, bsC, R10, un, most, callsOf, List.contains_nil, List.contains_cons, beq_iff_eq, List.getElem?_cons_zero, List.getElem?_cons_succ, seval, Option.map_none, Int.reducePow, ↓reduceIte, Nat.reduceEqDiff, reduceCtorEq, and_self]
      refine (putFeat_pu g hfv hos.1).go (by simp [AV.tolds, AV.told, hfv.told tRing]) ?_
      rintro v rfl
      simp only [h0, h3, h4, List.length_append, numB_len, hlf, w1, R0, R1, R2, R3, R4, R5, R6, R7, R8, R9, VOp.fresh, bxC, bsC, R10, un, most, callsOf, List.contains_nil, List.contains_cons, beq_iff_eq, List.getElem?_cons_zero, List.getElem?_cons_succ, seval, Option.map_none, Int.reducePow, ↓reduceIte, Nat.reduceEqDiff, reduceCtorEq, and_self]
      refine next _ ?_ ?_ ?_
      · simp only [h0, sg_set, Nat.reduceEqDiff, ↓reduceIte]
      · simp only [sg_set, Nat.reduceEqDiff, ↓reduceIte]
        rw [opB, e0, if_pos rfl, List.append_assoc]
      · simp only [sg_set, Nat.reduceEqDiff, ↓reduceIte]
    · by_cases e1 : o.kind = 1
      · simp only [h0, h3, h4, numB_len, hlt, g1, List.cons_append, List.nil_append, e1, R0, R1, R2, R3, R4, R5, R6, R7, R8, R9, VOp.fresh, bxC, bsC, R10, un, most, callsOf, List.contains_nil, List.contains_cons, beq_iff_eq, List.getElem?_cons_zero, List.getElem?_cons_succ, seval, Option.map_none, Int.reducePow, ↓reduceIte, Nat.reduceEqDiff, reduceCtorEq, and_self]
        refine (be2_pu g _).go rfl ?_
        rintro v rfl
        simp only [h0, h3, h4, List.length_append, numB_len, hlt2, w1, R0, R1, R2, R3, R4, R5, R6, R7, R8, R9, VOp.fresh, bxC, bsC, R10, un, most, callsOf, List.contains_nil, List.contains_cons, beq_iff_eq, List.getElem?_cons_zero, List.getElem?_cons_succ, seval, Option.map_none, Int.reducePow, ↓reduceIte, Nat.reduceEqDiff, reduceCtorEq, and_self]
        refine next _ ?_ ?_ ?_
        · simp only [h0, sg_set, Nat.reduceEqDiff, ↓reduceIte]
        · simp only [sg_set, Nat.reduceEqDiff, ↓reduceIte]
          rw [opB, e1, if_neg (by decide), if_pos rfl, List.append_assoc]
        · simp only [sg_set, Nat.reduceEqDiff, ↓reduceIte]
      · simp only [h0, h3, h4, numB_len, hlt, g1, List.cons_append, List.nil_append, e0, e1, R0, R1, R2, R3, R4, R5, R6, R7, R8, R9, VOp.fresh, bxC, bsC, R10, un, most, callsOf, List.contains_nil, List.contains_cons, beq_iff_eq, List.getElem?_cons_zero, List.getElem?_cons_succ, seval, Option.map_none, Int.reducePow, ↓reduceIte, Nat.reduceEqDiff, reduceCtorEq, and_self]
        refine (putMap_pu g hsv huv hos.2.1 hos.2.2).go (by simp [AV.tolds, AV.told, hsv.told tInt, huv.told tInt]) ?_
        rintro v rfl
        simp only [h0, h3, h4, List.length_append, numB_len, hlm, w1, R0, R1, R2, R3, R4, R5, R6, R7, R8, R9, VOp.fresh, bxC, bsC, R10, un, most, callsOf, List.contains_nil, List.contains_cons, beq_iff_eq, List.getElem?_cons_zero, List.getElem?_cons_succ, seval, Option.map_none, Int.reducePow, ↓reduceIte, Nat.reduceEqDiff, reduceCtorEq, and_self]
        refine next _ ?_ ?_ ?_
        · simp only [h0, sg_set, Nat.reduceEqDiff, ↓reduceIte]
        · simp only [sg_set, Nat.reduceEqDiff, ↓reduceIte]
          rw [opB, if_neg e0, if_neg e1, List.append_assoc]
        · simp only [sg_set, Nat.reduceEqDiff, ↓reduceIte]
theorem putOps_pu (g : Pg P tab) {v : AV} {l : List Op} (hv : IsL 112 ROp v l) (hl : l.length ≤ 1000) (hs : ∀ o ∈ l, opSmall o) : Pu P 55 [v] (fun x => x = .str (opsB l)) := by
  refine g.pu (vf := v55) rfl rfl ?_
  simp only [v55, hv.len, R0, R1, R2, R3, R4, R5, R6, R7, R8, R9, VOp.fresh, bxC, bsC, R10, un, most, callsOf, List.contains_nil, List.contains_cons, beq_iff_eq, List.getElem?_cons_zero, List.getElem?_cons_succ, seval, Option.map_none, Int.reducePow, ↓reduceIte, Nat.reduceEqDiff, reduceCtorEq, and_self]
  refine (be1_pu g _).go rfl ?_
  rintro x rfl
  simp only [R0, R1, R2, R3, R4, R5, R6, R7, R8, R9, VOp.fresh, bxC, bsC, R10, un, most, callsOf, List.contains_nil, List.contains_cons, beq_iff_eq, List.getElem?_cons_zero, List.getElem?_cons_succ, seval, Option.map_none, Int.reducePow, ↓reduceIte, Nat.reduceEqDiff, reduceCtorEq, and_self]
  refine ops_loop g hv hl hs _ (numB l.length 1) (by rw [numB_len]; omega) l.length 0 _ _ _ (by omega) ?_ ?_ ?_ ?_
  · simp only [sg_set, Nat.reduceEqDiff, ↓reduceIte]
  · simp only [sg_set, Nat.reduceEqDiff, ↓reduceIte]
    simp
  · simp only [sg_set, Nat.reduceEqDiff, ↓reduceIte]
    rfl
  · intro s' h3
    simp only [h3, R0, R1, R2, R3, R4, R5, R6, R7, R8, R9, VOp.fresh, bxC, bsC, R10, un, most, callsOf, List.contains_nil, List.contains_cons, beq_iff_eq, List.getElem?_cons_zero, List.getElem?_cons_succ, seval, Option.map_none, Int.reducePow, ↓reduceIte, Nat.reduceEqDiff, reduceCtorEq, and_self]
    rfl
end
end Go.Proofs.Ytinonmcnofjeeaa.VM
