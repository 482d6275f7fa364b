/- The program's writer of operations; what it makes of a record. -/
import Derived.Test.YtinonmcnofjeeaaL11PutB
namespace Go.Proofs.Ytinonmcnofjeeaa.VM
set_option linter.unusedSimpArgs false
set_option linter.unusedVariables false
set_option linter.defProp false
set_option maxHeartbeats 1000000
attribute [local irreducible] Af Nx EvO Ev Un Gd Cd EvR EvQ EvC Nc Gc Lp
section
variable {P : Program}
theorem wopsl (g : Pg P tab) {l : List Op} {a : AV} (ha : IsL 112 ROp a l) (hl : l.length ≤ 1000) (hs : ∀ o ∈ l, opSmall o) {K : List (Nat × Blk)} {b : Nat} (acc : List Nat) (hacc : acc.length ≤ 10000) (n : Nat) :
    ∀ (i : Nat) (s : T AV) (h : Heap) (k : List Fr) (Q : Ex → T AV → Heap → Prop), i + n = l.length → WR K h b (acc ++ ((l.take i).map opB).flatten) → sg s 0 = .ptr b 0 → sg s 2 = a → sg s 17 = .int .i64 l.length → sg s 18 = .int .i64 i →
      (∀ s' h', WR K h' b (acc ++ (l.map opB).flatten) → Un P k Q (.exit 0) s' h') → Lp P b49_0 s h (Un P k Q) := by
  have hb := ha.bound (by decide)
  induction n with
  | zero =>
    intro i s h k Q hi w h0 h2 h17 h18 hK
    refine g.lpe b49_0.eq_1 ?_
    have c1 : ¬ ((i : Int) < (l.length : Int)) := by omega
    simp only [h0, h2, h17, h18, c1, R0, R1, R2, R3, R4, R5, R6, R7, bxC, bsC, AV.cells, un, most, callsOf, List.contains_nil, List.contains_cons, beq_iff_eq, List.getElem?_cons_zero, List.getElem?_cons_succ, seval, Int.reducePow, ↓reduceIte, Nat.reduceEqDiff, reduceCtorEq, and_self]
    have : l.take i = l := List.take_of_length_le (by omega)
    rw [this] at w
    exact hK _ _ w
  | succ n ih =>
    intro i s h k Q hi w h0 h2 h17 h18 hK
    refine g.lpe b49_0.eq_1 ?_
    have c1 : (i : Int) < (l.length : Int) := by omega
    obtain ⟨c, r, hc, tc, tr, g1⟩ := getOp ha i (by omega)
    have hos : opSmall (l.getD i op0) := by rw [getD_op (by omega)]; exact hs _ (List.getElem_mem _)
    have w1 : IntKind.i64.wrap ((i : Int) + 1) = ((i + 1 : Nat) : Int) := by rw [w64 (by omega) (by omega)]; push_cast; rfl
    have hA0 : (acc ++ ((l.take i).map opB).flatten).length ≤ 10000000000 := by
      have := flat_lenT (F := opB) (B := 9000001) (l := l) (fun x hx => opB_len (hs x hx)) i
      rw [List.length_append]; omega
    have hA1 : acc ++ ((l.take i).map opB).flatten ++ opB (l.getD i op0) = acc ++ ((l.take (i + 1)).map opB).flatten := by
      rw [getD_op (by omega), List.append_assoc, flat_take opB l i (by omega)]
    generalize acc ++ ((l.take i).map opB).flatten = A at *
    generalize l.getD i op0 = o at *
    obtain ⟨fv, sv, uv, rfl, _, _, _, hfv, _, _, hsv, huv⟩ := hc
    simp only [h0, h2, h17, h18, c1, g1, List.cons_append, List.nil_append, R0, R1, R2, R3, R4, R5, R6, R7, bxC, bsC, AV.cells, un, most, callsOf, List.contains_nil, List.contains_cons, beq_iff_eq, List.getElem?_cons_zero, List.getElem?_cons_succ, seval, Int.reducePow, ↓reduceIte, Nat.reduceEqDiff, reduceCtorEq, and_self]
    refine wnum (n := 1) g (num1_pu g _) (by decide) w (by omega) fun _ h1 w2 => ?_
    have next : ∀ s' h', WR K h' b (A ++ opB o) → sg s' 0 = .ptr b 0 → sg s' 2 = a → sg s' 17 = .int .i64 l.length → sg s' 18 = .int .i64 ((i + 1 : Nat) : Int) → Lp P b49_0 s' h' (Un P k Q) := by
      intro s' h' w' a1 a2 a3 a4
      exact ih (i + 1) s' h' k Q (by omega) (by rw [← hA1]; exact w') a1 a2 a3 a4 hK
    by_cases e0 : o.kind = 0
    · simp only [h0, h2, h17, h18, e0, R0, R1, R2, R3, R4, R5, R6, R7, bxC, bsC, AV.cells, un, most, callsOf, List.contains_nil, List.contains_cons, beq_iff_eq, List.getElem?_cons_zero, List.getElem?_cons_succ, seval, Int.reducePow, ↓reduceIte, Nat.reduceEqDiff, reduceCtorEq, and_self]
      refine wfeat g hfv hos.1 w2 (by rw [List.length_append, numB_len]; omega) fun _ h3 w3 => ?_
      simp only [h0, h2, h17, h18, w1, R0, R1, R2, R3, R4, R5, R6, R7, bxC, bsC, AV.cells, un, most, callsOf, List.contains_nil, List.contains_cons, beq_iff_eq, List.getElem?_cons_zero, List.getElem?_cons_succ, seval, Int.reducePow, ↓reduceIte, Nat.reduceEqDiff, reduceCtorEq, and_self]
      refine next _ _ ?_ ?_ ?_ ?_ ?_
      · rw [opB, e0, if_pos rfl, ← List.append_assoc, ← e0]; exact w3
      · simp only [h0, sg_set, Nat.reduceEqDiff, ↓reduceIte]
      · simp only [h2, sg_set, Nat.reduceEqDiff, ↓reduceIte]
      · simp only [h17, sg_set, Nat.reduceEqDiff, ↓reduceIte]
      · simp only [sg_set, Nat.reduceEqDiff, ↓reduceIte]
    · by_cases e1 : o.kind = 1
      · simp only [h0, h2, h17, h18, e1, R0, R1, R2, R3, R4, R5, R6, R7, bxC, bsC, AV.cells, un, most, callsOf, List.contains_nil, List.contains_cons, beq_iff_eq, List.getElem?_cons_zero, List.getElem?_cons_succ, seval, Int.reducePow, ↓reduceIte, Nat.reduceEqDiff, reduceCtorEq, and_self]
        refine wnum (n := 2) g (num2_pu g _) (by decide) w2 (by rw [List.length_append, numB_len]; omega) fun _ h3 w3 => ?_
        simp only [h0, h2, h17, h18, w1, R0, R1, R2, R3, R4, R5, R6, R7, bxC, bsC, AV.cells, un, most, callsOf, List.contains_nil, List.contains_cons, beq_iff_eq, List.getElem?_cons_zero, List.getElem?_cons_succ, seval, Int.reducePow, ↓reduceIte, Nat.reduceEqDiff, reduceCtorEq, and_self]
        refine next _ _ ?_ ?_ ?_ ?_ ?_
        · rw [opB, if_neg e0, if_pos e1, ← List.append_assoc]; exact w3
        · simp only [h0, sg_set, Nat.reduceEqDiff, ↓reduceIte]
        · simp only [h2, sg_set, Nat.reduceEqDiff, ↓reduceIte]
        · simp only [h17, sg_set, Nat.reduceEqDiff, ↓reduceIte]
        · simp only [sg_set, Nat.reduceEqDiff, ↓reduceIte]
      · simp only [h0, h2, h17, h18, e0, e1, R0, R1, R2, R3, R4, R5, R6, R7, bxC, bsC, AV.cells, un, most, callsOf, List.contains_nil, List.contains_cons, beq_iff_eq, List.getElem?_cons_zero, List.getElem?_cons_succ, seval, Int.reducePow, ↓reduceIte, Nat.reduceEqDiff, reduceCtorEq, and_self]
        refine wmap g hsv huv hos.2.1 hos.2.2 (.inl ⟨_, rfl⟩) w2 (by rw [List.length_append, numB_len]; omega) fun _ h3 w3 => ?_
        simp only [h0, h2, h17, h18, w1, R0, R1, R2, R3, R4, R5, R6, R7, bxC, bsC, AV.cells, un, most, callsOf, List.contains_nil, List.contains_cons, beq_iff_eq, List.getElem?_cons_zero, List.getElem?_cons_succ, seval, Int.reducePow, ↓reduceIte, Nat.reduceEqDiff, reduceCtorEq, and_self]
        refine next _ _ ?_ ?_ ?_ ?_ ?_
        · rw [opB, if_neg e0, if_neg e1, ← List.append_assoc]; exact w3
        · simp only [h0, sg_set, Nat.reduceEqDiff, ↓reduceIte]
        · simp only [h2, sg_set, Nat.reduceEqDiff, ↓reduceIte]
        · simp only [h17, sg_set, Nat.reduceEqDiff, ↓reduceIte]
        · simp only [sg_set, Nat.reduceEqDiff, ↓reduceIte]
theorem wops (g : Pg P tab) {l : List Op} {a : AV} (ha : IsL 112 ROp a l) (hl : l.length ≤ 1000) (hs : ∀ o ∈ l, opSmall o) {base : Int} (hb1 : -100000 ≤ base) (hb2 : base ≤ 100000) {K : List (Nat × Blk)} {h : Heap} {b : Nat} {s : List Nat} (w : WR K h b s)
    (hsl : s.length ≤ 1000) {Q : AV → Heap → Prop} (q : ∀ v h', WR K h' b (s ++ (numB (base + 1) 4 ++ opsB l)) → Q v h') : Cl P 49 [.ptr b 0, .int .i64 base, a] h Q := by
  refine g.cl (vf := v49) rfl rfl ?_
  have w0 : IntKind.i64.wrap (base + 1) = base + 1 := w64 (by omega) (by omega)
  simp only [v49, w0, R0, R1, R2, R3, R4, R5, R6, R7, bxC, bsC, AV.cells, un, most, callsOf, List.contains_nil, List.contains_cons, beq_iff_eq, List.getElem?_cons_zero, List.getElem?_cons_succ, seval, Int.reducePow, ↓reduceIte, Nat.reduceEqDiff, reduceCtorEq, and_self]
  refine wnum (n := 4) g (num4_pu g _) (by decide) w (by omega) fun _ h1 w1 => ?_
  simp only [ha.len, R0, R1, R2, R3, R4, R5, R6, R7, bxC, bsC, AV.cells, un, most, callsOf, List.contains_nil, List.contains_cons, beq_iff_eq, List.getElem?_cons_zero, List.getElem?_cons_succ, seval, Int.reducePow, ↓reduceIte, Nat.reduceEqDiff, reduceCtorEq, and_self]
  refine wnum (n := 1) g (num1_pu g _) (by decide) w1 (by rw [List.length_append, numB_len]; omega) fun _ h2 w2 => ?_
  simp only [ha.len, R0, R1, R2, R3, R4, R5, R6, R7, bxC, bsC, AV.cells, un, most, callsOf, List.contains_nil, List.contains_cons, beq_iff_eq, List.getElem?_cons_zero, List.getElem?_cons_succ, seval, Int.reducePow, ↓reduceIte, Nat.reduceEqDiff, reduceCtorEq, and_self]
  refine wopsl g ha hl hs (s ++ numB (base + 1) 4 ++ numB l.length 1) ?_ l.length 0 _ _ _ _ (by omega) (by simpa using w2) ?_ ?_ ?_ ?_ ?_
  · simp only [List.length_append, numB_len]; omega
  · simp only [sg_set, Nat.reduceEqDiff, ↓reduceIte]
  · simp only [sg_set, Nat.reduceEqDiff, ↓reduceIte]
  · simp only [sg_set, Nat.reduceEqDiff, ↓reduceIte]
  · simp only [sg_set, Nat.reduceEqDiff, ↓reduceIte]
    rfl
  · intro s' h4 w4
    simp only [R0, R1, R2, R3, R4, R5, R6, R7, bxC, bsC, AV.cells, un, most, callsOf, List.contains_nil, List.contains_cons, beq_iff_eq, List.getElem?_cons_zero, List.getElem?_cons_succ, seval, Int.reducePow, ↓reduceIte, Nat.reduceEqDiff, reduceCtorEq, and_self]
    refine q _ _ ?_
    simpa only [opsB, List.append_assoc] using w4
/-! bytes -/
def By (l : List Nat) : Prop := ∀ n ∈ l, n < 256
theorem By.app {l k : List Nat} (a : By l) (b : By k) : By (l ++ k) := fun n h => (List.mem_append.1 h).elim (a n) (b n)
theorem By.nil : By [] := fun n h => by simp at h
theorem By.flat {α : Type} {F : α → List Nat} {l : List α} (h : ∀ x, By (F x)) : By (l.map F).flatten := by
  intro n hn
  obtain ⟨x, hx, hn⟩ := List.mem_flatten.1 hn
  obtain ⟨a, _, rfl⟩ := List.mem_map.1 hx
  exact h a n hn
theorem By.num (x : Int) : ∀ n, By (numB x n)
  | 0 => By.nil
  | n + 1 => by
    intro k hk
    rw [numB] at hk
    rcases List.mem_cons.1 hk with rfl | hk
    · have h1 := Int.emod_lt_of_pos (x / (256 ^ n : Nat)) (show (0 : Int) < 256 by decide)
      have h2 := Int.emod_nonneg (x / (256 ^ n : Nat)) (show (256 : Int) ≠ 0 by decide)
      omega
    · exact By.num x n k hk
theorem By.mp (m : Mp) : By (mpB m) := (By.num _ _).app ((By.num _ _).app ((By.flat fun x => By.num x 4).app (By.flat fun x => By.num x 1)))
theorem By.pt (p : Pt) : By (ptB p) := (By.num _ _).app (By.num _ _)
theorem By.ring (p : List Pt) : By (ringB p) := (By.num _ _).app (By.flat By.pt)
theorem By.feat (f : Feat) : By (featB f) := (By.num _ _).app ((By.num _ _).app ((By.num _ _).app (By.flat By.ring)))
theorem By.op (o : Op) : By (opB o) := (By.num _ _).app (by split; exact By.feat _; split; exact By.num _ _; exact By.mp _)
theorem By.ops (l : List Op) : By (opsB l) := (By.num _ _).app (By.flat By.op)
theorem By.rec (r : Rc) : By (recB r) := (By.num _ _).app (by
  split
  · exact By.mp _
  · refine By.app ((By.num _ _).app (By.num _ _)) ?_
    split
    · exact (By.num _ _).app (By.ops _)
    · split
      · exact By.num _ _
      · exact By.nil)
theorem mb_bytes : ∀ {l : List Nat}, By l → (l.map byteV).mapM AV.byte = some l
  | [], _ => rfl
  | n :: l, h => by
    have h1 : n < 256 := h n (by simp)
    have h2 : AV.byte (byteV n) = some n := by
      simp only [byteV, AV.byte]
      rw [if_pos ⟨by omega, by omega⟩]
      rfl
    rw [List.map_cons, List.mapM_cons, h2, mb_bytes fun k hk => h k (List.mem_cons_of_mem _ hk)]
    rfl
theorem recB_ne (r : Rc) : recB r ≠ [] := by rw [recB, numB]; simp
/-- what is written of a record -/
def putAns (r : Rc) : AV := if (recB r).length ≤ 8192 then .tup [.str (recB r), .int .i64 0] else .tup [.str [], .int .i64 1100]
theorem put_good (g : Pg P tab) {r : Rc} {c : List AV} (hc : RRc r c) (ok : recOk r) : Pu P 15 [.agg c] (fun v => v = putAns r) := by
  refine g.pu (vf := v15) rfl rfl ?_
  have hm := recMay_pu g hc (t := []) rfl
  rw [List.append_nil] at hm
  simp only [v15, R0, R1, R2, R3, R4, R5, R6, R7, bxC, bsC, AV.cells, un, most, callsOf, List.contains_nil, List.contains_cons, beq_iff_eq, List.getElem?_cons_zero, List.getElem?_cons_succ, seval, Int.reducePow, ↓reduceIte, Nat.reduceEqDiff, reduceCtorEq, and_self]
  have hf : Fzs true (({ next := 0, t := T.e } : Heap).mk' 0 (.cells c 29 0)) [.ptr 0 0] [.rp c] := by
    obtain ⟨a, u, w, rfl, ha, hu, hw⟩ := hc
    refine .cons (.ptr (by rw [Heap.get_mk, if_pos rfl]) (Fzs.refl ?_)) .nil
    simp [AV.tolds, AV.told, ha.told tInt, hu.told tInt, hw.told tOp]
  refine hm.cl hf ?_
  rintro x ⟨b, rfl, hb⟩
  cases b
  · exact absurd (hb.2 ok) (by simp)
  obtain ⟨a, u, w, rfl, ha, hu, hw⟩ := hc
  simp only [R0, R1, R2, R3, R4, R5, R6, R7, bxC, bsC, AV.cells, un, most, callsOf, List.contains_nil, List.contains_cons, beq_iff_eq, List.getElem?_cons_zero, List.getElem?_cons_succ, seval, Int.reducePow, ↓reduceIte, Nat.reduceEqDiff, reduceCtorEq, and_self]
  have w0 : WR [(0, .cells [.int .i64 r.kind, .int .i64 r.node, .int .i64 r.seq, .int .i64 r.base, .bool r.commit, .int .i64 r.m.epoch, a, u, w] 29 0)]
      ((({ next := 0, t := T.e } : Heap).mk' 0 (.cells [.int .i64 r.kind, .int .i64 r.node, .int .i64 r.seq, .int .i64 r.base, .bool r.commit, .int .i64 r.m.epoch, a, u, w] 29 0)).mk' 1 (.cells [.nils] 103 0)) 1 [] := by
    refine ⟨show (1 : Nat) < 2 by decide, ⟨.nils, 103, 0, by rw [Heap.get_mk, if_pos rfl], .inl ⟨rfl, rfl⟩⟩, ?_⟩
    intro p hp
    rw [List.mem_singleton] at hp
    subst hp
    exact ⟨show (0 : Nat) < 2 by decide, show (0 : Nat) ≠ 1 by decide, by rw [Heap.get_mk, if_neg (show ¬ (0 : Nat) = 1 by decide), Heap.get_mk, if_pos rfl]⟩
  generalize hK : [((0 : Nat), Blk.cells [.int .i64 r.kind, .int .i64 r.node, .int .i64 r.seq, .int .i64 r.base, .bool r.commit, .int .i64 r.m.epoch, a, u, w] 29 0)] = K at w0
  have hm0 : ((0, .cells [.int .i64 r.kind, .int .i64 r.node, .int .i64 r.seq, .int .i64 r.base, .bool r.commit, .int .i64 r.m.epoch, a, u, w] 29 0) : Nat × Blk) ∈ K := by rw [← hK]; exact List.mem_cons_self
  refine wnum (n := 1) g (num1_pu g _) (by decide) w0 (by simp) fun _ h1 w1 => ?_
  have k1 := (w1.keep _ hm0).2.2
  simp only [List.nil_append] at k1 w1
  rcases id ok with ⟨ek, hmp, _⟩ | ⟨ek, htx, hb1, hb2, hops, _⟩ | ⟨ek, htx, _⟩ | ⟨ek, htx, _⟩
  · obtain ⟨_, _, _, _, _, m1, m2, _⟩ := hmp
    have er : recB r = numB r.kind 1 ++ mpB r.m := by rw [recB, if_pos ek]
    simp only [k1, ek, R0, R1, R2, R3, R4, R5, R6, R7, bxC, bsC, AV.cells, un, most, callsOf, List.contains_nil, List.contains_cons, beq_iff_eq, List.getElem?_cons_zero, List.getElem?_cons_succ, seval, Int.reducePow, ↓reduceIte, Nat.reduceEqDiff, reduceCtorEq, and_self]
    refine wmap g ha hu (by omega) (by omega) (.inr ⟨_, _, _, _, _, _, _, _, rfl, hm0⟩) w1 (by rw [numB_len]; omega) fun _ h2 w2 => ?_
    rw [← er] at w2
    have k2 := (w2.keep _ hm0).2.2
    simp only at k2
    simp only [k2, ek, R0, R1, R2, R3, R4, R5, R6, R7, bxC, bsC, AV.cells, un, most, callsOf, List.contains_nil, List.contains_cons, beq_iff_eq, List.getElem?_cons_zero, List.getElem?_cons_succ, seval, Int.reducePow, ↓reduceIte, Nat.reduceEqDiff, reduceCtorEq, and_self]
    obtain ⟨v, e, ver, hb1, ho⟩ := w2.out
    rcases ho with ⟨_, hnil⟩ | ⟨c, e', ver', rfl, _, _, _, hc6⟩
    · exact absurd hnil (recB_ne _)
    · by_cases hlen : (recB r).length ≤ 8192
      · have c8 : ¬ (8192 : Int) < ((recB r).length : Int) := by omega
        simp only [hb1, c8, R0, R1, R2, R3, R4, R5, R6, R7, bxC, bsC, AV.cells, un, most, callsOf, List.contains_nil, List.contains_cons, beq_iff_eq, List.getElem?_cons_zero, List.getElem?_cons_succ, seval, Int.reducePow, ↓reduceIte, Nat.reduceEqDiff, reduceCtorEq, and_self]
        rw [cvT_sl hc6 (List.length_map _), mb_bytes (By.rec r)]
        simp only [R0, R1, R2, R3, R4, R5, R6, R7, bxC, bsC, AV.cells, un, most, callsOf, List.contains_nil, List.contains_cons, beq_iff_eq, List.getElem?_cons_zero, List.getElem?_cons_succ, seval, Int.reducePow, ↓reduceIte, Nat.reduceEqDiff, reduceCtorEq, and_self]
        rw [putAns, if_pos hlen]
      · have c8 : (8192 : Int) < ((recB r).length : Int) := by omega
        simp only [hb1, c8, R0, R1, R2, R3, R4, R5, R6, R7, bxC, bsC, AV.cells, un, most, callsOf, List.contains_nil, List.contains_cons, beq_iff_eq, List.getElem?_cons_zero, List.getElem?_cons_succ, seval, Int.reducePow, ↓reduceIte, Nat.reduceEqDiff, reduceCtorEq, and_self]
        rw [putAns, if_neg hlen]
  · have e0 : ¬ r.kind = 0 := by omega
    have er : recB r = numB r.kind 1 ++ txB r.node r.seq ++ (numB (r.base + 1) 4 ++ opsB r.ops) := by rw [recB, if_neg e0, if_pos ek, List.append_assoc]
    simp only [k1, e0, R0, R1, R2, R3, R4, R5, R6, R7, bxC, bsC, AV.cells, un, most, callsOf, List.contains_nil, List.contains_cons, beq_iff_eq, List.getElem?_cons_zero, List.getElem?_cons_succ, seval, Int.reducePow, ↓reduceIte, Nat.reduceEqDiff, reduceCtorEq, and_self]
    refine wname g w1 (by rw [numB_len]; omega) fun _ h2 w2 => ?_
    have k2 := (w2.keep _ hm0).2.2
    simp only at k2
    rcases ek with ek | ek
    · simp only [k2, ek, R0, R1, R2, R3, R4, R5, R6, R7, bxC, bsC, AV.cells, un, most, callsOf, List.contains_nil, List.contains_cons, beq_iff_eq, List.getElem?_cons_zero, List.getElem?_cons_succ, seval, Int.reducePow, ↓reduceIte, Nat.reduceEqDiff, reduceCtorEq, and_self]
      refine wops g hw (by have := hops.2.1; omega) ?_ (by omega) (by omega) w2 (by simp [txB, numB_len]) fun _ h3 w3 => ?_
      · intro o ho
        obtain ⟨i, hi, rfl⟩ := List.mem_iff_getElem.1 ho
        rw [← getD_op hi]
        exact opOk_small (hops.2.2 i hi).1
      rw [← er] at w3
      simp only [R0, R1, R2, R3, R4, R5, R6, R7, bxC, bsC, AV.cells, un, most, callsOf, List.contains_nil, List.contains_cons, beq_iff_eq, List.getElem?_cons_zero, List.getElem?_cons_succ, seval, Int.reducePow, ↓reduceIte, Nat.reduceEqDiff, reduceCtorEq, and_self]
      obtain ⟨v, e, ver, hb1, ho⟩ := w3.out
      rcases ho with ⟨_, hnil⟩ | ⟨c, e', ver', rfl, _, _, _, hc6⟩
      · exact absurd hnil (recB_ne _)
      · by_cases hlen : (recB r).length ≤ 8192
        · have c8 : ¬ (8192 : Int) < ((recB r).length : Int) := by omega
          simp only [hb1, c8, R0, R1, R2, R3, R4, R5, R6, R7, bxC, bsC, AV.cells, un, most, callsOf, List.contains_nil, List.contains_cons, beq_iff_eq, List.getElem?_cons_zero, List.getElem?_cons_succ, seval, Int.reducePow, ↓reduceIte, Nat.reduceEqDiff, reduceCtorEq, and_self]
          rw [cvT_sl hc6 (List.length_map _), mb_bytes (By.rec r)]
          simp only [R0, R1, R2, R3, R4, R5, R6, R7, bxC, bsC, AV.cells, un, most, callsOf, List.contains_nil, List.contains_cons, beq_iff_eq, List.getElem?_cons_zero, List.getElem?_cons_succ, seval, Int.reducePow, ↓reduceIte, Nat.reduceEqDiff, reduceCtorEq, and_self]
          rw [putAns, if_pos hlen]
        · have c8 : (8192 : Int) < ((recB r).length : Int) := by omega
          simp only [hb1, c8, R0, R1, R2, R3, R4, R5, R6, R7, bxC, bsC, AV.cells, un, most, callsOf, List.contains_nil, List.contains_cons, beq_iff_eq, List.getElem?_cons_zero, List.getElem?_cons_succ, seval, Int.reducePow, ↓reduceIte, Nat.reduceEqDiff, reduceCtorEq, and_self]
          rw [putAns, if_neg hlen]
    · simp only [k2, ek, R0, R1, R2, R3, R4, R5, R6, R7, bxC, bsC, AV.cells, un, most, callsOf, List.contains_nil, List.contains_cons, beq_iff_eq, List.getElem?_cons_zero, List.getElem?_cons_succ, seval, Int.reducePow, ↓reduceIte, Nat.reduceEqDiff, reduceCtorEq, and_self]
      refine wops g hw (by have := hops.2.1; omega) ?_ (by omega) (by omega) w2 (by simp [txB, numB_len]) fun _ h3 w3 => ?_
      · intro o ho
        obtain ⟨i, hi, rfl⟩ := List.mem_iff_getElem.1 ho
        rw [← getD_op hi]
        exact opOk_small (hops.2.2 i hi).1
      rw [← er] at w3
      simp only [R0, R1, R2, R3, R4, R5, R6, R7, bxC, bsC, AV.cells, un, most, callsOf, List.contains_nil, List.contains_cons, beq_iff_eq, List.getElem?_cons_zero, List.getElem?_cons_succ, seval, Int.reducePow, ↓reduceIte, Nat.reduceEqDiff, reduceCtorEq, and_self]
      obtain ⟨v, e, ver, hb1, ho⟩ := w3.out
      rcases ho with ⟨_, hnil⟩ | ⟨c, e', ver', rfl, _, _, _, hc6⟩
      · exact absurd hnil (recB_ne _)
      · by_cases hlen : (recB r).length ≤ 8192
        · have c8 : ¬ (8192 : Int) < ((recB r).length : Int) := by omega
          simp only [hb1, c8, R0, R1, R2, R3, R4, R5, R6, R7, bxC, bsC, AV.cells, un, most, callsOf, List.contains_nil, List.contains_cons, beq_iff_eq, List.getElem?_cons_zero, List.getElem?_cons_succ, seval, Int.reducePow, ↓reduceIte, Nat.reduceEqDiff, reduceCtorEq, and_self]
          rw [cvT_sl hc6 (List.length_map _), mb_bytes (By.rec r)]
          simp only [R0, R1, R2, R3, R4, R5, R6, R7, bxC, bsC, AV.cells, un, most, callsOf, List.contains_nil, List.contains_cons, beq_iff_eq, List.getElem?_cons_zero, List.getElem?_cons_succ, seval, Int.reducePow, ↓reduceIte, Nat.reduceEqDiff, reduceCtorEq, and_self]
          rw [putAns, if_pos hlen]
        · have c8 : (8192 : Int) < ((recB r).length : Int) := by omega
          simp only [hb1, c8, R0, R1, R2, R3, R4, R5, R6, R7, bxC, bsC, AV.cells, un, most, callsOf, List.contains_nil, List.contains_cons, beq_iff_eq, List.getElem?_cons_zero, List.getElem?_cons_succ, seval, Int.reducePow, ↓reduceIte, Nat.reduceEqDiff, reduceCtorEq, and_self]
          rw [putAns, if_neg hlen]
  · have e0 : ¬ r.kind = 0 := by omega
    have e1 : ¬ r.kind = 1 := by omega
    have e2 : ¬ r.kind = 2 := by omega
    have er : recB r = numB r.kind 1 ++ txB r.node r.seq ++ bitB r.commit := by rw [recB, if_neg e0, if_neg (by omega), if_pos ek, List.append_assoc]
    simp only [k1, e0, R0, R1, R2, R3, R4, R5, R6, R7, bxC, bsC, AV.cells, un, most, callsOf, List.contains_nil, List.contains_cons, beq_iff_eq, List.getElem?_cons_zero, List.getElem?_cons_succ, seval, Int.reducePow, ↓reduceIte, Nat.reduceEqDiff, reduceCtorEq, and_self]
    refine wname g w1 (by rw [numB_len]; omega) fun _ h2 w2 => ?_
    have k2 := (w2.keep _ hm0).2.2
    simp only at k2
    simp only [k2, ek, R0, R1, R2, R3, R4, R5, R6, R7, bxC, bsC, AV.cells, un, most, callsOf, List.contains_nil, List.contains_cons, beq_iff_eq, List.getElem?_cons_zero, List.getElem?_cons_succ, seval, Int.reducePow, ↓reduceIte, Nat.reduceEqDiff, reduceCtorEq, and_self]
    refine wbool g w2 (by simp [txB, numB_len]) fun _ h3 w3 => ?_
    rw [← er] at w3
    simp only [R0, R1, R2, R3, R4, R5, R6, R7, bxC, bsC, AV.cells, un, most, callsOf, List.contains_nil, List.contains_cons, beq_iff_eq, List.getElem?_cons_zero, List.getElem?_cons_succ, seval, Int.reducePow, ↓reduceIte, Nat.reduceEqDiff, reduceCtorEq, and_self]
    obtain ⟨v, e, ver, hb1, ho⟩ := w3.out
    rcases ho with ⟨_, hnil⟩ | ⟨c, e', ver', rfl, _, _, _, hc6⟩
    · exact absurd hnil (recB_ne _)
    · by_cases hlen : (recB r).length ≤ 8192
      · have c8 : ¬ (8192 : Int) < ((recB r).length : Int) := by omega
        simp only [hb1, c8, R0, R1, R2, R3, R4, R5, R6, R7, bxC, bsC, AV.cells, un, most, callsOf, List.contains_nil, List.contains_cons, beq_iff_eq, List.getElem?_cons_zero, List.getElem?_cons_succ, seval, Int.reducePow, ↓reduceIte, Nat.reduceEqDiff, reduceCtorEq, and_self]
        rw [cvT_sl hc6 (List.length_map _), mb_bytes (By.rec r)]
        simp only [R0, R1, R2, R3, R4, R5, R6, R7, bxC, bsC, AV.cells, un, most, callsOf, List.contains_nil, List.contains_cons, beq_iff_eq, List.getElem?_cons_zero, List.getElem?_cons_succ, seval, Int.reducePow, ↓reduceIte, Nat.reduceEqDiff, reduceCtorEq, and_self]
        rw [putAns, if_pos hlen]
      · have c8 : (8192 : Int) < ((recB r).length : Int) := by omega
        simp only [hb1, c8, R0, R1, R2, R3, R4, R5, R6, R7, bxC, bsC, AV.cells, un, most, callsOf, List.contains_nil, List.contains_cons, beq_iff_eq, List.getElem?_cons_zero, List.getElem?_cons_succ, seval, Int.reducePow, ↓reduceIte, Nat.reduceEqDiff, reduceCtorEq, and_self]
        rw [putAns, if_neg hlen]
  · have e0 : ¬ r.kind = 0 := by omega
    have er : recB r = numB r.kind 1 ++ txB r.node r.seq := by rw [recB, if_neg e0, if_neg (by omega), if_neg (by omega), List.append_nil]
    simp only [k1, e0, R0, R1, R2, R3, R4, R5, R6, R7, bxC, bsC, AV.cells, un, most, callsOf, List.contains_nil, List.contains_cons, beq_iff_eq, List.getElem?_cons_zero, List.getElem?_cons_succ, seval, Int.reducePow, ↓reduceIte, Nat.reduceEqDiff, reduceCtorEq, and_self]
    refine wname g w1 (by rw [numB_len]; omega) fun _ h2 w2 => ?_
    have k2 := (w2.keep _ hm0).2.2
    simp only at k2
    rw [← er] at w2
    simp only [k2, ek, R0, R1, R2, R3, R4, R5, R6, R7, bxC, bsC, AV.cells, un, most, callsOf, List.contains_nil, List.contains_cons, beq_iff_eq, List.getElem?_cons_zero, List.getElem?_cons_succ, seval, Int.reducePow, ↓reduceIte, Nat.reduceEqDiff, reduceCtorEq, and_self]
    obtain ⟨v, e, ver, hb1, ho⟩ := w2.out
    rcases ho with ⟨_, hnil⟩ | ⟨c, e', ver', rfl, _, _, _, hc6⟩
    · exact absurd hnil (recB_ne _)
    · by_cases hlen : (recB r).length ≤ 8192
      · have c8 : ¬ (8192 : Int) < ((recB r).length : Int) := by omega
        simp only [hb1, c8, R0, R1, R2, R3, R4, R5, R6, R7, bxC, bsC, AV.cells, un, most, callsOf, List.contains_nil, List.contains_cons, beq_iff_eq, List.getElem?_cons_zero, List.getElem?_cons_succ, seval, Int.reducePow, ↓reduceIte, Nat.reduceEqDiff, reduceCtorEq, and_self]
        rw [cvT_sl hc6 (List.length_map _), mb_bytes (By.rec r)]
        simp only [R0, R1, R2, R3, R4, R5, R6, R7, bxC, bsC, AV.cells, un, most, callsOf, List.contains_nil, List.contains_cons, beq_iff_eq, List.getElem?_cons_zero, List.getElem?_cons_succ, seval, Int.reducePow, ↓reduceIte, Nat.reduceEqDiff, reduceCtorEq, and_self]
        rw [putAns, if_pos hlen]
      · have c8 : (8192 : Int) < ((recB r).length : Int) := by omega
        simp only [hb1, c8, R0, R1, R2, R3, R4, R5, R6, R7, bxC, bsC, AV.cells, un, most, callsOf, List.contains_nil, List.contains_cons, beq_iff_eq, List.getElem?_cons_zero, List.getElem?_cons_succ, seval, Int.reducePow, ↓reduceIte, Nat.reduceEqDiff, reduceCtorEq, and_self]
        rw [putAns, if_neg hlen]
end
end Go.Proofs.Ytinonmcnofjeeaa.VM
