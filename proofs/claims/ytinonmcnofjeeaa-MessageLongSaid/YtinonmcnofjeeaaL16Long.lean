/- MessageLong: a part of as many features as fit is a message, one more is none. -/
import Derived.Test.YtinonmcnofjeeaaL16Good
import Derived.Test.YtinonmcnofjeeaaSE8
namespace Go.Proofs.Ytinonmcnofjeeaa.VM
set_option linter.unusedSimpArgs false
set_option linter.unusedVariables false
set_option linter.defProp false
set_option maxHeartbeats 1000000
attribute [local irreducible] Af Nx EvO Ev Un Gd Cd EvR EvQ EvC Nc Gc Lp EvM NxM AfM GdM EvMR EvMQ EvMD EvMC Nm Gm
/-- a line of so many points -/
def lnP (k : Nat) : List Pt := (List.range k).map fun i : Nat => ⟨(i : Int), 7⟩
def lnC (k : Nat) : List AV := ((List.range k).map fun i : Nat => [AV.int .i64 (i : Int), AV.int .i64 7]).flatten
theorem lnC_succ (k : Nat) : lnC (k + 1) = lnC k ++ [.int .i64 (k : Int), .int .i64 7] := by simp [lnC, List.range_succ]
theorem lnP_succ (k : Nat) : lnP (k + 1) = lnP k ++ [⟨(k : Int), 7⟩] := by simp [lnP, List.range_succ]
theorem lnP_len (k : Nat) : (lnP k).length = k := by simp [lnP]
theorem lnP_at {k i : Nat} (h : i < k) : (lnP k).getD i ⟨0, 0⟩ = ⟨(i : Int), 7⟩ := by
  rw [List.getD_eq_getElem?_getD, List.getElem?_eq_getElem (by rw [lnP_len]; exact h)]
  simp [lnP]
theorem ln_cat {k : Nat} (hk : k ≤ 1000) : Cat RPt (lnP k) (lnC k) := by
  induction k with
  | zero => exact .nil
  | succ k ih =>
    rw [lnP_succ, lnC_succ]
    refine (ih (by omega)).append (.cons (c := [.int .i64 (k : Int), .int .i64 7]) (k := []) ?_ .nil)
    exact ⟨rfl, i64c (by simp only; omega) (by simp only; omega), i64c (by simp) (by simp)⟩
theorem ln_isL {k : Nat} (hk : k ≤ 1000) : IsL 16 RPt (.rs (lnC k) k) (lnP k) := by
  have e : reachBytes = 140737488351232 := rfl
  have := isL_rs (ln_cat hk) (b := 16) (by rw [lnP_len, e]; omega)
  rwa [lnP_len] at this
/-- so many features of one line -/
def lfF (k n : Nat) : List Feat := (List.range n).map fun i : Nat => ⟨(i : Int) + 1, 1, [lnP k]⟩
def lfC (k n : Nat) : List AV := ((List.range n).map fun i : Nat => [AV.int .i64 ((i : Int) + 1), AV.int .i64 1, AV.rs [AV.rs (lnC k) k] 1]).flatten
theorem lfC_succ (k n : Nat) : lfC k (n + 1) = lfC k n ++ [.int .i64 ((n : Int) + 1), .int .i64 1, .rs [.rs (lnC k) k] 1] := by simp [lfC, List.range_succ]
theorem lfF_succ (k n : Nat) : lfF k (n + 1) = lfF k n ++ [⟨(n : Int) + 1, 1, [lnP k]⟩] := by simp [lfF, List.range_succ]
theorem lfF_len (k n : Nat) : (lfF k n).length = n := by simp [lfF]
theorem lfF_at {k n i : Nat} (h : i < n) : (lfF k n).getD i feat0 = ⟨(i : Int) + 1, 1, [lnP k]⟩ := by
  rw [List.getD_eq_getElem?_getD, List.getElem?_eq_getElem (by rw [lfF_len]; exact h)]
  simp [lfF]
theorem lf_cat {k n : Nat} (hk : k ≤ 1000) (hn : n ≤ 1000) : Cat RFeat (lfF k n) (lfC k n) := by
  induction n with
  | zero => exact .nil
  | succ n ih =>
    rw [lfF_succ, lfC_succ]
    refine (ih (by omega)).append (.cons (c := [.int .i64 ((n : Int) + 1), .int .i64 1, .rs [.rs (lnC k) k] 1]) (k := []) ?_ .nil)
    refine ⟨_, rfl, i64c (by simp only; omega) (by simp only; omega), i64c (by simp) (by simp), ?_⟩
    exact isL_rs (R := RRing) (l := [lnP k]) (c := [.rs (lnC k) k]) (.cons (show RRing (lnP k) _ from ⟨_, rfl, ln_isL hk⟩) .nil) (show 1 * 24 ≤ reachBytes by decide)
theorem lf_isL {k n : Nat} (hk : k ≤ 1000) (hn : n ≤ 1000) : IsL 40 RFeat (.rs (lfC k n) n) (lfF k n) := by
  have e : reachBytes = 140737488351232 := rfl
  have := isL_rs (lf_cat hk hn) (b := 40) (by rw [lfF_len, e]; omega)
  rwa [lfF_len] at this
theorem ln_ok {k : Nat} (h2 : 2 ≤ k) (h16 : k ≤ 16) : ringOk 2 false (lnP k) := by
  refine ⟨by rw [lnP_len]; omega, by rw [lnP_len]; omega, fun i hi => ?_⟩
  rw [lnP_len] at hi
  refine ⟨?_, fun h => ?_⟩
  · rw [lnP_at hi]
    exact ⟨⟨by simp only; omega, by simp only; omega⟩, by simp, by simp⟩
  · rcases h with h | h
    · rw [lnP_len] at h ⊢
      unfold nxt at h ⊢
      split at h
      · omega
      · rename_i hne
        rw [if_neg hne, lnP_at hi, lnP_at (by omega)]
        intro e
        have := congrArg Pt.x e
        simp only at this
        push_cast at this
        omega
    · cases h
theorem lf_ok {k n : Nat} (h2 : 2 ≤ k) (h16 : k ≤ 16) (hn : n ≤ 1000) : featsOk (lfF k n) := by
  intro i hi
  rw [lfF_len] at hi
  refine ⟨?_, fun h => ?_⟩
  · rw [lfF_at hi]
    exact ⟨by simp only; omega, by simp only; omega, by simp, by simp, .inr (.inl ⟨rfl, rfl, by simpa using ln_ok h2 h16⟩)⟩
  · rw [lfF_at hi, lfF_at (by omega)]
    simp only; omega
theorem lnB_len (k : Nat) : (ringB (lnP k)).length = 1 + 8 * k := by
  have : ((lnP k).map ptB).flatten.length = 8 * k := by
    induction k with
    | zero => rfl
    | succ k ih =>
      rw [lnP_succ, List.map_append, List.flatten_append, List.length_append, ih]
      simp [ptB_len]; omega
  rw [ringB, List.length_append, numB_len, this]
theorem lfB_len (k n : Nat) : (fsB (lfF k n)).length = 2 + n * (5 + 8 * k) := by
  have : ((lfF k n).map featB).flatten.length = n * (5 + 8 * k) := by
    induction n with
    | zero => simp [lfF]
    | succ n ih =>
      rw [lfF_succ, List.map_append, List.flatten_append, List.length_append, ih]
      simp only [List.map_cons, List.map_nil, List.flatten_cons, List.flatten_nil, List.append_nil, featB, List.length_append, numB_len, lnB_len]
      rw [Nat.add_mul]; omega
  rw [fsB, List.length_append, numB_len, this]
def lgM (k n : Nat) : Ms := ⟨6, 0, 0, 0, 0, 0, false, 1, 0, false, ⟨0, 0, 0, 0⟩, [], lfF k n⟩
theorem lg_ok {k n : Nat} (h2 : 2 ≤ k) (h16 : k ≤ 16) (hn : n ≤ 256) : msOk (lgM k n) := by
  refine ⟨by simp [lgM], by simp [lgM, nodeOk], by simp [lgM, nodeOk], by simp [txM, lgM, kTx], .inr rfl, by simp [opsM, lgM, kOps], ?_, ?_⟩
  · simp only [queryM, lgM, kQuery, boxOk, coordOk]; decide
  · have := lf_ok h2 h16 (n := n) (by omega)
    simp only [partM, lgM, kPart, decide_true, if_true]
    exact ⟨by decide, by rw [lfF_len]; exact hn, fun h => (by cases h), this⟩
theorem lg_not {k n : Nat} (hn : 256 < n) : ¬ msOk (lgM k n) := by
  rintro ⟨_, _, _, _, _, _, _, h⟩
  have : (lfF k n).length ≤ 256 := h.2.1
  rw [lfF_len] at this; omega
theorem lgB_len (k n : Nat) : (msB (lgM k n)).length = 30 + n * (5 + 8 * k) := by
  have e : msB (lgM k n) = 77 :: 83 :: (numB 6 1 ++ (numB 0 1 ++ (numB 0 1 ++ ([] ++ ([] ++ ([] ++ ((numB 1 2 ++ boxB ⟨0, 0, 0, 0⟩) ++ (numB 0 4 ++ (bitB false ++ fsB (lfF k n)))))))))) := rfl
  rw [e]
  simp only [List.length_cons, List.length_append, List.length_nil, numB_len, boxB_len, bitB, lfB_len]
  omega
theorem cells_one {v : AV} (h : v.one = true) : v.cells = some [v] := by
  cases v <;> simp [AV.one, AV.cells] at h ⊢
theorem msAns_bad {m : Ms} (h : 16384 < (msB m).length) : msAns m = .tup [.str [], .int .i64 1600] := if_neg (by omega)
theorem msAns_good {m : Ms} (h : (msB m).length ≤ 16384) : msAns m = .tup [.str (msB m), .int .i64 0] := if_pos h
section
variable {P : Program}
theorem lgPut_not (g : Pg P tab) {k n : Nat} (hk : k ≤ 1000) (hn : n ≤ 1000) (h : 256 < n) : Pu P 25 [.agg (msC (lgM k n) .nils (.rs (lfC k n) n))] (fun v => v = .tup [.str [], .int .i64 1600]) :=
  msgPut_bad g (m := lgM k n) (isL_nil 112 ROp) (lf_isL hk hn) (lg_not h)
theorem lgPut_ok (g : Pg P tab) {k n : Nat} (h2 : 2 ≤ k) (h16 : k ≤ 16) (h : n ≤ 256) : Pu P 25 [.agg (msC (lgM k n) .nils (.rs (lfC k n) n))] (fun v => v = msAns (lgM k n)) :=
  msgPut_good g (m := lgM k n) (isL_nil 112 ROp) (lf_isL (by omega) (by omega)) (lg_ok h2 h16 h)
theorem line_loop (g : Pg P tab) {K : Nat} (hK : K ≤ 16) (n : Nat) : ∀ (i : Nat) (s : T AV) (h : Heap) (k : List Fr) (Q : Ex → T AV → Heap → Prop), i + n = K → Row h (sg s 6) 2 (lnC i) i → sg s 5 = .int .i64 K → sg s 7 = .int .i64 i →
    (∀ s' h', Row h' (sg s' 6) 2 (lnC K) K → sg s' 5 = .int .i64 K → sg s' 1 = sg s 1 → Un P k Q (.exit 0) s' h') → Lp P b9_0 s h (Un P k Q) := by
  induction n with
  | zero =>
    intro i s h k Q hi r h5 h7 hQ
    refine g.lpe b9_0.eq_1 ?_
    have c1 : ¬ ((i : Int) < (K : Int)) := by omega
    simp only [h5, h7, c1, R0, R1, R2, R3, R4, R5, R6, R7, R8, R9, VOp.fresh, bxC, bsC, AV.cells, un, most, callsOf, List.contains_nil, List.contains_cons, beq_iff_eq, List.getElem?_cons_zero, List.getElem?_cons_succ, seval, Option.map_none, Int.reducePow, ↓reduceIte, Nat.reduceEqDiff, reduceCtorEq, and_self]
    have e : i = K := by omega
    subst e
    refine hQ _ _ ?_ ?_ ?_
    · simp only [sg_set, Nat.reduceEqDiff, ↓reduceIte]
      exact r
    · simp only [h5, sg_set, Nat.reduceEqDiff, ↓reduceIte]
    · simp only [sg_set, Nat.reduceEqDiff, ↓reduceIte]
  | succ n ih =>
    intro i s h k Q hi r h5 h7 hQ
    refine g.lpe b9_0.eq_1 ?_
    have c1 : (i : Int) < (K : Int) := by omega
    have w1 : IntKind.i64.wrap ((i : Int) + 1) = ((i + 1 : Nat) : Int) := by rw [w64 (by omega) (by omega)]; push_cast; rfl
    have r1 := r.ext (Ext.mk (h := h) (.cells [.int .i64 (i : Int), .int .i64 7] 48 0))
    obtain ⟨h', e1, r2, _, _⟩ := r1.push (nb := h.next) (eb := 48) (vb := 0) (by rw [Heap.get_mk, if_pos rfl]) rfl rfl (bytes := 16) (by unfold most2; omega) 48
    have hn1 : (h.mk' h.next (.cells [.int .i64 (i : Int), .int .i64 7] 48 0)).next = h.next + 1 := by rw [mk_next]; omega
    rw [hn1] at e1 r2
    simp only [h5, h7, c1, e1, w1, R0, R1, R2, R3, R4, R5, R6, R7, R8, R9, VOp.fresh, bxC, bsC, AV.cells, un, most, callsOf, List.contains_nil, List.contains_cons, beq_iff_eq, List.getElem?_cons_zero, List.getElem?_cons_succ, seval, Option.map_none, Int.reducePow, ↓reduceIte, Nat.reduceEqDiff, reduceCtorEq, and_self]
    rw [← lnC_succ] at r2
    refine ih (i + 1) _ _ k Q (by omega) ?_ ?_ ?_ (fun s' h'' q1 q2 q3 => hQ s' h'' q1 q2 ?_)
    · simp only [sg_set, Nat.reduceEqDiff, ↓reduceIte]
      exact r2
    · simp only [h5, sg_set, Nat.reduceEqDiff, ↓reduceIte]
    · simp only [sg_set, Nat.reduceEqDiff, ↓reduceIte]
    · rw [q3]
      simp only [sg_set, Nat.reduceEqDiff, ↓reduceIte]
theorem long_loop (g : Pg P tab) {K N mb rb : Nat} (hN : N ≤ 300) {M z : Int} (hM : IntKind.i64.wrap (M + bitsOf .and .i64 z 1) = (N : Int)) (n : Nat) : ∀ (i : Nat) (s : T AV) (h : Heap) (fv : AV) (cs : List AV) (D : List Nat) (ver : Nat) (k : List Fr) (Q : Ex → T AV → Heap → Prop), i + n = N →
    h.get mb = some (.cells [.int .i64 6, .int .i64 0, .int .i64 0, .int .i64 0, .int .i64 0, .int .i64 0, .bool false, .int .i64 1, .int .i64 0, .bool false, .int .i64 0, .int .i64 0, .int .i64 0, .int .i64 0, .nils, fv] 63 ver) → mb < h.next → Row h fv 3 cs i → Fds h cs (lfC K i) D → (∀ b ∈ D, b ≠ mb ∧ b ∉ blkOf fv) → mb ∉ blkOf fv →
    Fd h (.sl rb 0 K K 2) (.rs (lnC K) K) [rb] → rb ≠ mb → rb ∉ blkOf fv → sg s 6 = .sl rb 0 K K 2 → sg s 1 = .int .i64 z → sg s 9 = .int .i64 M → sg s 10 = .ptr mb 0 → sg s 11 = .int .i64 i →
    (∀ s' h' fv' cs' D' ver', h'.get mb = some (.cells [.int .i64 6, .int .i64 0, .int .i64 0, .int .i64 0, .int .i64 0, .int .i64 0, .bool false, .int .i64 1, .int .i64 0, .bool false, .int .i64 0, .int .i64 0, .int .i64 0, .int .i64 0, .nils, fv'] 63 ver') → Row h' fv' 3 cs' N → Fds h' cs' (lfC K N) D' → sg s' 1 = .int .i64 z → sg s' 9 = .int .i64 M → sg s' 8 = sg s 8 → sg s' 10 = .ptr mb 0 → Un P k Q (.exit 2) s' h') → Lp P b9_1 s h (Un P k Q) := by
  induction n with
  | zero =>
    intro i s h fv cs D ver k Q hi hm hmn r f hD hmf fr hr6 hr7 h6 h1 h9 h10 h11 hQ
    refine g.lpe b9_1.eq_1 ?_
    have c1 : ¬ ((i : Int) < (N : Int)) := by omega
    simp only [h1, h9, h11, hM, c1, R0, R1, R2, R3, R4, R5, R6, R7, R8, R9, VOp.fresh, bxC, bsC, AV.cells, un, most, callsOf, List.contains_nil, List.contains_cons, beq_iff_eq, List.getElem?_cons_zero, List.getElem?_cons_succ, seval, Option.map_none, Int.reducePow, ↓reduceIte, Nat.reduceEqDiff, reduceCtorEq, and_self]
    have e : i = N := by omega
    subst e
    refine hQ _ _ _ _ _ _ hm r f ?_ ?_ ?_ ?_
    · simp only [h1, sg_set, Nat.reduceEqDiff, ↓reduceIte]
    · simp only [h9, sg_set, Nat.reduceEqDiff, ↓reduceIte]
    · simp only [sg_set, Nat.reduceEqDiff, ↓reduceIte]
    · simp only [h10, sg_set, Nat.reduceEqDiff, ↓reduceIte]
  | succ n ih =>
    intro i s h fv cs D ver k Q hi hm hmn r f hD hmf fr hr6 hr7 h6 h1 h9 h10 h11 hQ
    refine g.lpe b9_1.eq_1 ?_
    have c1 : (i : Int) < (N : Int) := by omega
    have w1 : IntKind.i64.wrap ((i : Int) + 1) = (i : Int) + 1 := w64 (by omega) (by omega)
    have w2 : (i : Int) + 1 = ((i + 1 : Nat) : Int) := by push_cast; rfl
    have x1 := Ext.mk (h := h) (.cells [.sl rb 0 K K 2] 49 0)
    have hn1 : (h.mk' h.next (.cells [.sl rb 0 K K 2] 49 0)).next = h.next + 1 := by rw [mk_next]; omega
    have x2 := Ext.mk (h := h.mk' h.next (.cells [.sl rb 0 K K 2] 49 0)) (.cells [.int .i64 ((i : Int) + 1), .int .i64 1, .sl h.next 0 1 1 1] 52 0)
    rw [hn1] at x2
    have x := x1.trans x2
    have hn2 : ((h.mk' h.next (.cells [.sl rb 0 K K 2] 49 0)).mk' (h.next + 1) (.cells [.int .i64 ((i : Int) + 1), .int .i64 1, .sl h.next 0 1 1 1] 52 0)).next = h.next + 2 := by rw [mk_next, hn1]; omega
    obtain ⟨h', e1, r2, hn', fr'⟩ := (r.ext x).push (nb := h.next + 1) (eb := 52) (vb := 0) (by rw [Heap.get_mk, if_pos rfl]) rfl rfl (bytes := 40) (by unfold most2; omega) 52
    rw [hn2] at e1 r2 hn' fr'
    have hk : ∀ b, b < h.next → b ∉ blkOf fv → h'.get b = h.get b := fun b hb hnb => (fr' b hnb (by omega)).trans (x.2 b hb)
    have hrl := r.lt
    have g1 : h'.get mb = h.get mb := hk mb hmn hmf
    have hmb2 : ¬ mb = h.next + 1 := by omega
    have hmb1 : ¬ mb = h.next := by omega
    have gn : h'.get h.next = some (.cells [.sl rb 0 K K 2] 49 0) := by
      rw [fr' h.next (fun hc => by have := hrl _ hc; omega) (by omega), Heap.get_mk, if_neg (by omega), Heap.get_mk, if_pos rfl]
    have hm' := g1.trans hm
    simp only [h1, h9, h10, h11, hM, c1, w1, RW, h6, hn1, hmb1, hmb2, hm, hm', e1, r.one, R0, R1, R2, R3, R4, R5, R6, R7, R8, R9, VOp.fresh, bxC, bsC, AV.cells, un, most, callsOf, List.contains_nil, List.contains_cons, beq_iff_eq, List.getElem?_cons_zero, List.getElem?_cons_succ, seval, Option.map_none, Int.reducePow, ↓reduceIte, Nat.reduceEqDiff, reduceCtorEq, and_self]
    rw [w2]
    have hfd := f.lt
    have frb : rb < h.next := fr.lt rb (by simp)
    refine ih (i + 1) _ _ (.sl (h.next + 2) 0 (i + 1) (i + 1) 3) (cs ++ [.int .i64 ((i : Int) + 1), .int .i64 1, .sl h.next 0 1 1 1]) (D ++ (h.next :: [rb])) (ver + 1) k Q (by omega) ?_ ?_ ?_ ?_ ?_ ?_ ?_ hr6 ?_ ?_ ?_ ?_ ?_ ?_ ?_
    · rw [Heap.get_put, if_pos rfl]
    · rw [put_next]; omega
    · exact r2.frame (by rw [put_next]; exact Nat.le_refl _) fun b hb => by
        simp only [blkOf, List.mem_singleton] at hb
        rw [Heap.get_put, if_neg (by omega)]
    · rw [lfC_succ]
      refine Fds.app (f.frame (by rw [put_next]; omega) fun b hb => ?_) ?_
      · have q := hD b hb
        rw [Heap.get_put, if_neg q.1, hk b (hfd b hb) q.2]
      · refine Fds.cast (.cons (D := []) (.told rfl) (.cons (D := []) (.told rfl) (.cons (D := [h.next, rb]) (E := []) ?_ .nil))) rfl
        have fr2 : Fd (h'.put mb (.cells [.int .i64 6, .int .i64 0, .int .i64 0, .int .i64 0, .int .i64 0, .int .i64 0, .bool false, .int .i64 1, .int .i64 0, .bool false, .int .i64 0, .int .i64 0, .int .i64 0, .int .i64 0, .nils, .sl (h.next + 2) 0 (i + 1) (i + 1) 3] 63 (ver + 1))) (.sl rb 0 K K 2) (.rs (lnC K) K) [rb] := fr.frame (by rw [put_next]; omega) fun b hb => by
          simp only [List.mem_singleton] at hb
          subst hb
          rw [Heap.get_put, if_neg hr6, hk b frb hr7]
        refine .sl (by decide) (by rw [put_next]; omega) (by rw [Heap.get_put, if_neg (fun e => hmb1 e.symm)]; exact gn) (cs := [.sl rb 0 K K 2]) rfl ?_
        exact Fds.cast (.cons (E := []) fr2 .nil) rfl
    · intro b hb
      rcases List.mem_append.1 hb with hb | hb
      · have := hfd b hb
        exact ⟨(hD b hb).1, by simp only [blkOf, List.mem_singleton]; omega⟩
      · simp only [List.mem_cons, List.not_mem_nil, or_false] at hb
        simp only [blkOf, List.mem_singleton]
        omega
    · simp only [blkOf, List.mem_singleton]; omega
    · exact fr.frame (by rw [put_next]; omega) fun b hb => by
        simp only [List.mem_singleton] at hb
        subst hb
        rw [Heap.get_put, if_neg hr6, hk b frb hr7]
    · simp only [blkOf, List.mem_singleton]; omega
    · simp only [h6, sg_set, Nat.reduceEqDiff, ↓reduceIte]
    · simp only [h1, sg_set, Nat.reduceEqDiff, ↓reduceIte]
    · simp only [h9, sg_set, Nat.reduceEqDiff, ↓reduceIte]
    · simp only [h10, sg_set, Nat.reduceEqDiff, ↓reduceIte]
    · simp only [sg_set, Nat.reduceEqDiff, ↓reduceIte]
    · intro s' h'' fv' cs' D' ver' q1 q2 q3 q4 q5 q6 q7
      refine hQ s' h'' fv' cs' D' ver' q1 q2 q3 q4 q5 ?_ q7
      rw [q6]
      simp only [sg_set, Nat.reduceEqDiff, ↓reduceIte]
theorem long_pu (g : Pg P tab) (points many : Int) : Pu P 9 [.int .i64 points, .int .i64 many] (fun v => v = .bool true) := by
  refine g.pu (vf := v9) rfl rfl ?_
  simp only [v9, R0, R1, R2, R3, R4, R5, R6, R7, R8, R9, VOp.fresh, bxC, bsC, AV.cells, un, most, callsOf, List.contains_nil, List.contains_cons, beq_iff_eq, List.getElem?_cons_zero, List.getElem?_cons_succ, seval, Option.map_none, Int.reducePow, ↓reduceIte, Nat.reduceEqDiff, reduceCtorEq, and_self]
  refine (awake16_pu g).go rfl ?_
  rintro v rfl
  obtain ⟨K, hK2, hK16, hK⟩ : ∃ K : Nat, 2 ≤ K ∧ K ≤ 16 ∧ IntKind.i64.wrap (2 + IntKind.i64.wrap ((IntKind.u64.wrap points).tmod 15)) = (K : Int) := by
    have e1 : IntKind.u64.wrap points = points % 18446744073709551616 := IntKind.wrap_u64 points
    have h0 : 0 ≤ points % 18446744073709551616 := Int.emod_nonneg _ (by decide)
    have e2 : (points % 18446744073709551616).tmod 15 = points % 18446744073709551616 % 15 := Int.tmod_eq_emod_of_nonneg h0
    rw [e1, e2]
    refine ⟨(2 + (points % 18446744073709551616 % 15)).toNat, by omega, by omega, ?_⟩
    rw [w64 (n := points % 18446744073709551616 % 15) (by omega) (by omega), w64 (by omega) (by omega)]
    omega
  obtain ⟨p, hp, ep⟩ : ∃ p : Nat, p < 2 ∧ bitsOf .and .i64 many 1 = (p : Int) := by
    have := and_any many (n := 1) (by decide)
    exact ⟨_, Nat.mod_lt (many % 18446744073709551616).toNat (by decide), by simpa using this⟩
  have w1 : IntKind.i64.wrap (8 * (K : Int)) = 8 * (K : Int) := w64 (by omega) (by omega)
  have w2 : IntKind.i64.wrap (5 + 8 * (K : Int)) = 5 + 8 * (K : Int) := w64 (by omega) (by omega)
  simp only [hK, R0, R1, R2, R3, R4, R5, R6, R7, R8, R9, VOp.fresh, bxC, bsC, AV.cells, un, most, callsOf, List.contains_nil, List.contains_cons, beq_iff_eq, List.getElem?_cons_zero, List.getElem?_cons_succ, seval, Option.map_none, Int.reducePow, ↓reduceIte, Nat.reduceEqDiff, reduceCtorEq, and_self]
  refine line_loop g hK16 K 0 _ _ _ _ (by omega) ?_ ?_ ?_ ?_
  · simp only [sg_set, Nat.reduceEqDiff, ↓reduceIte]
    exact .nil _ _
  · simp only [sg_set, Nat.reduceEqDiff, ↓reduceIte]
  · simp only [sg_set, Nat.reduceEqDiff, ↓reduceIte]
    rfl
  intro s1 h1 r1 a5 a1
  have a1' : sg s1 1 = .int .i64 many := by
    rw [a1]
    simp only [sg_set, Nat.reduceEqDiff, ↓reduceIte]
  clear a1
  obtain ⟨E, hE⟩ : ∃ E : Nat, E = 5 + 8 * K := ⟨_, rfl⟩
  have eE : (5 + 8 * (K : Int)) = (E : Int) := by omega
  have e0 : ¬ (E : Int) = 0 := by omega
  obtain ⟨A, hA⟩ : ∃ A : Nat, A = 16354 / E := ⟨_, rfl⟩
  have hAE : A * E ≤ 16354 := by rw [hA]; exact Nat.div_mul_le_self _ _
  have hAE2 : 16354 < (A + 1) * E := by
    rw [hA, Nat.add_mul, Nat.one_mul]
    have := Nat.div_add_mod 16354 E
    have := Nat.mod_lt 16354 (show 0 < E by omega)
    have := Nat.mul_comm E (16354 / E)
    omega
  have hA100 : 100 ≤ A := by
    rw [hA]
    exact (Nat.le_div_iff_mul_le (by omega)).2 (by omega)
  have hA800 : A ≤ 800 := by
    rw [hA]
    have := Nat.div_le_div_left (c := 21) (show 21 ≤ E by omega) (by decide) (a := 16354)
    omega
  have w3 : IntKind.i64.wrap ((16354 : Int).tdiv (E : Int)) = (A : Int) := by
    have : (16354 : Int).tdiv (E : Int) = ((16354 / E : Nat) : Int) := by rw [Int.tdiv_eq_ediv_of_nonneg (by decide)]; rfl
    rw [this, ← hA]
    exact w64 (by omega) (by omega)
  obtain ⟨M, hM⟩ : ∃ M : Nat, M = min A 256 := ⟨_, rfl⟩
  have eM : (if (256 : Int) < (A : Int) then (256 : Int) else (A : Int)) = (M : Int) := by split <;> omega
  have em2 : foldO min2 (.int .i64 (A : Int)) [.int .i64 256] = some (.int .i64 (M : Int)) := by
    simp only [foldO, min2]
    rw [eM]
  have hr6 : ∃ rb e ver, sg s1 6 = .sl rb 0 K K 2 ∧ rb < h1.next ∧ h1.get rb = some (.cells (lnC K) e ver) := by
    rcases r1 with ⟨_, q, _⟩ | ⟨b, e, ver, q1, _, q2, _, q3⟩
    · omega
    · exact ⟨b, e, ver, q1, q2, q3⟩
  obtain ⟨rb, eb, vb, a6, hrb, grb⟩ := hr6
  have w4 : IntKind.i64.wrap (E : Int) = (E : Int) := w64 (by omega) (by omega)
  simp only [a5, a1', a6, w1, eE, w4, ne_eq, e0, w3, em2, RW, R0, R1, R2, R3, R4, R5, R6, R7, R8, R9, VOp.fresh, bxC, bsC, AV.cells, un, most, callsOf, List.contains_nil, List.contains_cons, beq_iff_eq, List.getElem?_cons_zero, List.getElem?_cons_succ, seval, Option.map_none, Int.reducePow, ↓reduceIte, Nat.reduceEqDiff, reduceCtorEq, and_self]
  have hN0 : IntKind.i64.wrap ((M : Int) + bitsOf .and .i64 many 1) = ((M + p : Nat) : Int) := by
    rw [ep, w64 (by omega) (by omega)]; push_cast; rfl
  have hmb : h1.next ≠ rb := by omega
  refine long_loop g (K := K) (N := M + p) (mb := h1.next) (rb := rb) (by omega) hN0 (M + p) 0 _ _ .nils [] [] 1 _ _ (by omega) ?_ ?_ (.nil _ _) ?_ ?_ ?_ ?_ ?_ ?_ ?_ ?_ ?_ ?_ ?_ ?_
  · rw [Heap.get_put, if_pos rfl]
  · rw [put_next, mk_next]; omega
  · exact .nil
  · intro b hb; simp at hb
  · simp [blkOf]
  · refine .sl (by omega) (by rw [put_next, mk_next]; omega) (by rw [Heap.get_put, if_neg (Ne.symm hmb), Heap.get_mk, if_neg (Ne.symm hmb)]; exact grb) (cs := lnC K) ?_ (Fds.tolds ?_)
    · have : (lnC K).length = K * 2 := by rw [(ln_cat (k := K) (by omega)).length zPt, lnP_len]
      rw [cut_eq, List.drop_zero, ← this, List.take_length, if_pos rfl]
    · exact (ln_cat (k := K) (by omega)).told tPt
  · exact Ne.symm hmb
  · simp [blkOf]
  · simp only [a6, sg_set, Nat.reduceEqDiff, ↓reduceIte]
  · simp only [a1', sg_set, Nat.reduceEqDiff, ↓reduceIte]
  · simp only [sg_set, Nat.reduceEqDiff, ↓reduceIte]
  · simp only [sg_set, Nat.reduceEqDiff, ↓reduceIte]
  · simp only [sg_set, Nat.reduceEqDiff, ↓reduceIte]
    rfl
  intro s2 h2 fv cs D ver gm r2 f2 b1 b9 b8 b10
  have b8' : sg s2 8 = .int .i64 (E : Int) := by
    rw [b8]
    simp only [sg_set, Nat.reduceEqDiff, ↓reduceIte]
  clear b8
  obtain ⟨v', fd, hv'⟩ := r2.fd f2
  obtain rfl : v' = .rs (lfC K (M + p)) (M + p) := by
    rcases hv' with ⟨_, q⟩ | q
    · omega
    · exact q
  have hfz : Fzs true h2 [.agg [.int .i64 6, .int .i64 0, .int .i64 0, .int .i64 0, .int .i64 0, .int .i64 0, .bool false, .int .i64 1, .int .i64 0, .bool false, .int .i64 0, .int .i64 0, .int .i64 0, .int .i64 0, .nils, fv]] [.agg (msC (lgM K (M + p)) .nils (.rs (lfC K (M + p)) (M + p)))] :=
    .cons (.agg (.cons (.int _ _) (.cons (.int _ _) (.cons (.int _ _) (.cons (.int _ _) (.cons (.int _ _) (.cons (.int _ _) (.cons (.bool _) (.cons (.int _ _) (.cons (.int _ _) (.cons (.bool _) (.cons (.int _ _) (.cons (.int _ _) (.cons (.int _ _) (.cons (.int _ _) (.cons .nils (.cons fd.fz .nil))))))))))))))))) .nil
  have hlen := lgB_len K (M + p)
  rw [← hE] at hlen
  simp only [b10, gm, R0, R1, R2, R3, R4, R5, R6, R7, R8, R9, VOp.fresh, bxC, bsC, AV.cells, un, most, callsOf, List.contains_nil, List.contains_cons, beq_iff_eq, List.getElem?_cons_zero, List.getElem?_cons_succ, seval, Option.map_none, Int.reducePow, ↓reduceIte, Nat.reduceEqDiff, reduceCtorEq, and_self]
  have bad : p = 1 → Pu P 25 [.agg (msC (lgM K (M + p)) .nils (.rs (lfC K (M + p)) (M + p)))] (fun v => v = .tup [.str [], .int .i64 1600]) := by
    intro hp1
    by_cases hc : A < 256
    · refine (lgPut_ok g hK2 hK16 (n := M + p) (by omega)).mono ?_
      rintro v rfl
      have : (M + p) * E = (A + 1) * E := by rw [show M + p = A + 1 by omega]
      exact msAns_bad (by rw [hlen]; omega)
    · exact lgPut_not g (by omega) (by omega) (by omega)
  have good : p = 0 → Pu P 25 [.agg (msC (lgM K (M + p)) .nils (.rs (lfC K (M + p)) (M + p)))] (fun v => v = .tup [.str (msB (lgM K (M + p))), .int .i64 0]) := by
    intro hp0
    refine (lgPut_ok g hK2 hK16 (n := M + p) (by omega)).mono ?_
    rintro v rfl
    have : (M + p) * E ≤ A * E := Nat.mul_le_mul_right _ (by omega)
    exact msAns_good (by rw [hlen]; omega)
  rcases (by omega : p = 0 ∨ p = 1) with hp0 | hp1
  · refine (good hp0).cl hfz ?_
    rintro v rfl
    have ep0 : bitsOf .and .i64 many 1 = 0 := by rw [ep, hp0]; rfl
    have c1 : ¬ (0 : Int) = 1 := by omega
    simp only [b1, ep0, c1, R0, R1, R2, R3, R4, R5, R6, R7, R8, R9, VOp.fresh, bxC, bsC, AV.cells, un, most, callsOf, List.contains_nil, List.contains_cons, beq_iff_eq, List.getElem?_cons_zero, List.getElem?_cons_succ, seval, Option.map_none, Int.reducePow, ↓reduceIte, Nat.reduceEqDiff, reduceCtorEq, and_self]
    refine (num_pu g 0).go rfl ?_
    rintro v rfl
    have hME : (M + p) * E = M * E := by rw [hp0, Nat.add_zero]
    have hMEl : M * E ≤ 16354 := Nat.le_trans (Nat.mul_le_mul_right _ (by omega)) hAE
    have w5 : IntKind.i64.wrap ((M : Int) * (E : Int)) = ((M * E : Nat) : Int) := by
      rw [← Int.natCast_mul]
      exact w64 (by omega) (by omega)
    have w6 : IntKind.i64.wrap (30 + ((M * E : Nat) : Int)) = ((30 + M * E : Nat) : Int) := by
      rw [w64 (by omega) (by omega)]; push_cast; rfl
    rw [hME] at hlen
    simp only [b9, b8', w5, w6, hlen, R0, R1, R2, R3, R4, R5, R6, R7, R8, R9, VOp.fresh, bxC, bsC, AV.cells, un, most, callsOf, List.contains_nil, List.contains_cons, beq_iff_eq, List.getElem?_cons_zero, List.getElem?_cons_succ, seval, Option.map_none, Int.reducePow, ↓reduceIte, Nat.reduceEqDiff, reduceCtorEq, and_self]
  · refine (bad hp1).cl hfz ?_
    rintro v rfl
    have ep1 : bitsOf .and .i64 many 1 = 1 := by rw [ep, hp1]; rfl
    simp only [b1, ep1, R0, R1, R2, R3, R4, R5, R6, R7, R8, R9, VOp.fresh, bxC, bsC, AV.cells, un, most, callsOf, List.contains_nil, List.contains_cons, beq_iff_eq, List.getElem?_cons_zero, List.getElem?_cons_succ, seval, Option.map_none, Int.reducePow, ↓reduceIte, Nat.reduceEqDiff, reduceCtorEq, and_self]
    refine (num_pu g 1600).go rfl ?_
    rintro v rfl
    simp only [R0, R1, R2, R3, R4, R5, R6, R7, R8, R9, VOp.fresh, bxC, bsC, AV.cells, un, most, callsOf, List.contains_nil, List.contains_cons, beq_iff_eq, List.getElem?_cons_zero, List.getElem?_cons_succ, seval, Option.map_none, Int.reducePow, ↓reduceIte, Nat.reduceEqDiff, reduceCtorEq, and_self]
end
end Go.Proofs.Ytinonmcnofjeeaa.VM
