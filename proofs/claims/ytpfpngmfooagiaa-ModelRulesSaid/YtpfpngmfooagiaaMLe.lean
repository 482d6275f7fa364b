/- Part of a proof: what stands for the program, and its walk. No condition. -/
import Derived.Below
import Derived.ChangeArms
import Derived.ChangeMaps5
import Derived.Deep.DeepAppendWide
import Derived.Laws.Cells
import Derived.Laws.IdiomCopy
import Derived.MapKept
import Derived.OrdersIn
import Derived.RangeFuncLeaves
import Derived.RangeFuncRecord
import Derived.Shelf.Spec.SlicesInsertGrow
import Derived.SizedLaws
import Derived.WalkKit
import Derived.WalkLawsBesides
import GoSem.Claim
import Derived.Test.YtpfpngmfooagiaaMLd
set_option linter.unusedSimpArgs false
set_option linter.unusedVariables false
set_option linter.defProp false
set_option maxHeartbeats 1000000
namespace Go.Proofs.Ytpfpngmfooagiaa.VM
attribute [local irreducible] Af Nx EvO Ev Un Gd Cd EvR EvQ EvC Nc Gc Lp EvM NxM AfM GdM EvMR EvMQ EvMD EvMC Nm Gm
mutual
theorem sh_told {n : Nat} : ∀ {x : AV}, x.told = true → sh n x = x
  | .undef, _ | .bool _, _ | .int .., _ | .str _, _ | .nilp, _ | .nils, _ | .nilm, _ | .nilf, _ | .rs .., _ | .rp _, _ | .map _, _ | .fn .., _ => rfl
  | .ptr .., h => by simp [AV.told] at h
  | .sl .., h => by simp [AV.told] at h
  | .agg l, h => by rw [sh, shs_tolds (by simpa [AV.told] using h)]
  | .tup l, h => by rw [sh, shs_tolds (by simpa [AV.told] using h)]
theorem shs_tolds {n : Nat} : ∀ {l : List AV}, AV.tolds l = true → shs n l = l
  | [], _ => rfl
  | x :: l, h => by
    simp only [AV.tolds, Bool.and_eq_true] at h
    rw [shs, sh_told h.1, shs_tolds h.2]
end
mutual
theorem sh_bare {n : Nat} : ∀ {x : AV}, (sh n x).bare = x.bare
  | .undef | .bool _ | .int .. | .str _ | .nilp | .nils | .nilm | .nilf | .rs .. | .rp _ | .map _ | .yld _ | .fn .. => rfl
  | .ptr .. => rfl
  | .sl .. => rfl
  | .agg l => by rw [sh]; simp only [AV.bare]; exact shs_bares
  | .tup l => by rw [sh]; simp only [AV.bare]; exact shs_bares
theorem shs_bares {n : Nat} : ∀ {l : List AV}, AV.bares (shs n l) = AV.bares l
  | [] => rfl
  | x :: l => by rw [shs]; simp only [AV.bares]; rw [sh_bare, shs_bares]
end
section
variable {h h0 : Heap} {D : List Nat}
mutual
theorem Fd.laid (hD : ∀ b ∈ D, b < h0.next) : ∀ {x y : AV} {E : List Nat}, Fd h0 x y E → (∀ b ∈ E, b ∈ D) → Fd (VM.laid h h0 D) (sh h.next x) y (E.map (h.next + ·))
  | _, _, _, .told hx, _ => by rw [sh_told hx]; exact .told hx
  | _, _, _, .sl hl hn hg hc t, hE => by
    rw [sh]
    exact .sl hl (by show _ < h.next + h0.next; omega) (laid_new hn (hE _ List.mem_cons_self) hg) (shs_cut hc) (t.laid hD fun b hb => hE b (List.mem_cons_of_mem _ hb))
  | _, _, _, .sl0, _ => by rw [sh]; exact .sl0
  | _, _, _, .ptr hn hg t, hE => by
    rw [sh]
    exact .ptr (by show _ < h.next + h0.next; omega) (laid_new hn (hE _ List.mem_cons_self) hg) (by rw [← shs_drop]; exact t.laid hD fun b hb => hE b (List.mem_cons_of_mem _ hb))
  | _, _, _, .agg t, hE => by rw [sh]; exact .agg (t.laid hD hE)
  | _, _, _, .tup t, hE => by rw [sh]; exact .tup (t.laid hD hE)
theorem Fds.laid (hD : ∀ b ∈ D, b < h0.next) : ∀ {x y : List AV} {E : List Nat}, Fds h0 x y E → (∀ b ∈ E, b ∈ D) → Fds (VM.laid h h0 D) (shs h.next x) y (E.map (h.next + ·))
  | _, _, _, .nil, _ => .nil
  | _, _, _, .cons f t, hE => by
    rw [shs, List.map_append]
    exact .cons (f.laid hD fun b hb => hE b (List.mem_append_left _ hb)) (t.laid hD fun b hb => hE b (List.mem_append_right _ hb))
end
end
section
variable {P : Program}
theorem Cl.laid {f : Nat} {args args' : List AV} {h : Heap} {R : AV → Prop} {Q : AV → Heap → Prop} (ha : Fzs true h args args') (c : Cl P f args' ⟨0, .e⟩ fun v h0 => ∃ t, Lv h0 (fun _ => True) v t ∧ R t)
    (q : ∀ v t h', Lv h' (h.next ≤ ·) v t → R t → Ext h h' → Q v h') : Cl P f args h Q := by
  obtain ⟨v, h0, o, t, ⟨D, fd, hb, own, _⟩, hR⟩ := c
  have hlt := fd.lt
  refine ⟨_, _, OK.laid ha o hb own hlt, q _ t _ ⟨D.map (h.next + ·), fd.laid hlt fun b hb => hb, by rw [sh_bare]; exact hb, ?_, ?_⟩ hR (laid_ext h h0 D)⟩
  · intro b hb'
    obtain ⟨d, hd, rfl⟩ := List.mem_map.1 hb'
    obtain ⟨l, e, ver, g1, g2⟩ := own d hd
    exact ⟨_, e, ver, laid_new (hlt d hd) hd g1, by rw [shs_bares]; exact g2⟩
  · intro b hb'
    obtain ⟨d, hd, rfl⟩ := List.mem_map.1 hb'
    exact Nat.le_add_right _ _
end
end Go.Proofs.Ytpfpngmfooagiaa.VM
namespace Go.Proofs.Ytpfpngmfooagiaa.VM
attribute [local irreducible] Af Nx EvO Ev Un Gd Cd EvR EvQ EvC Nc Gc Lp EvM NxM AfM GdM EvMR EvMQ EvMD EvMC Nm Gm
def bxOk (a b c d : Int) : Prop := 0 ≤ a ∧ a ≤ 4294967295 ∧ 0 ≤ b ∧ b ≤ 4294967295 ∧ 0 ≤ c ∧ c ≤ 4294967295 ∧ 0 ≤ d ∧ d ≤ 4294967295 ∧ a ≤ c ∧ b ≤ d
instance (a b c d : Int) : Decidable (bxOk a b c d) := by unfold bxOk; infer_instance
section
variable {P : Program}
theorem coord6_pu (g : Pg P tab) (a : Int) : Pu P 36 [.int .i64 a] (fun v => v = .bool (decide (0 ≤ a ∧ a ≤ 4294967295))) := by
  refine g.pu (vf := v36) rfl rfl ?_
  simp +contextual (maxSteps := 2000000) (disch := omega) only [v36, RX, VOp.fresh, bxC, bsC, un, most, callsOf, seval, Int.reducePow, ↓reduceIte, Nat.reduceEqDiff, reduceCtorEq]
theorem boxMay_pu (g : Pg P tab) (a b c d : Int) : Pu P 24 [.agg [.int .i64 a, .int .i64 b, .int .i64 c, .int .i64 d]] (fun v => v = .bool (decide (bxOk a b c d))) := by
  refine g.pu (vf := v24) rfl rfl ?_
  simp only [v24, RX, VOp.fresh, bxC, bsC, un, most, callsOf, seval, Int.reducePow, ↓reduceIte, Nat.reduceEqDiff, reduceCtorEq]
  refine (coord6_pu g _).go rfl ?_
  rintro v rfl
  by_cases h1 : 0 ≤ a ∧ a ≤ 4294967295
  · simp only [h1, RX, VOp.fresh, bxC, bsC, un, most, callsOf, seval, Int.reducePow, ↓reduceIte, Nat.reduceEqDiff, reduceCtorEq]
    refine (coord6_pu g _).go rfl ?_
    rintro v rfl
    by_cases h2 : 0 ≤ b ∧ b ≤ 4294967295
    · simp only [h2, RX, VOp.fresh, bxC, bsC, un, most, callsOf, seval, Int.reducePow, ↓reduceIte, Nat.reduceEqDiff, reduceCtorEq]
      refine (coord6_pu g _).go rfl ?_
      rintro v rfl
      by_cases h3 : 0 ≤ c ∧ c ≤ 4294967295
      · simp only [h3, RX, VOp.fresh, bxC, bsC, un, most, callsOf, seval, Int.reducePow, ↓reduceIte, Nat.reduceEqDiff, reduceCtorEq]
        refine (coord6_pu g _).go rfl ?_
        rintro v rfl
        by_cases h4 : 0 ≤ d ∧ d ≤ 4294967295
        · simp +contextual (maxSteps := 2000000) only [h4, bxOk, h1, h2, h3, RX, VOp.fresh, bxC, bsC, un, most, callsOf, seval, Int.reducePow, ↓reduceIte, Nat.reduceEqDiff, reduceCtorEq]
        · have f : ¬ bxOk a b c d := fun z => by unfold bxOk at z; omega
          simp only [h4, f, RX, VOp.fresh, bxC, bsC, un, most, callsOf, seval, Int.reducePow, ↓reduceIte, Nat.reduceEqDiff, reduceCtorEq]
      · have f : ¬ bxOk a b c d := fun z => by unfold bxOk at z; omega
        simp only [h3, f, RX, VOp.fresh, bxC, bsC, un, most, callsOf, seval, Int.reducePow, ↓reduceIte, Nat.reduceEqDiff, reduceCtorEq]
    · have f : ¬ bxOk a b c d := fun z => by unfold bxOk at z; omega
      simp only [h2, f, RX, VOp.fresh, bxC, bsC, un, most, callsOf, seval, Int.reducePow, ↓reduceIte, Nat.reduceEqDiff, reduceCtorEq]
  · have f : ¬ bxOk a b c d := fun z => by unfold bxOk at z; omega
    simp only [h1, f, RX, VOp.fresh, bxC, bsC, un, most, callsOf, seval, Int.reducePow, ↓reduceIte, Nat.reduceEqDiff, reduceCtorEq]
end
end Go.Proofs.Ytpfpngmfooagiaa.VM
namespace Go.Proofs.Ytpfpngmfooagiaa.VM
attribute [local irreducible] Af Nx EvO Ev Un Gd Cd EvR EvQ EvC Nc Gc Lp EvM NxM AfM GdM EvMR EvMQ EvMD EvMC Nm Gm
section
variable {P : Program}
def aPt (p : Pt) : AV := .agg [.int .i64 p.x, .int .i64 p.y]
/-- what lay there lies there still -/
theorem pt_loop (g : Pg P tab) {ring : List Pt} {rv : AV} (hv : IsL 16 RPt rv ring) {yb : Nat} {J : List Pt → Heap → Prop} {Jx : Heap → Prop} (hJ : ∀ {pre h h'}, J pre h → Ext h h' → J pre h') (pre : List Pt)
    (hY : ∀ i h, i < ring.length → J (pre ++ ring.take i) h → Cl P (yf yb) [aPt (ring.getD i ⟨0, 0⟩)] h fun w h' => (w = .bool true ∧ J (pre ++ ring.take (i + 1)) h') ∨ (w = .bool false ∧ Jx h')) {v10 : AV} {i12 : Int} {n11 : Int} (n : Nat) :
    ∀ (j : Nat) (s : T AV) (h : Heap) (k : List Fr) (Q : Ex → T AV → Heap → Prop), j + n = ring.length → sg s 0 = .yld yb → sg s 16 = rv → sg s 17 = .int .i64 ring.length → sg s 18 = .int .i64 j → sg s 10 = v10 → sg s 11 = .int .i64 n11 → sg s 12 = .int .i64 i12 →
    J (pre ++ ring.take j) h →
    (∀ s' h', sg s' 0 = .yld yb → sg s' 10 = v10 → sg s' 11 = .int .i64 n11 → sg s' 12 = .int .i64 i12 → J (pre ++ ring) h' → Un P k Q (.exit 2) s' h') → (∀ s' h', Jx h' → Un P k Q .ret s' h') → Lp P b56_0 s h (Un P k Q) := by
  have hbd := hv.bound (by decide)
  induction n with
  | zero =>
    intro j s h k Q hn t0 t16 t17 t18 t10 t11 t12 hj hK hR
    refine g.lpe b56_0.eq_1 ?_
    have c1 : ¬ ((j : Int) < (ring.length : Int)) := by omega
    simp only [t17, t18, c1, RX, VOp.fresh, bxC, bsC, un, most, callsOf, seval, Int.reducePow, ↓reduceIte, Nat.reduceEqDiff, reduceCtorEq]
    rw [List.take_of_length_le (by omega)] at hj
    refine hK _ _ ?_ ?_ ?_ ?_ hj
    · simp only [t0, sg_set, Nat.reduceEqDiff, ↓reduceIte]
    · simp only [t10, sg_set, Nat.reduceEqDiff, ↓reduceIte]
    · simp only [t11, sg_set, Nat.reduceEqDiff, ↓reduceIte]
    · simp only [t12, sg_set, Nat.reduceEqDiff, ↓reduceIte]
  | succ n ih =>
    intro j s h k Q hn t0 t16 t17 t18 t10 t11 t12 hj hK hR
    refine g.lpe b56_0.eq_1 ?_
    have c1 : (j : Int) < (ring.length : Int) := by omega
    have w1 : IntKind.i64.wrap ((j : Int) + 1) = ((j + 1 : Nat) : Int) := by rw [w64 (by omega) (by omega)]; push_cast; rfl
    obtain ⟨r1, _, g1⟩ := getPt hv j (by omega)
    simp only [t0, t16, t17, t18, c1, g1, RW, RX, VOp.fresh, bxC, bsC, un, most, callsOf, seval, Int.reducePow, ↓reduceIte, Nat.reduceEqDiff, reduceCtorEq]
    have x1 : Ext h ((h.mk' h.next (.cells [.int .i64 0, .int .i64 0] 47 0)).put h.next (.cells [.int .i64 (ring.getD j ⟨0, 0⟩).x, .int .i64 (ring.getD j ⟨0, 0⟩).y] 47 1)) := ⟨by rw [put_next, mk_next]; omega, fun b hb => by rw [Heap.get_put, if_neg (by omega), Heap.get_mk, if_neg (by omega)]⟩
    refine (hY j _ (by omega) (hJ hj x1)).mono ?_
    rintro w h2 (⟨rfl, hj2⟩ | ⟨rfl, hx⟩)
    · simp only [t18, w1, RX, VOp.fresh, bxC, bsC, un, most, callsOf, seval, Int.reducePow, ↓reduceIte, Nat.reduceEqDiff, reduceCtorEq]
      refine ih (j + 1) _ _ k Q (by omega) ?_ ?_ ?_ ?_ ?_ ?_ ?_ hj2 hK hR
      · simp only [t0, sg_set, Nat.reduceEqDiff, ↓reduceIte]
      · simp only [t16, sg_set, Nat.reduceEqDiff, ↓reduceIte]
      · simp only [t17, sg_set, Nat.reduceEqDiff, ↓reduceIte]
      · simp only [sg_set, Nat.reduceEqDiff, ↓reduceIte]
      · simp only [t10, sg_set, Nat.reduceEqDiff, ↓reduceIte]
      · simp only [t11, sg_set, Nat.reduceEqDiff, ↓reduceIte]
      · simp only [t12, sg_set, Nat.reduceEqDiff, ↓reduceIte]
    · simp only [RX, VOp.fresh, bxC, bsC, un, most, callsOf, seval, Int.reducePow, ↓reduceIte, Nat.reduceEqDiff, reduceCtorEq]
      exact hR _ _ hx
theorem pts_loop (g : Pg P tab) {rs : List (List Pt)} {v : AV} (hv : IsL 24 RRing v rs) {yb : Nat} {J : List Pt → Heap → Prop} {Jx : Heap → Prop} (hJ : ∀ {pre h h'}, J pre h → Ext h h' → J pre h')
    (hY : ∀ pre p h, pre ++ [p] <+: rs.flatten → J pre h → Cl P (yf yb) [aPt p] h fun w h' => (w = .bool true ∧ J (pre ++ [p]) h') ∨ (w = .bool false ∧ Jx h')) (n : Nat) :
    ∀ (i : Nat) (s : T AV) (h : Heap) (k : List Fr) (Q : Ex → T AV → Heap → Prop), i + n = rs.length → sg s 0 = .yld yb → sg s 10 = v → sg s 11 = .int .i64 rs.length → sg s 12 = .int .i64 i →
    J (rs.take i).flatten h → (∀ s' h', J rs.flatten h' → Un P k Q (.exit 0) s' h') → (∀ s' h', Jx h' → Un P k Q .ret s' h') → Lp P b56_1 s h (Un P k Q) := by
  have hbd := hv.bound (by decide)
  induction n with
  | zero =>
    intro i s h k Q hn t0 t10 t11 t12 hj hK hR
    refine g.lpe b56_1.eq_1 ?_
    have c1 : ¬ ((i : Int) < (rs.length : Int)) := by omega
    simp only [t11, t12, c1, RX, VOp.fresh, bxC, bsC, un, most, callsOf, seval, Int.reducePow, ↓reduceIte, Nat.reduceEqDiff, reduceCtorEq]
    rw [List.take_of_length_le (by omega)] at hj
    exact hK _ _ hj
  | succ n ih =>
    intro i s h k Q hn t0 t10 t11 t12 hj hK hR
    refine g.lpe b56_1.eq_1 ?_
    have c1 : (i : Int) < (rs.length : Int) := by omega
    have w1 : IntKind.i64.wrap ((i : Int) + 1) = ((i + 1 : Nat) : Int) := by rw [w64 (by omega) (by omega)]; push_cast; rfl
    obtain ⟨rv, r1, hrv, _, g1⟩ := getRing hv i (by omega)
    have hi : i < rs.length := by omega
    have e1 : rs.getD i [] = rs[i] := getD_ring hi
    have ef : (rs.take (i + 1)).flatten = (rs.take i).flatten ++ rs.getD i [] := by
      rw [List.take_succ_eq_append_getElem hi, List.flatten_append, e1]; simp
    have eg : rs.flatten = (rs.take (i + 1)).flatten ++ (rs.drop (i + 1)).flatten := by
      rw [← List.flatten_append, List.take_append_drop]
    simp only [t0, t10, t11, t12, c1, g1, hrv.len, RX, VOp.fresh, bxC, bsC, un, most, callsOf, seval, Int.reducePow, ↓reduceIte, Nat.reduceEqDiff, reduceCtorEq]
    refine pt_loop g hrv (yb := yb) (J := J) (Jx := Jx) hJ (rs.take i).flatten (v10 := v) (i12 := i) (n11 := rs.length) (fun j h hjl hj => ?_) (rs.getD i []).length 0 _ _ _ _ (by omega) ?_ ?_ ?_ ?_ ?_ ?_ ?_ (by simpa using hj) (fun s' h' u0 u10 u11 u12 hj' => ?_) (fun s' h' hx => ?_)
    · have et : (rs.getD i []).take (j + 1) = (rs.getD i []).take j ++ [(rs.getD i []).getD j ⟨0, 0⟩] := by
        rw [List.take_succ_eq_append_getElem hjl, getP hjl]
      rw [et, ← List.append_assoc]
      refine hY _ _ h ?_ hj
      rw [List.append_assoc, ← et, eg, ef]
      exact ⟨(rs.getD i []).drop (j + 1) ++ (rs.drop (i + 1)).flatten, by rw [List.append_assoc, ← List.append_assoc ((rs.getD i []).take (j + 1)), List.take_append_drop, List.append_assoc]⟩
    · simp only [t0, sg_set, Nat.reduceEqDiff, ↓reduceIte]
    · simp only [sg_set, Nat.reduceEqDiff, ↓reduceIte]
    · simp only [sg_set, Nat.reduceEqDiff, ↓reduceIte]
    · simp only [sg_set, Nat.reduceEqDiff, ↓reduceIte]
      rfl
    · simp only [t10, sg_set, Nat.reduceEqDiff, ↓reduceIte]
    · simp only [t11, sg_set, Nat.reduceEqDiff, ↓reduceIte]
    · simp only [t12, sg_set, Nat.reduceEqDiff, ↓reduceIte]
    · simp only [u12, w1, RX, VOp.fresh, bxC, bsC, un, most, callsOf, seval, Int.reducePow, ↓reduceIte, Nat.reduceEqDiff, reduceCtorEq]
      refine ih (i + 1) _ _ k Q (by omega) ?_ ?_ ?_ ?_ (by rw [ef]; exact hj') hK hR
      · simp only [u0, sg_set, Nat.reduceEqDiff, ↓reduceIte]
      · simp only [u10, sg_set, Nat.reduceEqDiff, ↓reduceIte]
      · simp only [u11, sg_set, Nat.reduceEqDiff, ↓reduceIte]
      · simp only [sg_set, Nat.reduceEqDiff, ↓reduceIte]
    · simp only [RX, VOp.fresh, bxC, bsC, un, most, callsOf, seval, Int.reducePow, ↓reduceIte, Nat.reduceEqDiff, reduceCtorEq]
      exact hR _ _ hx
/-- the iterator over all points -/
theorem pts_cl (g : Pg P tab) {rs : List (List Pt)} {v a0 a1 : AV} (hv : IsL 24 RRing v rs) {yb bb fb e1 e2 n1 n2 : Nat} {J : List Pt → Heap → Prop} {Jx : Heap → Prop} (hJ : ∀ {pre h h'}, J pre h → Ext h h' → J pre h')
    (hY : ∀ pre p h, pre ++ [p] <+: rs.flatten → J pre h → Cl P (yf yb) [aPt p] h fun w h' => (w = .bool true ∧ J (pre ++ [p]) h') ∨ (w = .bool false ∧ Jx h'))
    {h : Heap} (g1 : h.get bb = some (.cells [.ptr fb 0] e1 n1)) (g2 : h.get fb = some (.cells [a0, a1, v] e2 n2)) (hj : J [] h) :
    Cl P 56 [.yld yb, .ptr bb 0] h fun _ h' => J rs.flatten h' ∨ Jx h' := by
  refine g.cl (vf := v56) rfl rfl ?_
  simp only [v56, g1, g2, hv.len, RX, VOp.fresh, bxC, bsC, un, most, callsOf, seval, Int.reducePow, ↓reduceIte, Nat.reduceEqDiff, reduceCtorEq]
  refine pts_loop g hv (J := J) (Jx := Jx) hJ hY rs.length 0 _ _ _ _ (by omega) ?_ ?_ ?_ ?_ (by simpa using hj) (fun s' h' hj' => ?_) (fun s' h' hx => ?_)
  · simp only [sg_set, Nat.reduceEqDiff, ↓reduceIte]
  · simp only [sg_set, Nat.reduceEqDiff, ↓reduceIte]
  · simp only [sg_set, Nat.reduceEqDiff, ↓reduceIte]
  · simp only [sg_set, Nat.reduceEqDiff, ↓reduceIte]
    rfl
  · simp only [v56, RX, VOp.fresh, bxC, bsC, un, most, callsOf, seval, Int.reducePow, ↓reduceIte, Nat.reduceEqDiff, reduceCtorEq]
    exact .inl hj'
  · simp only [v56, RX, VOp.fresh, bxC, bsC, un, most, callsOf, seval, Int.reducePow, ↓reduceIte, Nat.reduceEqDiff, reduceCtorEq]
    exact .inr hx
theorem pts_mk (g : Pg P tab) {fb : Nat} {h : Heap} : Cl P 37 [.ptr fb 0] h fun w h' => w = .fn 56 [.ptr h.next 0] ∧ h' = h.mk' h.next (.cells [.ptr fb 0] 79 0) := by
  refine g.cl (vf := v37) rfl rfl ?_
  simp only [v37, RX, VOp.fresh, bxC, bsC, un, most, callsOf, seval, Int.reducePow, ↓reduceIte, Nat.reduceEqDiff, reduceCtorEq]
end
end Go.Proofs.Ytpfpngmfooagiaa.VM
namespace Go.Proofs.Ytpfpngmfooagiaa.VM
attribute [local irreducible] Af Nx EvO Ev Un Gd Cd EvR EvQ EvC Nc Gc Lp EvM NxM AfM GdM EvMR EvMQ EvMD EvMC Nm Gm
def aBx (b : Bx) : AV := .agg [.int .i64 b.x0, .int .i64 b.y0, .int .i64 b.x1, .int .i64 b.y1]
def imn (x y : Int) : Int := if y < x then y else x
def imx (x y : Int) : Int := if y > x then y else x
def bxPt (p : Pt) : Bx := ⟨p.x, p.y, p.x, p.y⟩
def bxJ (a b : Bx) : Bx := ⟨imn a.x0 b.x0, imn a.y0 b.y0, imx a.x1 b.x1, imx a.y1 b.y1⟩
def bxAll (l : List Pt) (b : Bx) : Bx := l.foldl (fun b p => bxJ b (bxPt p)) b
def fPts (f : Feat) : List Pt := f.rings.flatten
def fBox (f : Feat) : Bx := bxAll (fPts f) (bxPt ((f.rings.getD 0 []).getD 0 ⟨0, 0⟩))
def bOk (b : Bx) : Prop := bxOk b.x0 b.y0 b.x1 b.y1
instance (b : Bx) : Decidable (bOk b) := by unfold bOk; infer_instance
theorem imn_le (x y : Int) : imn x y ≤ x ∧ imn x y ≤ y ∧ (imn x y = x ∨ imn x y = y) := by unfold imn; split <;> omega
theorem imx_le (x y : Int) : x ≤ imx x y ∧ y ≤ imx x y ∧ (imx x y = x ∨ imx x y = y) := by unfold imx; split <;> omega
theorem bxJ_ok {a b : Bx} (h : bOk a) (k : bOk b) : bOk (bxJ a b) := by
  unfold bOk bxOk at *
  have h1 := imn_le a.x0 b.x0
  have h2 := imn_le a.y0 b.y0
  have h3 := imx_le a.x1 b.x1
  have h4 := imx_le a.y1 b.y1
  simp only [bxJ]
  omega
theorem bxPt_ok {p : Pt} (h : ptOk p) : bOk (bxPt p) := by
  unfold bOk bxOk bxPt
  unfold ptOk coordOk at h
  simp only
  omega
theorem featOk.first {f : Feat} (h : featOk f) : 0 < f.rings.length ∧ 0 < (f.rings.getD 0 []).length := by
  obtain ⟨_, _, h1, _, h2⟩ := h
  refine ⟨by omega, ?_⟩
  rcases h2 with ⟨_, _, h3, _⟩ | ⟨_, _, h3⟩ | ⟨_, h3⟩
  · omega
  · have := h3.1; omega
  · have := (h3 0 (by omega)).1; omega
theorem featOk.pts {f : Feat} (h : featOk f) : ∀ p ∈ fPts f, ptOk p := by
  intro p hp
  obtain ⟨_, _, h1, _, h2⟩ := h
  obtain ⟨r, hr, hp⟩ := List.mem_flatten.1 hp
  obtain ⟨i, hi, rfl⟩ := List.getElem_of_mem hr
  obtain ⟨j, hj, rfl⟩ := List.getElem_of_mem hp
  have e : f.rings.getD i [] = f.rings[i] := getD_ring hi
  rcases h2 with ⟨_, h3, h4, h5⟩ | ⟨_, h3, h4⟩ | ⟨_, h3⟩
  · obtain rfl : i = 0 := by omega
    rw [e] at h4 h5
    obtain rfl : j = 0 := by omega
    rwa [getP hj] at h5
  · obtain rfl : i = 0 := by omega
    rw [e] at h4
    have := (h4.2.2 j hj).1
    rwa [getP hj] at this
  · have h4 := h3 i hi
    rw [e] at h4
    have := (h4.2.2 j hj).1
    rwa [getP hj] at this
theorem fmin {k : IntKind} {x y : Int} : foldO min2 (.int k x) [.int k y] = some (.int k (imn x y)) := rfl
theorem fmax {k : IntKind} {x y : Int} : foldO max2 (.int k x) [.int k y] = some (.int k (imx x y)) := rfl
section
variable {P : Program}
theorem between_pu (g : Pg P tab) (p q : Pt) : Pu P 67 [aPt p, aPt q] (fun v => v = aBx ⟨imn p.x q.x, imn p.y q.y, imx p.x q.x, imx p.y q.y⟩) := by
  refine g.pu (vf := v67) rfl rfl ?_
  simp only [v67, aPt, aBx, fmin, fmax, RW, RX, VOp.fresh, bxC, bsC, un, most, callsOf, seval, Int.reducePow, ↓reduceIte, Nat.reduceEqDiff, reduceCtorEq]
  exact ⟨_, .agg (scals_fz rfl), rfl⟩
theorem join_pu (g : Pg P tab) (a b : Bx) : Pu P 68 [aBx a, aBx b] (fun v => v = if bOk a ∧ bOk b then .tup [aBx (bxJ a b), .int .i64 0] else .tup [aBx ⟨0, 0, 0, 0⟩, .int .i64 300]) := by
  refine g.pu (vf := v68) rfl rfl ?_
  simp only [v68, aBx, RW, RX, VOp.fresh, bxC, bsC, un, most, callsOf, seval, Int.reducePow, ↓reduceIte, Nat.reduceEqDiff, reduceCtorEq]
  refine (boxMay_pu g a.x0 a.y0 a.x1 a.y1).go rfl ?_
  rintro _ rfl
  by_cases ha : bOk a
  · have ha' : decide (bxOk a.x0 a.y0 a.x1 a.y1) = true := decide_eq_true ha
    rw [ha']
    simp only [RX, VOp.fresh, bxC, bsC, un, most, callsOf, seval, Int.reducePow, ↓reduceIte, Nat.reduceEqDiff, reduceCtorEq]
    refine (boxMay_pu g b.x0 b.y0 b.x1 b.y1).go rfl ?_
    rintro _ rfl
    by_cases hb : bOk b
    · have hb' : decide (bxOk b.x0 b.y0 b.x1 b.y1) = true := decide_eq_true hb
      rw [hb']
      simp only [fmin, fmax, bxJ, ha, hb, RW, RX, VOp.fresh, bxC, bsC, un, most, callsOf, seval, Int.reducePow, ↓reduceIte, Nat.reduceEqDiff, reduceCtorEq]
      exact ⟨_, .tup (.cons (.agg (scals_fz rfl)) (.cons (.int _ _) .nil)), rfl⟩
    · have hb' : decide (bxOk b.x0 b.y0 b.x1 b.y1) = false := decide_eq_false hb
      rw [hb']
      simp only [ha, hb, RW, RX, VOp.fresh, bxC, bsC, un, most, callsOf, seval, Int.reducePow, ↓reduceIte, Nat.reduceEqDiff, reduceCtorEq]
      exact ⟨_, .tup (.cons (.agg (scals_fz rfl)) (.cons (.int _ _) .nil)), rfl⟩
  · have ha' : decide (bxOk a.x0 a.y0 a.x1 a.y1) = false := decide_eq_false ha
    rw [ha']
    simp only [ha, RW, RX, VOp.fresh, bxC, bsC, un, most, callsOf, seval, Int.reducePow, ↓reduceIte, Nat.reduceEqDiff, reduceCtorEq]
    exact ⟨_, .tup (.cons (.agg (scals_fz rfl)) (.cons (.int _ _) .nil)), rfl⟩
theorem bxAll_ok : ∀ {l : List Pt} {b : Bx}, (∀ p ∈ l, ptOk p) → bOk b → bOk (bxAll l b)
  | [], _, _, h => h
  | p :: l, b, hl, h => bxAll_ok (l := l) (fun q hq => hl q (.tail _ hq)) (bxJ_ok h (bxPt_ok (hl p (.head _))))
theorem bxAll_snoc (l : List Pt) (p : Pt) (b : Bx) : bxAll (l ++ [p]) b = bxJ (bxAll l b) (bxPt p) := by simp [bxAll]
/-- where the rounds stand -/
structure BoxJ (r : LoopB) (N ob tb : Nat) (b0 : Bx) (pre : List Pt) (h : Heap) : Prop where
  lt : N < h.next ∧ ob < N ∧ tb < N ∧ ob ≠ tb
  lp : h.get N = some (.loop r)
  out : ∃ ver, h.get ob = some (.cells [.int .i64 0, .int .i64 0, .int .i64 0, .int .i64 0] 45 ver)
  box : ∃ ver, h.get tb = some (.cells [.int .i64 (bxAll pre b0).x0, .int .i64 (bxAll pre b0).y0, .int .i64 (bxAll pre b0).x1, .int .i64 (bxAll pre b0).y1] 45 ver)
theorem BoxJ.ext {r : LoopB} {N ob tb : Nat} {b0 : Bx} {pre : List Pt} {h h' : Heap} (j : BoxJ r N ob tb b0 pre h) (x : Ext h h') : BoxJ r N ob tb b0 pre h' := by
  obtain ⟨h1, h2, h3, h4⟩ := j.lt
  refine ⟨⟨Nat.lt_of_lt_of_le h1 x.1, h2, h3, h4⟩, by rw [x.2 _ h1]; exact j.lp, ?_, ?_⟩
  · obtain ⟨v, e⟩ := j.out
    exact ⟨v, by rw [x.2 _ (by omega)]; exact e⟩
  · obtain ⟨v, e⟩ := j.box
    exact ⟨v, by rw [x.2 _ (by omega)]; exact e⟩
theorem box_round (g : Pg P tab) {s : T AV} {N ob tb : Nat} (t4 : sg s 4 = .ptr tb 0) {b0 : Bx} (hb0 : bOk b0) {pre : List Pt} {p : Pt} (hpre : ∀ q ∈ pre, ptOk q) (hp : ptOk p) {r : LoopB} (hr : r = ⟨P, s, [24], b47_0, b47_1, 0, none⟩) {h : Heap} (j : BoxJ r N ob tb b0 pre h) :
    Cl P (yf N) [aPt p] h fun w h' => (w = .bool true ∧ BoxJ r N ob tb b0 (pre ++ [p]) h') ∨ (w = .bool false ∧ False) := by
  obtain ⟨l1, l2, l3, l4⟩ := j.lt
  refine yield_cl g.hm j.lp (by rw [hr]) (by rw [hr]) (by rw [hr]) (by rw [hr]; rfl) (by rw [hr]; rfl) (by rw [hr]; rfl) ?_
  rw [show r.asg = b47_0 by rw [hr], show r.body = b47_1 by rw [hr], show setps r.ps [aPt p] r.s = s.set 24 (aPt p) by rw [hr]; rfl]
  simp only [b47_0, aPt, RW, RX, VOp.fresh, bxC, bsC, un, most, callsOf, seval, Int.reducePow, ↓reduceIte, Nat.reduceEqDiff, reduceCtorEq]
  have e1 : ¬ N = h.next := by omega
  have e2 : ¬ tb = h.next := by omega
  have e3 : ¬ tb = N := by omega
  have e4 : ¬ h.next = N := by omega
  obtain ⟨vo, go⟩ := j.out
  obtain ⟨vb, gb⟩ := j.box
  refine ⟨by simp only [e1, if_false]; exact j.lp, ?_⟩
  obtain ⟨h1, eh1⟩ : ∃ h1, h1 = (((h.mk' h.next (.cells [.int .i64 0, .int .i64 0] 47 0)).put h.next (.cells [.int .i64 p.x, .int .i64 p.y] 47 1)).put N (.loop r.busy)) := ⟨_, rfl⟩
  have k1 : h1.get h.next = some (.cells [.int .i64 p.x, .int .i64 p.y] 47 1) := by rw [eh1, Heap.get_put, if_neg e4, Heap.get_put, if_pos rfl]
  have k2 : h1.get tb = h.get tb := by rw [eh1, Heap.get_put, if_neg e3, Heap.get_put, if_neg e2, Heap.get_mk, if_neg e2]
  have k3 : h1.get N = some (.loop r.busy) := by rw [eh1, Heap.get_put, if_pos rfl]
  rw [← eh1]
  have ie : ∀ x : Int, imn x x = x ∧ imx x x = x := fun x => by unfold imn imx; constructor <;> split <;> rfl
  have hB := bxAll_ok hpre hb0
  generalize hBe : bxAll pre b0 = B at gb hB
  have o89 : OK P 67 [.agg [.int .i64 p.x, .int .i64 p.y], .agg [.int .i64 p.x, .int .i64 p.y]] h1 (.agg [.int .i64 p.x, .int .i64 p.y, .int .i64 p.x, .int .i64 p.y]) h1 := by
    have := (between_pu g p p).exact (h := h1) rfl
    rwa [(ie p.x).1, (ie p.x).2, (ie p.y).1, (ie p.y).2] at this
  have o91 : OK P 68 [.agg [.int .i64 B.x0, .int .i64 B.y0, .int .i64 B.x1, .int .i64 B.y1], .agg [.int .i64 p.x, .int .i64 p.y, .int .i64 p.x, .int .i64 p.y]] h1 (.tup [.agg [.int .i64 (bxJ B (bxPt p)).x0, .int .i64 (bxJ B (bxPt p)).y0, .int .i64 (bxJ B (bxPt p)).x1, .int .i64 (bxJ B (bxPt p)).y1], .int .i64 0]) h1 := by
    have := (join_pu g B (bxPt p)).exact (h := h1) rfl
    rwa [if_pos ⟨hB, bxPt_ok hp⟩] at this
  obtain ⟨c, c1, c2⟩ : ∃ c : Nat → List AV → Heap → AV × Heap, (∀ a h, c 67 a h = (.agg [.int .i64 p.x, .int .i64 p.y, .int .i64 p.x, .int .i64 p.y], h)) ∧ (∀ a h, c 68 a h = (.tup [.agg [.int .i64 (bxJ B (bxPt p)).x0, .int .i64 (bxJ B (bxPt p)).y0, .int .i64 (bxJ B (bxPt p)).x1, .int .i64 (bxJ B (bxPt p)).y1], .int .i64 0], h)) :=
    ⟨fun f _ h => if f = 67 then (.agg [.int .i64 p.x, .int .i64 p.y, .int .i64 p.x, .int .i64 p.y], h) else (.tup [.agg [.int .i64 (bxJ B (bxPt p)).x0, .int .i64 (bxJ B (bxPt p)).y0, .int .i64 (bxJ B (bxPt p)).x1, .int .i64 (bxJ B (bxPt p)).y1], .int .i64 0], h), fun _ _ => rfl, fun _ _ => rfl⟩
  simp only [b47_1, RW, RX, VOp.fresh, bxC, bsC, un, most, callsOf, seval, Int.reducePow, ↓reduceIte, Nat.reduceEqDiff, reduceCtorEq]
  refine EvD.sameN 5 c rfl ?_
  simp only [t4, k1, k2, gb, c1, c2, o89, o91, RW, RX, VOp.fresh, bxC, bsC, un, most, callsOf, seval, Int.reducePow, ↓reduceIte, Nat.reduceEqDiff, reduceCtorEq]
  have hn1 : h1.next = h.next + 1 := by rw [eh1, put_next, put_next, mk_next]; omega
  have ko : h1.get ob = h.get ob := by rw [eh1, Heap.get_put, if_neg (by omega), Heap.get_put, if_neg (by omega), Heap.get_mk, if_neg (by omega)]
  refine ⟨by rw [if_neg (fun e => e3 e.symm)]; exact k3, .inl ⟨rfl, ⟨?_, ?_, ⟨vo, ?_⟩, ⟨vb + 1, ?_⟩⟩⟩⟩
  · rw [put_next, put_next, hn1]; omega
  · rw [Heap.get_put, if_pos rfl]
  · rw [Heap.get_put, if_neg (by omega), Heap.get_put, if_neg l4, ko]; exact go
  · rw [Heap.get_put, if_neg e3, Heap.get_put, if_pos rfl, bxAll_snoc, hBe]
theorem box_go (g : Pg P tab) {f : Feat} {v a0 a1 : AV} (hv : IsL 24 RRing v f.rings) (ho : featOk f) {s : T AV} {N M fb ob tb e1 n1 e2 n2 n3 n4 : Nat} (t4 : sg s 4 = .ptr tb 0) {h : Heap} (hN : h.next = N) (gM : h.get M = some (.cells [.ptr fb 0] e1 n1)) (gf : h.get fb = some (.cells [a0, a1, v] e2 n2))
    (l0 : M < N ∧ fb < N ∧ ob < N ∧ tb < N ∧ ob ≠ tb) (go1 : h.get ob = some (.cells [.int .i64 0, .int .i64 0, .int .i64 0, .int .i64 0] 45 n3)) {b0 : Bx} (hb0 : bOk b0) (gb : h.get tb = some (.cells [.int .i64 b0.x0, .int .i64 b0.y0, .int .i64 b0.x1, .int .i64 b0.y1] 45 n4)) {Q : Ex → T AV → Heap → Prop}
    (hQ : ∀ h' v1 v2, h'.get ob = some (.cells [.int .i64 0, .int .i64 0, .int .i64 0, .int .i64 0] 45 v1) → h'.get tb = some (.cells [.int .i64 (bxAll (fPts f) b0).x0, .int .i64 (bxAll (fPts f) b0).y0, .int .i64 (bxAll (fPts f) b0).x1, .int .i64 (bxAll (fPts f) b0).y1] 45 v2) → Q .normal s h') :
    56 < YB ∧ Cl P 56 [.yld N, .ptr M 0] (h.mk' N (.loop ⟨P, s, [24], b47_0, b47_1, 0, none⟩)) fun _ h2 => LoopEnd N s h2 Q := by
  obtain ⟨q1, q2, q3, q4, q5⟩ := l0
  refine ⟨by decide, ?_⟩
  obtain ⟨r, hr⟩ : ∃ r : LoopB, r = ⟨P, s, [24], b47_0, b47_1, 0, none⟩ := ⟨_, rfl⟩
  rw [← hr]
  refine (pts_cl g hv (bb := M) (fb := fb) (e1 := e1) (n1 := n1) (e2 := e2) (n2 := n2) (a0 := a0) (a1 := a1) (J := BoxJ r N ob tb b0) (Jx := fun _ => False) (fun j x => j.ext x) (fun pre p h hpre j => ?_) ?_ ?_ ?_).mono fun _ h2 hj => ?_
  · have hm : ∀ q ∈ pre ++ [p], ptOk q := fun q hq => ho.pts q (hpre.subset hq)
    exact box_round g t4 hb0 (fun q hq => hm q (List.mem_append_left _ hq)) (hm p (by simp)) hr j
  · rw [Heap.get_mk, if_neg (by omega)]; exact gM
  · rw [Heap.get_mk, if_neg (by omega)]; exact gf
  · refine ⟨⟨by rw [← hN, mk_next]; omega, q3, q4, q5⟩, by rw [Heap.get_mk, if_pos rfl], ⟨n3, ?_⟩, ⟨n4, ?_⟩⟩
    · rw [Heap.get_mk, if_neg (by omega)]; exact go1
    · rw [Heap.get_mk, if_neg (by omega)]; exact gb
  · rcases hj with j | hf
    · unfold LoopEnd
      rw [j.lp]
      obtain ⟨v1, g1⟩ := j.out
      obtain ⟨v2, g2⟩ := j.box
      have hfin : Q .normal s (h2.put N .dead) := hQ _ v1 v2 (by rw [Heap.get_put, if_neg (by omega)]; exact g1) (by rw [Heap.get_put, if_neg (by omega)]; exact g2)
      rw [hr]
      exact ⟨rfl, hfin⟩
    · exact hf.elim
/-- the rounds: each point joined -/
theorem box_pu (g : Pg P tab) {f : Feat} {v : AV} (hv : IsL 24 RRing v f.rings) : Pu P 47 [.agg [.int .i64 f.id, .int .i64 f.shape, v]] (fun w => (¬ featOk f ∧ w = .tup [aBx ⟨0, 0, 0, 0⟩, .int .i64 400]) ∨ (featOk f ∧ w = .tup [aBx (fBox f), .int .i64 0])) := by
  refine g.pu (vf := v47) rfl rfl ?_
  simp only [v47, RW, RX, VOp.fresh, bxC, bsC, un, most, callsOf, seval, Int.reducePow, ↓reduceIte, Nat.reduceEqDiff, reduceCtorEq]
  refine (shapeMay_pu g hv).go (by simp [AV.tolds, AV.told, hv.told tRing]) ?_
  rintro _ ⟨b, rfl, hb⟩
  cases b with
  | false =>
    have ho : ¬ featOk f := fun h => by have := hb.2 h; cases this
    simp only [RW, RX, VOp.fresh, bxC, bsC, un, most, callsOf, seval, Int.reducePow, ↓reduceIte, Nat.reduceEqDiff, reduceCtorEq]
    exact ⟨_, .tup (.cons (.agg (scals_fz rfl)) (.cons (.int _ _) .nil)), .inl ⟨ho, rfl⟩⟩
  | true =>
    have ho : featOk f := hb.1 rfl
    obtain ⟨h0, h1⟩ := ho.first
    obtain ⟨rv, r1, hrv, t1, g1⟩ := getRing hv 0 h0
    obtain ⟨r2, t2, g2⟩ := getPt hrv 0 h1
    simp only [Int.natCast_zero, Int.ofNat_zero, Int.ofNat_eq_natCast] at g1 g2
    simp only [g1, g2, RW, RX, VOp.fresh, bxC, bsC, un, most, callsOf, seval, Int.reducePow, ↓reduceIte, Nat.reduceEqDiff, reduceCtorEq]
    obtain ⟨p0, hp0⟩ : ∃ p0, (f.rings.getD 0 []).getD 0 ⟨0, 0⟩ = p0 := ⟨_, rfl⟩
    rw [hp0]
    refine (between_pu g p0 p0).go rfl ?_
    rintro _ rfl
    have ie : ∀ x : Int, imn x x = x ∧ imx x x = x := fun x => by unfold imn imx; constructor <;> split <;> rfl
    simp only [(ie p0.x).1, (ie p0.x).2, (ie p0.y).1, (ie p0.y).2, aBx]
    simp only [RW, RX, VOp.fresh, bxC, bsC, un, most, callsOf, seval, Int.reducePow, ↓reduceIte, Nat.reduceEqDiff, reduceCtorEq]
    refine (pts_mk g).mono ?_
    rintro _ _ ⟨rfl, rfl⟩
    simp only [RW, RX, VOp.fresh, bxC, bsC, un, most, callsOf, seval, Int.reducePow, ↓reduceIte, Nat.reduceEqDiff, reduceCtorEq]
    refine box_go g (f := f) (a0 := .int .i64 f.id) (a1 := .int .i64 f.shape) (ob := 1) (tb := 15) (fb := 0) (b0 := bxPt p0) hv ho ?_ ?_ (e1 := 79) (n1 := 0) ?_ (e2 := 31) (n2 := 0) ?_ (by decide) (n3 := 0) ?_ (bxPt_ok (ho.pts p0 ?_)) (n4 := 1) ?_ fun h' v1 v2 k1 k2 => ?_
    · simp only [sg_set, Nat.reduceEqDiff, ↓reduceIte]
    · rfl
    · rfl
    · rfl
    · rfl
    · rw [← hp0]
      exact List.mem_flatten.2 ⟨f.rings.getD 0 [], by rw [getD_ring h0]; exact List.getElem_mem h0, by rw [getP h1]; exact List.getElem_mem h1⟩
    · rfl
    · simp only [k1, k2, RW, RX, VOp.fresh, bxC, bsC, un, most, callsOf, seval, Int.reducePow, ↓reduceIte, Nat.reduceEqDiff, reduceCtorEq]
      exact ⟨_, .tup (.cons (.agg (scals_fz rfl)) (.cons (.int _ _) .nil)), .inr ⟨ho, by unfold fBox; rw [hp0]⟩⟩
end
end Go.Proofs.Ytpfpngmfooagiaa.VM
namespace Go.Proofs.Ytpfpngmfooagiaa.VM
attribute [local irreducible] Af Nx EvO Ev Un Gd Cd EvR EvQ EvC Nc Gc Lp EvM NxM AfM GdM EvMR EvMQ EvMD EvMC Nm Gm
def upAt (l : List Feat) (i : Nat) : Prop := featOk (l.getD i feat0) ∧ (0 < i → (l.getD (i - 1) feat0).id < (l.getD i feat0).id)
def featsUp (l : List Feat) : Prop := ∀ i, i < l.length → upAt l i
theorem featsUp_lt {l : List Feat} (u : featsUp l) : ∀ (j i : Nat), i < j → j < l.length → (l.getD i feat0).id < (l.getD j feat0).id
  | j + 1, i, hi, hj => by
    have h := (u (j + 1) hj).2 (by omega)
    rw [Nat.add_sub_cancel] at h
    by_cases e : i = j
    · rw [e]; exact h
    · have := featsUp_lt u j i (by omega) (by omega); omega
theorem featsUp_ge {l : List Feat} (u : featsUp l) : ∀ i, i < l.length → (i : Int) + 1 ≤ (l.getD i feat0).id
  | 0, h => by have := (u 0 h).1.1; omega
  | i + 1, h => by
    have h1 := featsUp_ge u i (by omega)
    have h2 := (u (i + 1) h).2 (by omega)
    rw [Nat.add_sub_cancel] at h2
    push_cast; omega
theorem featsUp_len {l : List Feat} (u : featsUp l) : l.length ≤ 65535 := by
  by_cases h : 0 < l.length
  · have h1 := featsUp_ge u (l.length - 1) (by omega)
    have h2 := (u (l.length - 1) (by omega)).1.2.1
    omega
  · omega
section
variable {P : Program}
theorem rising_loop (g : Pg P tab) {l : List Feat} {w : AV} (hw : IsL 32 RFeat w l) (n : Nat) :
    ∀ (i : Nat) (s : T AV) (hh : Heap) (k : List Fr) (Q : Ex → T AV → Heap → Prop), i + n = l.length → (∀ j, j < i → upAt l j) → sg s 0 = w → sg s 5 = w → sg s 6 = .int .i64 l.length → sg s 7 = .int .i64 i →
    (∀ s' h', featsUp l → Un P k Q (.exit 0) s' h') → (∀ s' h', ¬ featsUp l → sg s' 2 = .bool false → Un P k Q .ret s' h') → Lp P b16_0 s hh (Un P k Q) := by
  have hbd := hw.bound (by decide)
  induction n with
  | zero =>
    intro i s hh k Q hi hu h0 h5 h6 h7 hK _
    refine g.lpe b16_0.eq_1 ?_
    have c1 : ¬ ((i : Int) < (l.length : Int)) := by omega
    simp only [h0, h5, h6, h7, c1, RX, VOp.fresh, bxC, bsC, un, most, callsOf, seval, Int.reducePow, ↓reduceIte, Nat.reduceEqDiff, reduceCtorEq]
    exact hK _ _ fun j hj => hu j (by omega)
  | succ n ih =>
    intro i s hh k Q hi hu h0 h5 h6 h7 hK hN
    refine g.lpe b16_0.eq_1 ?_
    have c1 : (i : Int) < (l.length : Int) := by omega
    obtain ⟨x1, r1, i4, i2, i3, _, g1⟩ := getFeat hw i (by omega)
    have w1 : IntKind.i64.wrap ((i : Int) + 1) = ((i + 1 : Nat) : Int) := by rw [w64 (by omega) (by omega)]; push_cast; rfl
    have o1 := isL_one i4
    simp only [h5, h6, h7, c1, g1, o1, HN, RW, RX, VOp.fresh, bxC, bsC, un, most, callsOf, seval, Int.reducePow, ↓reduceIte, Nat.reduceEqDiff, reduceCtorEq]
    refine (shapeMay_pu g (f := l.getD i feat0) i4).go (by simp [AV.tolds, AV.told, i4.told tRing]) ?_
    rintro _ ⟨b, rfl, hb⟩
    cases b with
    | false =>
      simp only [HN, RW, RX, VOp.fresh, bxC, bsC, un, most, callsOf, seval, Int.reducePow, ↓reduceIte, Nat.reduceEqDiff, reduceCtorEq]
      refine hN _ _ (fun u => ?_) ?_
      · have := hb.2 (u i (by omega)).1; cases this
      · simp only [sg_set, Nat.reduceEqDiff, ↓reduceIte]
    | true =>
      by_cases hi0 : 0 < i
      · have c2 : (0 : Int) < (i : Int) := by omega
        obtain ⟨y1, r2, _, _, _, _, g2⟩ := getFeat hw (i - 1) (by omega)
        have w2 : IntKind.i64.wrap ((i : Int) - 1) = ((i - 1 : Nat) : Int) := by rw [w64 (by omega) (by omega)]; omega
        by_cases c3 : (l.getD i feat0).id ≤ (l.getD (i - 1) feat0).id
        · simp only [h0, h7, c2, w2, g2, c3, HN, RW, RX, VOp.fresh, bxC, bsC, un, most, callsOf, seval, Int.reducePow, ↓reduceIte, Nat.reduceEqDiff, reduceCtorEq]
          refine hN _ _ (fun u => ?_) ?_
          · have := (u i (by omega)).2 hi0; omega
          · simp only [sg_set, Nat.reduceEqDiff, ↓reduceIte]
        · simp only [h0, h7, c2, w2, g2, c3, w1, HN, RW, RX, VOp.fresh, bxC, bsC, un, most, callsOf, seval, Int.reducePow, ↓reduceIte, Nat.reduceEqDiff, reduceCtorEq]
          refine ih (i + 1) _ _ k Q (by omega) (fun j hj => ?_) ?_ ?_ ?_ ?_ hK hN
          · by_cases e : j = i
            · rw [e]; exact ⟨hb.1 rfl, fun _ => by omega⟩
            · exact hu j (by omega)
          · simp only [h0, sg_set, Nat.reduceEqDiff, ↓reduceIte]
          · simp only [h5, sg_set, Nat.reduceEqDiff, ↓reduceIte]
          · simp only [h6, sg_set, Nat.reduceEqDiff, ↓reduceIte]
          · simp only [sg_set, Nat.reduceEqDiff, ↓reduceIte]
      · obtain rfl : i = 0 := by omega
        simp only [h0, h7, w1, HN, RW, RX, VOp.fresh, bxC, bsC, un, most, callsOf, seval, Int.reducePow, ↓reduceIte, Nat.reduceEqDiff, reduceCtorEq]
        refine ih 1 _ _ k Q (by omega) (fun j hj => ?_) ?_ ?_ ?_ ?_ hK hN
        · obtain rfl : j = 0 := by omega
          exact ⟨hb.1 rfl, fun c => absurd c (by omega)⟩
        · simp only [h0, sg_set, Nat.reduceEqDiff, ↓reduceIte]
        · simp only [h5, sg_set, Nat.reduceEqDiff, ↓reduceIte]
        · simp only [h6, sg_set, Nat.reduceEqDiff, ↓reduceIte]
        · simp only [sg_set, Nat.reduceEqDiff, ↓reduceIte]
          rfl
theorem rising_pu (g : Pg P tab) {l : List Feat} {w : AV} (hw : IsL 32 RFeat w l) : Pu P 16 [w] (IsB (featsUp l)) := by
  refine g.pu (vf := v16) rfl rfl ?_
  simp only [v16, hw.len, RX, VOp.fresh, bxC, bsC, un, most, callsOf, seval, Int.reducePow, ↓reduceIte, Nat.reduceEqDiff, reduceCtorEq]
  refine rising_loop g hw l.length 0 _ _ _ _ (by omega) (fun j hj => absurd hj (by omega)) ?_ ?_ ?_ ?_ (fun s' h' u => ?_) fun s' h' u t2 => ?_
  · simp only [sg_set, Nat.reduceEqDiff, ↓reduceIte]
  · simp only [sg_set, Nat.reduceEqDiff, ↓reduceIte]
  · simp only [sg_set, Nat.reduceEqDiff, ↓reduceIte]
  · simp only [sg_set, Nat.reduceEqDiff, ↓reduceIte]
    rfl
  · simp only [RX, VOp.fresh, bxC, bsC, un, most, callsOf, seval, Int.reducePow, ↓reduceIte, Nat.reduceEqDiff, reduceCtorEq]
    exact u
  · simp only [t2, RX, VOp.fresh, bxC, bsC, un, most, callsOf, seval, Int.reducePow, ↓reduceIte, Nat.reduceEqDiff, reduceCtorEq]
    exact u
end
end Go.Proofs.Ytpfpngmfooagiaa.VM
namespace Go.Proofs.Ytpfpngmfooagiaa.VM
attribute [local irreducible] Af Nx EvO Ev Un Gd Cd EvR EvQ EvC Nc Gc Lp EvM NxM AfM GdM EvMR EvMQ EvMD EvMC Nm Gm
/-- ids that rise -/
def Up (l : List Feat) : Prop := ∀ i j, i < j → j < l.length → (l.getD i feat0).id < (l.getD j feat0).id
def IxP (l : List Feat) (x : Int) (m : Nat) : Prop := m ≤ l.length ∧ (∀ a, a < m → (l.getD a feat0).id < x) ∧ ∀ a, m ≤ a → a < l.length → x ≤ (l.getD a feat0).id
def cmpI (a b : Int) : Int := if a < b then -1 else if b < a then 1 else 0
section
variable {P : Program}
theorem nan54 (g : Pg P tab) (a : Int) : Pu P 54 [.int .i64 a] (fun v => v = .bool false) := by
  refine g.pu (vf := v54) rfl rfl ?_
  simp only [v54, RX, VOp.fresh, bxC, bsC, un, most, callsOf, seval, Int.reducePow, ↓reduceIte, Nat.reduceEqDiff, reduceCtorEq]
theorem compare_pu (g : Pg P tab) (a b : Int) : Pu P 32 [.int .i64 a, .int .i64 b] (fun v => v = .int .i64 (cmpI a b)) := by
  refine g.pu (vf := v32) rfl rfl ?_
  simp only [v32, RX, VOp.fresh, bxC, bsC, un, most, callsOf, seval, Int.reducePow, ↓reduceIte, Nat.reduceEqDiff, reduceCtorEq]
  refine (nan54 g _).go rfl ?_
  rintro v rfl
  simp only [RX, VOp.fresh, bxC, bsC, un, most, callsOf, seval, Int.reducePow, ↓reduceIte, Nat.reduceEqDiff, reduceCtorEq]
  refine (nan54 g _).go rfl ?_
  rintro v rfl
  by_cases h1 : a < b
  · simp only [h1, cmpI, RX, VOp.fresh, bxC, bsC, un, most, callsOf, seval, Int.reducePow, ↓reduceIte, Nat.reduceEqDiff, reduceCtorEq]
  · by_cases h2 : b < a
    · simp only [h1, h2, cmpI, RX, VOp.fresh, bxC, bsC, un, most, callsOf, seval, Int.reducePow, ↓reduceIte, Nat.reduceEqDiff, reduceCtorEq]
    · simp only [h1, h2, cmpI, RX, VOp.fresh, bxC, bsC, un, most, callsOf, seval, Int.reducePow, ↓reduceIte, Nat.reduceEqDiff, reduceCtorEq]
theorem pcmp_pu (g : Pg P tab) {f : Feat} {v : AV} (hv : IsL 24 RRing v f.rings) (x : Int) : Pu P 31 [.agg [.int .i64 f.id, .int .i64 f.shape, v], .int .i64 x] (fun u => u = .int .i64 (cmpI f.id x)) := by
  refine g.pu (vf := v31) rfl rfl ?_
  have o1 := isL_one hv
  simp only [v31, o1, HN, RW, RX, VOp.fresh, bxC, bsC, un, most, callsOf, seval, Int.reducePow, ↓reduceIte, Nat.reduceEqDiff, reduceCtorEq]
  refine (compare_pu g _ _).go rfl ?_
  rintro _ rfl
  simp only [RX, VOp.fresh, bxC, bsC, un, most, callsOf, seval, Int.reducePow, ↓reduceIte, Nat.reduceEqDiff, reduceCtorEq]
theorem bs_loop (g : Pg P tab) {l : List Feat} {w : AV} (hw : IsL 32 RFeat w l) (hr : Up l) {d : Int} (n : Nat) : ∀ (i j : Nat) (s : T AV) (h : Heap) (k : List Fr) (Q : Ex → T AV → Heap → Prop), j ≤ i + n → i ≤ j → j ≤ l.length → (∀ a, a < i → (l.getD a feat0).id < d) → (∀ a, j ≤ a → a < l.length → d ≤ (l.getD a feat0).id) →
    sg s 0 = w → sg s 1 = .int .i64 d → sg s 2 = .fn 31 [] → sg s 8 = .int .i64 l.length → sg s 9 = .int .i64 i → sg s 10 = .int .i64 j →
    (∀ s' m h', IxP l d m → sg s' 0 = w → sg s' 1 = .int .i64 d → sg s' 2 = .fn 31 [] → sg s' 8 = .int .i64 l.length → sg s' 9 = .int .i64 m → Un P k Q (.exit 0) s' h') → Lp P b30_0 s h (Un P k Q) := by
  have hbd := hw.bound (by decide)
  have fin : ∀ (i j : Nat) (s : T AV) (h : Heap) (k : List Fr) (Q : Ex → T AV → Heap → Prop), i = j → j ≤ l.length → (∀ a, a < i → (l.getD a feat0).id < d) → (∀ a, j ≤ a → a < l.length → d ≤ (l.getD a feat0).id) →
    sg s 0 = w → sg s 1 = .int .i64 d → sg s 2 = .fn 31 [] → sg s 8 = .int .i64 l.length → sg s 9 = .int .i64 i → sg s 10 = .int .i64 j →
    (∀ s' m h', IxP l d m → sg s' 0 = w → sg s' 1 = .int .i64 d → sg s' 2 = .fn 31 [] → sg s' 8 = .int .i64 l.length → sg s' 9 = .int .i64 m → Un P k Q (.exit 0) s' h') → Lp P b30_0 s h (Un P k Q) := by
    intro i j s h k Q hij hj hlo hhi t0 t1 t2 t8 t9 t10 hQ
    subst hij
    refine g.lpe b30_0.eq_1 ?_
    have c1 : ¬ (i : Int) < (i : Int) := by omega
    simp only [t9, t10, c1, RX, VOp.fresh, bxC, bsC, un, most, callsOf, seval, Int.reducePow, ↓reduceIte, Nat.reduceEqDiff, reduceCtorEq]
    refine hQ _ i _ ⟨hj, hlo, hhi⟩ ?_ ?_ ?_ ?_ ?_
    · simp only [t0, sg_set, Nat.reduceEqDiff, ↓reduceIte]
    · simp only [t1, sg_set, Nat.reduceEqDiff, ↓reduceIte]
    · simp only [t2, sg_set, Nat.reduceEqDiff, ↓reduceIte]
    · simp only [t8, sg_set, Nat.reduceEqDiff, ↓reduceIte]
    · simp only [t9, sg_set, Nat.reduceEqDiff, ↓reduceIte]
  induction n with
  | zero =>
    intro i j s h k Q hn hij hj hlo hhi t0 t1 t2 t8 t9 t10 hQ
    exact fin i j s h k Q (by omega) hj hlo hhi t0 t1 t2 t8 t9 t10 hQ
  | succ n ih =>
    intro i j s h k Q hn hij hj hlo hhi t0 t1 t2 t8 t9 t10 hQ
    by_cases hlt : i < j
    · refine g.lpe b30_0.eq_1 ?_
      have c1 : (i : Int) < (j : Int) := by omega
      obtain ⟨m, hm⟩ : ∃ m : Nat, m = (i + j) / 2 := ⟨_, rfl⟩
      have w1 : IntKind.i64.wrap ((i : Int) + (j : Int)) = ((i + j : Nat) : Int) := by rw [w64 (by omega) (by omega)]; push_cast; rfl
      have w2 : IntKind.u64.wrap ((i + j : Nat) : Int) = ((i + j : Nat) : Int) := wu64 (by omega) (by omega)
      have w3 : ((i + j : Nat) : Int) / 2 = (m : Int) := by omega
      have w4 : IntKind.i64.wrap (m : Int) = (m : Int) := w64 (by omega) (by omega)
      have w5 : IntKind.i64.wrap ((m : Int) + 1) = ((m + 1 : Nat) : Int) := by rw [w64 (by omega) (by omega)]; push_cast; rfl
      obtain ⟨x1, r1, i4, i2, i3, _, g1⟩ := getFeat hw m (by omega)
      simp only [t0, t1, t2, t9, t10, c1, w1, w2, w3, w4, g1, RX, VOp.fresh, bxC, bsC, un, most, callsOf, seval, Int.reducePow, ↓reduceIte, Nat.reduceEqDiff, reduceCtorEq]
      refine (pcmp_pu g (f := l.getD m feat0) i4 d).go (by simp [AV.tolds, AV.told, i4.told tRing]) ?_
      rintro v rfl
      by_cases hc : (l.getD m feat0).id < d
      · have c2 : cmpI (l.getD m feat0).id d < 0 := by simp only [cmpI, if_pos hc]; decide
        simp only [c2, w5, RX, VOp.fresh, bxC, bsC, un, most, callsOf, seval, Int.reducePow, ↓reduceIte, Nat.reduceEqDiff, reduceCtorEq]
        refine ih (m + 1) j _ h k Q (by omega) (by omega) hj (fun a ha => ?_) hhi ?_ ?_ ?_ ?_ ?_ ?_ hQ
        · rcases Nat.lt_or_ge a m with e | e
          · exact Int.lt_trans (hr a m e (by omega)) hc
          · rw [show a = m by omega]; exact hc
        · simp only [t0, sg_set, Nat.reduceEqDiff, ↓reduceIte]
        · simp only [t1, sg_set, Nat.reduceEqDiff, ↓reduceIte]
        · simp only [t2, sg_set, Nat.reduceEqDiff, ↓reduceIte]
        · simp only [t8, sg_set, Nat.reduceEqDiff, ↓reduceIte]
        · simp only [sg_set, Nat.reduceEqDiff, ↓reduceIte]
        · simp only [t10, sg_set, Nat.reduceEqDiff, ↓reduceIte]
      · have c2 : ¬ cmpI (l.getD m feat0).id d < 0 := by simp only [cmpI, if_neg hc]; split <;> omega
        simp only [c2, RX, VOp.fresh, bxC, bsC, un, most, callsOf, seval, Int.reducePow, ↓reduceIte, Nat.reduceEqDiff, reduceCtorEq]
        refine ih i m _ h k Q (by omega) (by omega) (by omega) hlo (fun a ha hb => ?_) ?_ ?_ ?_ ?_ ?_ ?_ hQ
        · rcases Nat.lt_or_ge m a with e | e
          · have := hr m a e hb; omega
          · rw [show a = m by omega]; omega
        · simp only [t0, sg_set, Nat.reduceEqDiff, ↓reduceIte]
        · simp only [t1, sg_set, Nat.reduceEqDiff, ↓reduceIte]
        · simp only [t2, sg_set, Nat.reduceEqDiff, ↓reduceIte]
        · simp only [t8, sg_set, Nat.reduceEqDiff, ↓reduceIte]
        · simp only [t9, sg_set, Nat.reduceEqDiff, ↓reduceIte]
        · simp only [sg_set, Nat.reduceEqDiff, ↓reduceIte]
    · exact fin i j s h k Q (by omega) hj hlo hhi t0 t1 t2 t8 t9 t10 hQ
theorem bs_pu (g : Pg P tab) {l : List Feat} {w : AV} (hw : IsL 32 RFeat w l) (hr : Up l) (d : Int) : Pu P 30 [w, .int .i64 d, .fn 31 []] (fun v => ∃ (m : Nat) (f : Bool), v = .tup [.int .i64 m, .bool f] ∧ IxP l d m ∧ (f = true ↔ m < l.length ∧ (l.getD m feat0).id = d)) := by
  refine g.pu (vf := v30) rfl rfl ?_
  simp only [v30, hw.len, RX, VOp.fresh, bxC, bsC, un, most, callsOf, seval, Int.reducePow, ↓reduceIte, Nat.reduceEqDiff, reduceCtorEq]
  refine bs_loop g hw hr (d := d) l.length 0 l.length _ _ _ _ (by omega) (by omega) (Nat.le_refl _) (fun a ha => by omega) (fun a h1 h2 => by omega) ?_ ?_ ?_ ?_ ?_ ?_ ?_
  · simp only [sg_set, Nat.reduceEqDiff, ↓reduceIte]
  · simp only [sg_set, Nat.reduceEqDiff, ↓reduceIte]
  · simp only [sg_set, Nat.reduceEqDiff, ↓reduceIte]
  · simp only [sg_set, Nat.reduceEqDiff, ↓reduceIte]
  · simp only [sg_set, Nat.reduceEqDiff, ↓reduceIte]
    rfl
  · simp only [sg_set, Nat.reduceEqDiff, ↓reduceIte]
  intro s' m h' ix t0 t1 t2 t8 t9
  have told : ∀ (m : Nat) (f : Bool) (hh : Heap) {R : AV → Prop}, R (.tup [.int .i64 m, .bool f]) → Tl hh (.tup [.int .i64 m, .bool f]) R := fun m f hh R r => ⟨_, .tup (.cons (.int _ _) (.cons (.bool _) .nil)), r⟩
  by_cases hml : m < l.length
  · have c1 : (m : Int) < (l.length : Int) := by omega
    obtain ⟨x1, r1, i4, i2, i3, _, g1⟩ := getFeat hw m hml
    simp only [t0, t1, t2, t8, t9, c1, g1, RX, VOp.fresh, bxC, bsC, un, most, callsOf, seval, Int.reducePow, ↓reduceIte, Nat.reduceEqDiff, reduceCtorEq]
    refine (pcmp_pu g (f := l.getD m feat0) i4 d).go (by simp [AV.tolds, AV.told, i4.told tRing]) ?_
    rintro v rfl
    by_cases he : (l.getD m feat0).id = d
    · have c2 : cmpI (l.getD m feat0).id d = 0 := by simp only [cmpI]; split <;> (try split) <;> omega
      simp only [c2, RX, VOp.fresh, bxC, bsC, un, most, callsOf, seval, Int.reducePow, ↓reduceIte, Nat.reduceEqDiff, reduceCtorEq]
      exact told m true _ ⟨m, true, rfl, ix, ⟨fun _ => ⟨hml, he⟩, fun _ => rfl⟩⟩
    · have c2 : ¬ cmpI (l.getD m feat0).id d = 0 := by simp only [cmpI]; split <;> (try split) <;> omega
      simp only [c2, RX, VOp.fresh, bxC, bsC, un, most, callsOf, seval, Int.reducePow, ↓reduceIte, Nat.reduceEqDiff, reduceCtorEq]
      exact told m false _ ⟨m, false, rfl, ix, ⟨fun c => (by cases c), fun c => absurd c.2 he⟩⟩
  · have c1 : ¬ (m : Int) < (l.length : Int) := by omega
    simp only [t0, t1, t2, t8, t9, c1, RX, VOp.fresh, bxC, bsC, un, most, callsOf, seval, Int.reducePow, ↓reduceIte, Nat.reduceEqDiff, reduceCtorEq]
    exact told m false _ ⟨m, false, rfl, ix, ⟨fun c => (by cases c), fun c => absurd c.1 hml⟩⟩
theorem mplace_pu (g : Pg P tab) {l : List Feat} {w : AV} (hw : IsL 32 RFeat w l) (hr : Up l) (d : Int) : Pu P 19 [w, .int .i64 d] (fun v => ∃ (m : Nat) (f : Bool), v = .tup [.int .i64 m, .bool f] ∧ IxP l d m ∧ (f = true ↔ m < l.length ∧ (l.getD m feat0).id = d)) := by
  refine g.pu (vf := v19) rfl rfl ?_
  simp only [v19, RX, VOp.fresh, bxC, bsC, un, most, callsOf, seval, Int.reducePow, ↓reduceIte, Nat.reduceEqDiff, reduceCtorEq]
  refine (bs_pu g hw hr d).go (by simp [AV.tolds, AV.told, hw.told tFeat]) ?_
  rintro _ ⟨m, f, rfl, ix, hf⟩
  simp only [RX, VOp.fresh, bxC, bsC, un, most, callsOf, seval, Int.reducePow, ↓reduceIte, Nat.reduceEqDiff, reduceCtorEq]
  exact ⟨_, .tup (.cons (.int _ _) (.cons (.bool _) .nil)), m, f, rfl, ix, hf⟩
end
end Go.Proofs.Ytpfpngmfooagiaa.VM
namespace Go.Proofs.Ytpfpngmfooagiaa.VM
attribute [local irreducible] Af Nx EvO Ev Un Gd Cd EvR EvQ EvC Nc Gc Lp EvM NxM AfM GdM EvMR EvMQ EvMD EvMC Nm Gm
theorem trFeat : Tr RFeat 3 := ⟨zFeat, fun a c ⟨v, e, _, _, hv⟩ => by rw [e]; simp [List.all_cons, isL_one hv, one_int], tFeat⟩
theorem Cat.cut {α : Type} {R : α → List AV → Prop} : ∀ {l1 l2 : List α} {t : List AV}, Cat R (l1 ++ l2) t → ∃ t1 t2, t = t1 ++ t2 ∧ Cat R l1 t1 ∧ Cat R l2 t2
  | [], _, t, c => ⟨[], t, rfl, .nil, c⟩
  | _ :: l1, _, _, .cons (c := c) h r => by
    obtain ⟨t1, t2, rfl, a, b⟩ := r.cut (l1 := l1)
    exact ⟨c ++ t1, t2, (List.append_assoc _ _ _).symm, .cons h a, b⟩
theorem Cat.all_one {α : Type} {R : α → List AV → Prop} (ho : ∀ a c, R a c → c.all AV.one = true) : ∀ {l : List α} {t : List AV}, Cat R l t → t.all AV.one = true
  | _, _, .nil => rfl
  | _, _, .cons h r => by rw [List.all_append, ho _ _ h, r.all_one ho]; rfl
section
variable {h : Heap} {B : Nat → Prop}
theorem Lvs.uncons {cs k : List AV} {y : AV} (l : Lvs h B cs (y :: k)) : ∃ x c', cs = x :: c' ∧ Lv h B x y ∧ Lvs h B c' k := by
  obtain ⟨D, f, hb, own, i⟩ := l
  match f with
  | .cons (x := x) (l := c') f1 t =>
    simp only [AV.bares, Bool.and_eq_true] at hb
    exact ⟨x, c', rfl, ⟨_, f1, hb.1, fun b hb => own b (List.mem_append_left _ hb), fun b hb => i b (List.mem_append_left _ hb)⟩, ⟨_, t, hb.2, fun b hb => own b (List.mem_append_right _ hb), fun b hb => i b (List.mem_append_right _ hb)⟩⟩
theorem Lvs.split {k2 : List AV} : ∀ {k1 cs : List AV}, Lvs h B cs (k1 ++ k2) → ∃ c1 c2, cs = c1 ++ c2 ∧ Lvs h B c1 k1 ∧ Lvs h B c2 k2 ∧ c1.length = k1.length
  | [], cs, l => ⟨[], cs, rfl, .nil, l, rfl⟩
  | y :: k1, cs, l => by
    obtain ⟨x, c', rfl, lx, lt⟩ := l.uncons
    obtain ⟨c1, c2, rfl, a, b, e⟩ := lt.split
    exact ⟨x :: c1, c2, rfl, .cons lx a, b, by simp [e]⟩
theorem Fds.ones {h : Heap} : ∀ {x y : List AV} {D : List Nat}, Fds h x y D → y.all AV.one = true → x.all AV.one = true
  | _, _, _, .nil, _ => rfl
  | _, _, _, .cons f t, e => by
    simp only [List.all_cons, Bool.and_eq_true] at e ⊢
    refine ⟨?_, t.ones e.2⟩
    cases f with
    | told => exact e.1
    | sl => rfl
    | sl0 => rfl
    | ptr => rfl
    | agg => cases e.1
    | tup => cases e.1
theorem Lvs.ones {x y : List AV} (l : Lvs h B x y) (e : y.all AV.one = true) : x.all AV.one = true := let ⟨_, f, _⟩ := l; f.ones e
theorem Lvs.bares {x y : List AV} (l : Lvs h B x y) : AV.bares x = true := let ⟨_, _, b, _⟩ := l; b
end
def OutR (h : Heap) (N : Nat) (v : AV) (l : List Feat) : Prop :=
  (v = .nils ∧ l = []) ∨ ∃ b cap C Z e ver t, v = .sl b 0 l.length cap 3 ∧ cap * 3 = (C ++ Z).length ∧ h.get b = some (.cells (C ++ Z) e ver) ∧ b < h.next ∧ N ≤ b ∧ Z.all AV.one = true ∧ AV.bares Z = true ∧ Lvs h (fun d => N ≤ d ∧ d ≠ b) C t ∧ Cat RFeat l t
section
variable {h h' : Heap} {N : Nat} {v : AV} {l : List Feat}
theorem OutR.of {t : List AV} (r : LR h (N ≤ ·) v 3 t l.length) (c : Cat RFeat l t) : OutR h N v l := by
  obtain ⟨cs, row, lv, i⟩ := r
  rcases row with ⟨rfl, e, _⟩ | ⟨b, e, ver, rfl, hn, hb, hl, hg⟩
  · exact .inl ⟨rfl, List.eq_nil_of_length_eq_zero e⟩
  · exact .inr ⟨b, l.length, cs, [], e, ver, t, rfl, by rw [List.append_nil, hl], by rw [List.append_nil]; exact hg, hb, i b (by simp [blkOf]), rfl, rfl, lv.weak fun d hd _ => ⟨hd.1, by simpa [blkOf] using hd.2⟩, c⟩
theorem OutR.lv (r : OutR h N v l) (hs : l.length ≤ 1000000) : ∃ t, Lv h (N ≤ ·) v t ∧ IsL 32 RFeat t l := by
  rcases r with ⟨rfl, rfl⟩ | ⟨b, cap, C, Z, e, ver, t, rfl, hc, hg, hb, hN, hZ, hZb, lv, c⟩
  · exact ⟨.nils, .nils, isL_nil _ _⟩
  · have hC : C.length = l.length * 3 := by rw [← lv.length, c.length zFeat]
    have hbd : l.length * 32 ≤ reachBytes := by rw [reach_eq]; omega
    have hbr := lv.bares
    by_cases h0 : l.length = 0
    · obtain rfl : l = [] := List.eq_nil_of_length_eq_zero h0
      exact ⟨.rs [] 0, ⟨[], .sl0, rfl, Own.nil, fun b hb => by simp at hb⟩, by simp, .inr ⟨[], rfl, .nil⟩⟩
    · obtain ⟨D, fd, _, own, i⟩ := lv
      refine ⟨.rs t l.length, ⟨b :: D, .sl (by omega) hb hg (by rw [cut_eq, List.drop_zero, ← hC, List.take_left' rfl, if_pos rfl]) fd, rfl, fun d hd => ?_, fun d hd => ?_⟩, isL_rs c hbd⟩
      · rcases List.mem_cons.1 hd with rfl | hd
        · exact ⟨_, e, ver, hg, by rw [bares_app, hbr, hZb]; rfl⟩
        · exact own d hd
      · rcases List.mem_cons.1 hd with rfl | hd
        · exact hN
        · exact (i d hd).1
theorem OutR.frame (r : OutR h N v l) (hn : h.next ≤ h'.next) (k : ∀ b, N ≤ b → b < h.next → h'.get b = h.get b) : OutR h' N v l := by
  rcases r with r | ⟨b, cap, C, Z, e, ver, t, rfl, hc, hg, hb, hN, hZ, hZb, lv, c⟩
  · exact .inl r
  · exact .inr ⟨b, cap, C, Z, e, ver, t, rfl, hc, (k b hN hb).trans hg, by omega, hN, hZ, hZb, lv.frame hn fun d hd hl => k d hd.1 hl, c⟩
theorem OutR.one (r : OutR h N v l) : v.one = true := by rcases r with ⟨rfl, _⟩ | ⟨b, cap, C, Z, e, ver, t, rfl, _⟩ <;> rfl
theorem OutR.cells (r : OutR h N v l) : v.cells = some [v] := by rcases r with ⟨rfl, _⟩ | ⟨b, cap, C, Z, e, ver, t, rfl, _⟩ <;> rfl
theorem OutR.lt (r : OutR h N v l) : ∀ b ∈ blkOf v, b < h.next := by
  rcases r with ⟨rfl, _⟩ | ⟨b, cap, C, Z, e, ver, t, rfl, _, _, hb, _⟩
  · intro b hb; simp [blkOf] at hb
  · intro d hd; simp only [blkOf, List.mem_singleton] at hd; rw [hd]; exact hb
end
abbrev z3F : List AV := [.int .i64 0, .int .i64 0, .nils]
theorem del_cells {A B C z y : List AV} (hb : B.length = y.length) : (((A ++ B ++ C ++ z).take A.length ++ C ++ (A ++ B ++ C ++ z).drop (A.length + C.length)).take (A.length + C.length) ++ y ++ ((A ++ B ++ C ++ z).take A.length ++ C ++ (A ++ B ++ C ++ z).drop (A.length + C.length)).drop (A.length + C.length + y.length)) = A ++ C ++ (y ++ z) := by
  have e1 : (A ++ B ++ C ++ z).take A.length = A := by rw [List.append_assoc, List.append_assoc, List.take_left' rfl]
  rw [e1]
  have e2 : (A ++ C ++ (A ++ B ++ C ++ z).drop (A.length + C.length)).take (A.length + C.length) = A ++ C := List.take_left' (by rw [List.length_append])
  rw [e2]
  have e3 : (A ++ C ++ (A ++ B ++ C ++ z).drop (A.length + C.length)).drop (A.length + C.length + y.length) = z := by
    rw [← List.drop_drop, List.drop_left' (by rw [List.length_append]), List.drop_drop, show A.length + C.length + y.length = (A ++ B ++ C).length by simp only [List.length_append]; omega, List.drop_left' rfl]
  rw [e3, List.append_assoc]
section
variable {P : Program}
theorem delF_cl (g : Pg P tab) {h : Heap} {b cap n i e ver : Nat} {A B C Z : List AV} (hA : A.length = i * 3) (hB : B.length = 3) (hC : C.length = (n - (i + 1)) * 3) (hi : i < n) (hn : n ≤ 1000000) (hc : n ≤ cap) (hg : h.get b = some (.cells (A ++ B ++ C ++ Z) e ver)) (oC : C.all AV.one = true) {Q : AV → Heap → Prop}
    (q : ∀ h' ver', h'.next = h.next → (∀ c, c ≠ b → h'.get c = h.get c) → h'.get b = some (.cells (A ++ C ++ (z3F ++ Z)) e ver') → Q (.sl b 0 (n - 1) cap 3) h') : Cl P 21 [.sl b 0 n cap 3, .int .i64 i, .int .i64 ((i + 1 : Nat) : Int)] h Q := by
  refine g.cl (vf := v21) rfl rfl ?_
  have s1 := slV3 (b := b) (off := 0) (len := n) (cap := cap) (sz := 3) (k1 := .i64) (k2 := .i64) (k3 := .i64) (show i ≤ i + 1 by omega) (show i + 1 ≤ n by omega) (show n ≤ cap by omega)
  have s2 := slVhi (b := b) (off := 0) (len := n) (cap := cap) (sz := 3) (k2 := .i64) (hi := i) (by omega)
  have s3 := slVlo (b := b) (off := 0) (len := n) (cap := cap) (sz := 3) (k1 := .i64) (lo := i + 1) (by omega)
  have s4 := slV2 (b := b) (off := 0) (len := n - 1) (cap := cap) (sz := 3) (k1 := .i64) (k2 := .i64) (lo := n - 1) (hi := n) (by omega) (by omega)
  have n1 : ¬ ((i : Int) = ((i + 1 : Nat) : Int)) := by omega
  have hcc : cellsOf h 3 (n - (i + 1)) (.sl b (0 + (i + 1) * 3) (n - (i + 1)) (cap - (i + 1)) 3) = some C := by
    simp only [cellsOf, Nat.le_refl, if_true, hg]
    have : (A ++ B ++ C ++ Z).drop (0 + (i + 1) * 3) = C ++ Z := by
      rw [List.append_assoc (A ++ B), List.drop_left' (by rw [List.length_append, hA, hB]; omega)]
    rw [cut_eq, this, ← hC, List.take_left' rfl, if_pos rfl]
  have hw : writeAt h b (0 + i * 3) C = some (h.put b (.cells ((A ++ B ++ C ++ Z).take A.length ++ C ++ (A ++ B ++ C ++ Z).drop (A.length + C.length)) e (ver + 1))) := by
    rw [writeAt_go, hg, wrB_some, if_pos ⟨by simp only [List.length_append]; omega, oC⟩, show 0 + i * 3 = A.length by omega]
  have ha : appendV h 3 40 31 (.sl b 0 i cap 3) (.sl b (0 + (i + 1) * 3) (n - (i + 1)) (cap - (i + 1)) 3) = some (.sl b 0 (n - 1) cap 3, h.put b (.cells ((A ++ B ++ C ++ Z).take A.length ++ C ++ (A ++ B ++ C ++ Z).drop (A.length + C.length)) e (ver + 1))) := by
    have e3 : i + (n - (i + 1)) = n - 1 := by omega
    have e4 : n - 1 ≤ cap := by omega
    simp only [appendV, lenV, hcc, hC, oC, and_self, if_true, Nat.beq_refl, cond_true, hw, e3, e4]
  have hw2 : writeAt (h.put b (.cells ((A ++ B ++ C ++ Z).take A.length ++ C ++ (A ++ B ++ C ++ Z).drop (A.length + C.length)) e (ver + 1))) b (0 + (n - 1) * 3) z3F = some ((h.put b (.cells ((A ++ B ++ C ++ Z).take A.length ++ C ++ (A ++ B ++ C ++ Z).drop (A.length + C.length)) e (ver + 1))).put b (.cells (A ++ C ++ (z3F ++ Z)) e (ver + 1 + 1))) := by
    rw [writeAt_go, Heap.get_put, if_pos rfl, wrB_some, if_pos ⟨by simp only [List.length_append, List.length_take, List.length_drop]; simp; omega, by rfl⟩, show 0 + (n - 1) * 3 = A.length + C.length by omega, del_cells (by rw [hB]; rfl)]
  have hcl : n - (n - 1) = 1 := by omega
  rw [Nat.zero_add] at ha hw2 s1 s3 s4
  rw [hcl] at s4
  have hcs := clS_go (z := z3F) (b := b) (off := (n - 1) * 3) (len := 1) (cap := cap - (n - 1)) (sz := 3) (by decide) ((by rw [List.replicate_one, List.flatten_singleton]; exact hw2 : writeAt _ b ((n - 1) * 3) (List.replicate 1 z3F).flatten = _))
  simp only [v21, s1, s2, s3, s4, n1, ha, vop_clearS, hcs, RX, VOp.fresh, bxC, bsC, un, most, callsOf, seval, Int.reducePow, ↓reduceIte, Nat.reduceEqDiff, reduceCtorEq]
  exact q _ (ver + 1 + 1) rfl (fun c hc => by rw [Heap.get_put, if_neg hc, Heap.get_put, if_neg hc]) (by rw [Heap.get_put, if_pos rfl]; rfl)
theorem OutR.del (g : Pg P tab) {h : Heap} {N : Nat} {v : AV} {l1 l2 : List Feat} {x : Feat} (r : OutR h N v (l1 ++ x :: l2)) (hs : (l1 ++ x :: l2).length ≤ 1000000) {Q : AV → Heap → Prop}
    (q : ∀ v' h', OutR h' N v' (l1 ++ l2) → h'.next = h.next → (∀ c, c < N → h'.get c = h.get c) → Q v' h') : Cl P 21 [v, .int .i64 l1.length, .int .i64 ((l1.length + 1 : Nat) : Int)] h Q := by
  rcases r with ⟨_, e⟩ | ⟨b, cap, C0, Z, e, ver, t, rfl, hc, hg, hb, hN, hZ, hZb, lv, c⟩
  · cases l1 <;> cases e
  obtain ⟨t1, t2, rfl, q1, q2⟩ := c.cut
  obtain ⟨c1, c2, rfl, lv1, lv2, _⟩ := lv.split
  cases q2 with | cons hx q3 =>
  rename_i tx t3
  obtain ⟨cx, c3, rfl, lvx, lv3, _⟩ := lv2.split
  have L1 : c1.length = l1.length * 3 := by rw [← lv1.length, q1.length zFeat]
  have L2 : cx.length = 3 := by rw [← lvx.length, zFeat _ _ hx]
  have L3 : c3.length = l2.length * 3 := by rw [← lv3.length, q3.length zFeat]
  have ll : (l1 ++ x :: l2).length = l1.length + 1 + l2.length := by simp; omega
  rw [← List.append_assoc c1] at hg hc
  refine delF_cl g (A := c1) (B := cx) (C := c3) (Z := Z) (i := l1.length) L1 L2 (by rw [ll, L3]; omega) (by rw [ll]; omega) hs (by simp only [List.length_append] at hc; omega) hg (lv3.ones (q3.all_one trFeat.one)) fun h' ver' n' k' g' => ?_
  have fr : ∀ {x y}, Lvs h (fun d => N ≤ d ∧ d ≠ b) x y → Lvs h' (fun d => N ≤ d ∧ d ≠ b) x y := fun lv => lv.frame (by omega) fun d hd _ => k' d hd.2
  refine q _ h' (.inr ⟨b, cap, c1 ++ c3, z3F ++ Z, e, ver', t1 ++ t3, ?_, ?_, g', by omega, hN, by rw [List.all_append, hZ]; rfl, by rw [bares_app, hZb]; rfl, fr (lv1.app lv3), q1.append q3⟩) n' fun d hd => k' d (by omega)
  · have : (l1 ++ x :: l2).length - 1 = (l1 ++ l2).length := by simp
    rw [this]
  · simp only [List.length_append] at hc ⊢
    simp only [List.length_cons, List.length_nil]
    omega
theorem OutR.ins (hins : InsF P 22 31) {h : Heap} {N : Nat} {v : AV} {l1 l2 : List Feat} {f : Feat} (r : OutR h N v (l1 ++ l2)) (hs : (l1 ++ l2).length ≤ 1000000) (hN : N ≤ h.next) {vb e2 ver2 : Nat} {c tx : List AV} (hgv : h.get vb = some (.cells c e2 ver2)) (hne : vb ∉ blkOf v) (lx : Lvs h (fun d => N ≤ d ∧ d ∉ blkOf v) c tx) (hf : RFeat f tx) (hc3 : c.length = 3) (ho : c.all AV.one = true) {Q : AV → Heap → Prop}
    (q : ∀ v' h', OutR h' N v' (l1 ++ f :: l2) → h'.next = h.next + 1 → (∀ c, c < N → h'.get c = h.get c) → Q v' h') : Cl P 22 [v, .int .i64 l1.length, .sl vb 0 1 1 3] h Q := by
  rcases r with ⟨rfl, e⟩ | ⟨b, cap, C0, Z, e, ver, t, rfl, hc, hg, hb, hbN, hZ, hZb, lv, ct⟩
  · obtain ⟨rfl, rfl⟩ := List.append_eq_nil_iff.1 e
    refine ((hins hc3 ho hgv).1).cl (q _ _ (.inr ⟨h.next, 1, c, [], 31, 0, tx, rfl, by rw [List.append_nil, hc3], by rw [Heap.get_mk, if_pos rfl, List.append_nil], by rw [mk_next]; omega, hN, rfl, rfl, ?_, by simpa using Cat.cons hf .nil⟩) (by rw [mk_next]; omega) fun d hd => by rw [Heap.get_mk, if_neg (by omega)])
    exact (lx.weak (B' := fun d => N ≤ d ∧ d ≠ h.next) fun d hd hl => ⟨hd.1, by omega⟩).frame (by rw [mk_next]; omega) fun d hd hl => by rw [Heap.get_mk, if_neg hd.2]
  have hC0 : C0.length = (l1 ++ l2).length * 3 := by rw [← lv.length, ct.length zFeat]
  have oC0 := lv.ones (ct.all_one trFeat.one)
  obtain ⟨t1, t2, rfl, q1, q2⟩ := ct.cut
  obtain ⟨c1, c2, rfl, lv1, lv2, _⟩ := lv.split
  have L1 : c1.length = l1.length * 3 := by rw [← lv1.length, q1.length zFeat]
  have hvb : vb ≠ b := fun e => hne (by rw [e]; simp [blkOf])
  obtain ⟨_, hh⟩ := hins hc3 ho hgv
  have o := hh (b := b) (n := (l1 ++ l2).length) (cap := cap) (i := l1.length) hg (by simp only [List.length_append] at hC0 ⊢; omega) (by rw [List.all_append, oC0, hZ]; rfl) (by simp) hvb (by omega)
  rw [List.take_left' hC0, List.take_left' L1, List.drop_left' L1] at o
  have kp : ∀ d, d ≠ b → d ≠ h.next → ((h.put b .dead).mk' h.next (.cells (c1 ++ c ++ c2) 31 0)).get d = h.get d := fun d h1 h2 => by rw [Heap.get_mk, if_neg h2, Heap.get_put, if_neg h1]
  have nx : ((h.put b .dead).mk' h.next (.cells (c1 ++ c ++ c2) 31 0)).next = h.next + 1 := by rw [mk_next, put_next]; omega
  have fr : ∀ {x y}, Lvs h (fun d => N ≤ d ∧ d ≠ b) x y → Lvs ((h.put b .dead).mk' h.next (.cells (c1 ++ c ++ c2) 31 0)) (fun d => N ≤ d ∧ d ≠ h.next) x y := fun lv =>
    ((lv.weak (B' := fun d => (N ≤ d ∧ d ≠ b) ∧ d ≠ h.next) fun d hd hl => ⟨hd, by omega⟩).frame (by omega) fun d hd _ => kp d hd.1.2 hd.2).weak fun d hd _ => ⟨hd.1.1, hd.2⟩
  refine o.cl (q _ _ (.inr ⟨h.next, (l1 ++ l2).length + 1, c1 ++ c ++ c2, [], 31, 0, t1 ++ tx ++ t2, ?_, ?_, by rw [Heap.get_mk, if_pos rfl, List.append_nil], by omega, hN, rfl, rfl, ?_, ?_⟩) nx fun d hd => kp d (by omega) (by omega))
  · have : (l1 ++ f :: l2).length = (l1 ++ l2).length + 1 := by simp; omega
    rw [this]
  · simp only [List.length_append] at hC0 ⊢
    simp only [List.length_nil]; omega
  · exact (((fr lv1).app (fr (lx.weak fun d hd _ => ⟨hd.1, by simpa [blkOf] using hd.2⟩))).app (fr lv2))
  · rw [List.append_assoc]
    exact q1.append (.cons hf q2)
end
end Go.Proofs.Ytpfpngmfooagiaa.VM
namespace Go.Proofs.Ytpfpngmfooagiaa.VM
attribute [local irreducible] Af Nx EvO Ev Un Gd Cd EvR EvQ EvC Nc Gc Lp EvM NxM AfM GdM EvMR EvMQ EvMD EvMC Nm Gm
def loF (l : List Feat) (x : Int) : List Feat := l.filter fun f => decide (f.id < x)
def hiF (l : List Feat) (x : Int) : List Feat := l.filter fun f => decide (x < f.id)
def apS (l : List Feat) (o : Op) : List Feat := loF l (opId o) ++ ((if o.kind = 0 then [o.f] else []) ++ hiF l (opId o))
def apF (l : List Feat) (ops : List Op) : List Feat := ops.foldl apS l
theorem Up.pw {l : List Feat} : Up l ↔ l.Pairwise fun a b => a.id < b.id := by
  rw [List.pairwise_iff_getElem]
  have e : ∀ (i : Nat) (h : i < l.length), l.getD i feat0 = l[i] := fun i h => by simp [List.getD_eq_getElem?_getD, List.getElem?_eq_getElem h]
  exact ⟨fun u i j hi hj hij => by have := u i j hij hj; rwa [e i hi, e j hj] at this, fun u i j hij hj => by rw [e i (by omega), e j hj]; exact u i j (by omega) hj hij⟩
theorem featsUp.up {l : List Feat} (u : featsUp l) : Up l := fun i j h1 h2 => featsUp_lt u j i h1 h2
theorem mem_lo {l : List Feat} {x : Int} {f : Feat} : f ∈ loF l x ↔ f ∈ l ∧ f.id < x := by simp [loF]
theorem mem_hi {l : List Feat} {x : Int} {f : Feat} : f ∈ hiF l x ↔ f ∈ l ∧ x < f.id := by simp [hiF]
theorem mem_apS {l : List Feat} {o : Op} {f : Feat} : f ∈ apS l o ↔ (f ∈ l ∧ f.id ≠ opId o) ∨ (o.kind = 0 ∧ f = o.f) := by
  simp only [apS, List.mem_append, mem_lo, mem_hi]
  by_cases h : o.kind = 0
  · simp only [h, if_true, List.mem_singleton, true_and]
    constructor
    · rintro (h | h | h)
      · exact .inl ⟨h.1, by omega⟩
      · exact .inr h
      · exact .inl ⟨h.1, by omega⟩
    · rintro (h | h)
      · rcases Int.lt_or_gt_of_ne h.2 with c | c
        · exact .inl ⟨h.1, c⟩
        · exact .inr (.inr ⟨h.1, c⟩)
      · exact .inr (.inl h)
  · simp only [h, if_false, List.not_mem_nil, false_and, or_false, false_or]
    constructor
    · rintro (h | h)
      · exact ⟨h.1, by omega⟩
      · exact ⟨h.1, by omega⟩
    · intro h
      rcases Int.lt_or_gt_of_ne h.2 with c | c
      · exact .inl ⟨h.1, c⟩
      · exact .inr ⟨h.1, c⟩
theorem apS_up {l : List Feat} (u : Up l) (o : Op) : Up (apS l o) := by
  rw [Up.pw] at u ⊢
  unfold apS
  refine List.pairwise_append.2 ⟨u.filter _, List.pairwise_append.2 ⟨?_, u.filter _, ?_⟩, ?_⟩
  · split
    · exact List.pairwise_singleton _ _
    · exact .nil
  · intro a ha b hb
    have hb := (mem_hi.1 hb).2
    split at ha
    · rename_i k
      obtain rfl := List.mem_singleton.1 ha
      simpa [opId, k] using hb
    · cases ha
  · intro a ha b hb
    have ha := (mem_lo.1 ha).2
    rcases List.mem_append.1 hb with hb | hb
    · split at hb
      · rename_i k
        obtain rfl := List.mem_singleton.1 hb
        simpa [opId, k] using ha
      · cases hb
    · have := (mem_hi.1 hb).2; omega
theorem apS_len (l : List Feat) (o : Op) : (apS l o).length ≤ l.length + 1 := by
  have : ∀ l : List Feat, (loF l (opId o)).length + (hiF l (opId o)).length ≤ l.length := by
    intro l
    induction l with
    | nil => exact Nat.le_refl _
    | cons y l ih =>
      simp only [loF, hiF, List.filter_cons, List.length_cons] at ih ⊢
      by_cases h1 : y.id < opId o
      · have h2 : ¬ opId o < y.id := by omega
        simp only [h1, h2, decide_true, decide_false, if_true, Bool.false_eq_true, if_false, List.length_cons]; omega
      · simp only [h1, decide_false, Bool.false_eq_true, if_false]
        split
        · rw [List.length_cons]; omega
        · omega
  have := this l
  unfold apS
  simp only [List.length_append]
  split <;> simp <;> omega
theorem apF_snoc (l : List Feat) (ops : List Op) (o : Op) : apF l (ops ++ [o]) = apS (apF l ops) o := by simp [apF]
theorem apF_up {l : List Feat} (u : Up l) : ∀ ops : List Op, Up (apF l ops) := fun ops => by
  unfold apF
  induction ops generalizing l with
  | nil => exact u
  | cons o ops ih => exact ih (apS_up u o)
theorem apF_len (l : List Feat) : ∀ ops : List Op, (apF l ops).length ≤ l.length + ops.length := fun ops => by
  unfold apF
  induction ops generalizing l with
  | nil => exact Nat.le_refl _
  | cons o ops ih =>
    have := ih (apS l o)
    have := apS_len l o
    rw [List.foldl_cons, List.length_cons]
    omega
/-- the place found tells what is cut -/
theorem IxP.cut {l : List Feat} {x : Int} {m : Nat} (u : Up l) (p : IxP l x m) : loF l x = l.take m ∧ (m < l.length ∧ (l.getD m feat0).id = x → ∃ y, l = loF l x ++ y :: hiF l x) ∧ (¬ (m < l.length ∧ (l.getD m feat0).id = x) → l = loF l x ++ hiF l x) := by
  obtain ⟨hm, hlo, hhi⟩ := p
  have e : ∀ (i : Nat) (h : i < l.length), l.getD i feat0 = l[i] := fun i h => by simp [List.getD_eq_getElem?_getD, List.getElem?_eq_getElem h]
  have elo : loF l x = l.take m := by
    conv => lhs; rw [← List.take_append_drop m l]
    unfold loF
    rw [List.filter_append, List.filter_eq_self.2, List.filter_eq_nil_iff.2, List.append_nil]
    · intro y hy
      obtain ⟨i, hi, rfl⟩ := List.mem_iff_getElem.1 hy
      rw [List.length_drop] at hi
      have := hhi (m + i) (by omega) (by omega)
      rw [e _ (by omega)] at this
      rw [List.getElem_drop]
      simp; omega
    · intro y hy
      obtain ⟨i, hi, rfl⟩ := List.mem_iff_getElem.1 hy
      rw [List.length_take] at hi
      have := hlo i (by omega)
      rw [e _ (by omega)] at this
      rw [List.getElem_take]
      simp; omega
  have ehi : hiF l x = hiF (l.drop m) x := by
    conv => lhs; rw [← List.take_append_drop m l]
    unfold hiF
    rw [List.filter_append, List.filter_eq_nil_iff.2, List.nil_append]
    intro y hy
    obtain ⟨i, hi, rfl⟩ := List.mem_iff_getElem.1 hy
    rw [List.length_take] at hi
    have := hlo i (by omega)
    rw [e _ (by omega)] at this
    rw [List.getElem_take]
    simp; omega
  refine ⟨elo, fun ⟨h1, h2⟩ => ?_, fun hn => ?_⟩
  · refine ⟨l[m], ?_⟩
    rw [e m h1] at h2
    have : hiF (l.drop m) x = l.drop (m + 1) := by
      rw [List.drop_eq_getElem_cons h1]
      unfold hiF
      rw [List.filter_cons_of_neg (by simp; omega), List.filter_eq_self.2]
      intro y hy
      obtain ⟨i, hi, rfl⟩ := List.mem_iff_getElem.1 hy
      rw [List.length_drop] at hi
      have := u m (m + 1 + i) (by omega) (by omega)
      rw [e _ (by omega), e _ (by omega)] at this
      rw [List.getElem_drop]
      simp; omega
    rw [ehi, this, elo, ← List.drop_eq_getElem_cons h1, List.take_append_drop]
  · have : hiF (l.drop m) x = l.drop m := by
      unfold hiF
      rw [List.filter_eq_self]
      intro y hy
      obtain ⟨i, hi, rfl⟩ := List.mem_iff_getElem.1 hy
      rw [List.length_drop] at hi
      have h0 := hhi m (Nat.le_refl _) (by omega)
      have hne : (l.getD m feat0).id ≠ x := fun c => hn ⟨by omega, c⟩
      rw [List.getElem_drop]
      rcases Nat.eq_zero_or_pos i with rfl | hp
      · rw [e m (by omega)] at h0 hne
        simp; omega
      · have := u m (m + i) (by omega) (by omega)
        rw [e m (by omega), e _ (by omega)] at this
        rw [e m (by omega)] at h0 hne
        simp; omega
    rw [ehi, this, elo, List.take_append_drop]
section
variable {P : Program}
theorem copyAll_loop (g : Pg P tab) {l : List Feat} {w : AV} (hw : IsL 32 RFeat w l) (hs : l.length ≤ 70000) {h0 : Heap} (n : Nat) :
    ∀ (i : Nat) (t : List AV) (s : T AV) (h : Heap) (k : List Fr) (Q : Ex → T AV → Heap → Prop), i + n = l.length → Ext h0 h → LR h (h0.next ≤ ·) (sg s 3) 3 t i → Cat RFeat (l.take i) t → sg s 6 = w → sg s 7 = .int .i64 l.length → sg s 8 = .int .i64 i →
    (∀ s' h' t', Ext h0 h' → LR h' (h0.next ≤ ·) (sg s' 3) 3 t' l.length → Cat RFeat l t' → Un P k Q (.exit 0) s' h') → Lp P b18_0 s h (Un P k Q) := by
  induction n with
  | zero =>
    intro i t s h k Q hn x0 r c t6 t7 t8 hQ
    refine g.lpe b18_0.eq_1 ?_
    obtain rfl : i = l.length := by omega
    have c1 : ¬ ((l.length : Int) < (l.length : Int)) := by omega
    simp only [t6, t7, t8, c1, RX, VOp.fresh, bxC, bsC, un, most, callsOf, seval, Int.reducePow, ↓reduceIte, Nat.reduceEqDiff, reduceCtorEq]
    rw [List.take_length] at c
    refine hQ _ _ t x0 ?_ c
    simp only [sg_set, Nat.reduceEqDiff, ↓reduceIte]
    exact r
  | succ n ih =>
    intro i t s h k Q hn x0 r c t6 t7 t8 hQ
    refine g.lpe b18_0.eq_1 ?_
    have c1 : (i : Int) < (l.length : Int) := by omega
    obtain ⟨x1, r1, i4, i2, i3, _, g1⟩ := getFeat hw i (by omega)
    have hgi : l.getD i feat0 = l[i] := by simp [List.getD_eq_getElem?_getD, List.getElem?_eq_getElem (show i < l.length by omega)]
    have w1 : IntKind.i64.wrap ((i : Int) + 1) = ((i + 1 : Nat) : Int) := by rw [w64 (by omega) (by omega)]; push_cast; rfl
    have o1 := isL_one i4
    simp only [t6, t7, t8, c1, g1, o1, HN, RW, RX, VOp.fresh, bxC, bsC, un, most, callsOf, seval, Int.reducePow, ↓reduceIte, Nat.reduceEqDiff, reduceCtorEq]
    have y1 := Ext.new (h := h) (o := .cells [.int .i64 0, .int .i64 0, .nils] 31 0) (o' := .cells [.int .i64 (l.getD i feat0).id, .int .i64 (l.getD i feat0).shape, x1] 31 1)
    refine fcopy_cl g (f := l.getD i feat0) ⟨x1, rfl, i2, i3, i4⟩ fun c' t1 h2 lv rf hl ho x2 => ?_
    obtain ⟨a1, a2, a3, rfl⟩ := len3 hl
    have ho1 : a1.one = true := by simp at ho; exact ho.1
    have ho2 : a2.one = true := by simp at ho; exact ho.2.1
    have ho3 : a3.one = true := by simp at ho; exact ho.2.2
    have y2 := y1.trans x2
    have y3 := Ext.mk (h := h2) (.cells [a1, a2, a3] 31 0)
    have n3 : (h2.mk' h2.next (.cells [a1, a2, a3] 31 0)).next = h2.next + 1 := by rw [mk_next]; omega
    have hn0 : h0.next ≤ h2.next := Nat.le_trans x0.1 y2.1
    have r3 : LR (h2.mk' h2.next (.cells [a1, a2, a3] 31 0)) (h0.next ≤ ·) (sg s 3) 3 t i := r.frame (Nat.le_trans y2.1 y3.1) fun b _ hb => (y3.2 b (Nat.lt_of_lt_of_le hb y2.1)).trans (y2.2 b hb)
    have yn := y1.1
    obtain ⟨h4, p4, r4, n4, k4⟩ := r3.push (nb := h2.next) (eb := 31) (vb := 0) (c := [a1, a2, a3]) (t1 := t1) (by rw [Heap.get_mk, if_pos rfl]) rfl ho ((lv.frame y3.1 fun b _ hb => y3.2 b hb).weak fun b hb hl2 => ⟨by have := x0.1; omega, fun hc => by have := r.lt b hc; omega⟩) (by rw [n3]; omega) (bytes := 40) (by unfold most2; omega) 31
    rw [n3] at p4 r4 n4 k4
    have x4 : Ext h0 h4 := ⟨by omega, fun b hb => by
      have hb' := Nat.lt_of_lt_of_le hb x0.1
      rw [k4 b (fun hc => by have := r.inB b hc; omega) (by omega), y3.2 b (by omega), y2.2 b hb']
      exact x0.2 b hb⟩
    simp only [t8, ho1, ho2, ho3, p4, w1, HN, RW, RX, VOp.fresh, bxC, bsC, un, most, callsOf, seval, Int.reducePow, ↓reduceIte, Nat.reduceEqDiff, reduceCtorEq]
    refine ih (i + 1) (t ++ t1) _ h4 k Q (by omega) x4 ?_ ?_ ?_ ?_ ?_ hQ
    · simp only [sg_set, Nat.reduceEqDiff, ↓reduceIte]
      exact r4
    · exact c.take (by omega) (by rw [← hgi]; exact rf)
    · simp only [t6, sg_set, Nat.reduceEqDiff, ↓reduceIte]
    · simp only [t7, sg_set, Nat.reduceEqDiff, ↓reduceIte]
    · simp only [sg_set, Nat.reduceEqDiff, ↓reduceIte]
theorem copyAll_cl (g : Pg P tab) {l : List Feat} {w : AV} (hw : IsL 32 RFeat w l) (hs : l.length ≤ 70000) {h : Heap} {Q : AV → Heap → Prop} (q : ∀ v h', OutR h' h.next v l → Ext h h' → Q v h') : Cl P 18 [w] h Q := by
  refine g.cl (vf := v18) rfl rfl ?_
  simp only [v18, hw.len, RX, VOp.fresh, bxC, bsC, un, most, callsOf, seval, Int.reducePow, ↓reduceIte, Nat.reduceEqDiff, reduceCtorEq]
  refine copyAll_loop g hw hs (h0 := h) l.length 0 [] _ h _ _ (by omega) (Ext.refl h) ?_ .nil ?_ ?_ ?_ fun s' h' t' x r c => ?_
  · simp only [sg_set, Nat.reduceEqDiff, ↓reduceIte]
    exact LR.nil _ _ _
  · simp only [sg_set, Nat.reduceEqDiff, ↓reduceIte]
  · simp only [sg_set, Nat.reduceEqDiff, ↓reduceIte]
  · simp only [sg_set, Nat.reduceEqDiff, ↓reduceIte]
    rfl
  simp only [RX, VOp.fresh, bxC, bsC, un, most, callsOf, seval, Int.reducePow, ↓reduceIte, Nat.reduceEqDiff, reduceCtorEq]
  exact q _ _ (OutR.of r c) x
end
end Go.Proofs.Ytpfpngmfooagiaa.VM
namespace Go.Proofs.Ytpfpngmfooagiaa.VM
attribute [local irreducible] Af Nx EvO Ev Un Gd Cd EvR EvQ EvC Nc Gc Lp EvM NxM AfM GdM EvMR EvMQ EvMD EvMC Nm Gm
section
variable {P : Program}
theorem apply_loop (g : Pg P tab) (hins : InsF P 22 31) {fs : List Feat} {ops : List Op} {wo : AV} (up : Up fs) (hs : fs.length ≤ 65535) (hl : ops.length ≤ 32) (hwo : IsL 112 ROp wo ops) {h0 : Heap} (n : Nat) :
    ∀ (i : Nat) (s : T AV) (h : Heap) (k : List Fr) (Q : Ex → T AV → Heap → Prop), i + n = ops.length → Ext h0 h → OutR h h0.next (sg s 6) (apF fs (ops.take i)) → sg s 1 = wo → sg s 22 = .int .i64 ops.length → sg s 23 = .int .i64 i →
    (∀ s' h', Ext h0 h' → OutR h' h0.next (sg s' 6) (apF fs ops) → Un P k Q (.exit 0) s' h') → Lp P b7_0 s h (Un P k Q) := by
  induction n with
  | zero =>
    intro i s h k Q hn x0 r t1 t22 t23 hQ
    refine g.lpe b7_0.eq_1 ?_
    obtain rfl : i = ops.length := by omega
    have c1 : ¬ ((ops.length : Int) < (ops.length : Int)) := by omega
    simp only [t1, t22, t23, c1, RX, VOp.fresh, bxC, bsC, un, most, callsOf, seval, Int.reducePow, ↓reduceIte, Nat.reduceEqDiff, reduceCtorEq]
    rw [List.take_length] at r
    refine hQ _ _ x0 ?_
    simp only [sg_set, Nat.reduceEqDiff, ↓reduceIte]
    exact r
  | succ n ih =>
    intro i s h k Q hn x0 r t1 t22 t23 hQ
    refine g.lpe b7_0.eq_1 ?_
    have c1 : (i : Int) < (ops.length : Int) := by omega
    obtain ⟨c, rr, hc, htc, htr, hat⟩ := getOp hwo i (by omega)
    have hgi : ops.getD i op0 = ops[i] := by simp [List.getD_eq_getElem?_getD, List.getElem?_eq_getElem (show i < ops.length by omega)]
    have hst : apF fs (ops.take (i + 1)) = apS (apF fs (ops.take i)) (ops.getD i op0) := by
      rw [List.take_succ_eq_append_getElem (show i < ops.length by omega), apF_snoc, hgi]
    have w1 : IntKind.i64.wrap ((i : Int) + 1) = ((i + 1 : Nat) : Int) := by rw [w64 (by omega) (by omega)]; push_cast; rfl
    have hup := apF_up up (ops.take i)
    have hlen := apF_len fs (ops.take i)
    rw [List.length_take] at hlen
    generalize ops.getD i op0 = o at *
    generalize apF fs (ops.take i) = l at *
    have hlen' : l.length ≤ 66000 := by omega
    have hc' := hc
    obtain ⟨rv, ra, ru, rfl, i1, i2, i3, iv, i4, i5, ia, iu⟩ := hc
    simp only [t1, t22, t23, c1, hat, RX, VOp.fresh, bxC, bsC, un, most, callsOf, seval, Int.reducePow, ↓reduceIte, Nat.reduceEqDiff, reduceCtorEq]
    refine (opId_pu g hc').go (by simp [AV.tolds, AV.told, iv.told tRing, ia.told tInt, iu.told tInt, htr]) ?_
    rintro _ rfl
    obtain ⟨tl, lvt, isl⟩ := r.lv (by omega)
    simp only [RX, VOp.fresh, bxC, bsC, un, most, callsOf, seval, Int.reducePow, ↓reduceIte, Nat.reduceEqDiff, reduceCtorEq]
    refine (mplace_pu g isl hup (opId o)).cl (.cons lvt.fz (.cons (.int _ _) .nil)) ?_
    rintro _ ⟨m, f, rfl, ix, hf⟩
    have hm := ix.1
    have w2 : IntKind.i64.wrap ((m : Int) + 1) = ((m + 1 : Nat) : Int) := by rw [w64 (by omega) (by omega)]; push_cast; rfl
    obtain ⟨elo, e1, e2⟩ := ix.cut hup
    have lm : m = (loF l (opId o)).length := by rw [elo, List.length_take]; omega
    unfold apS at hst
    cases f with
    | true =>
      obtain ⟨y, ey⟩ := e1 (hf.1 rfl)
      have hle : (loF l (opId o) ++ y :: hiF l (opId o)).length ≤ 66000 := by rw [← ey]; exact hlen'
      have hle2 : (loF l (opId o) ++ hiF l (opId o)).length ≤ 66000 := by simp only [List.length_append, List.length_cons] at hle ⊢; omega
      have r' : OutR h h0.next (sg s 6) (loF l (opId o) ++ y :: hiF l (opId o)) := by rw [← ey]; exact r
      clear ey e1 e2 elo hf ix
      subst lm
      simp only [w2, RX, VOp.fresh, bxC, bsC, un, most, callsOf, seval, Int.reducePow, ↓reduceIte, Nat.reduceEqDiff, reduceCtorEq]
      refine r'.del g (by omega) fun v1 h1 r1 n1 k1 => ?_
      have x1 : Ext h0 h1 := ⟨by rw [n1]; exact x0.1, fun b hb => (k1 b hb).trans (x0.2 b hb)⟩
      by_cases hk : o.kind = 0
      · rw [if_pos hk] at hst
        simp only [t1, t22, t23, hk, HN, RW, RX, VOp.fresh, bxC, bsC, un, most, callsOf, seval, Int.reducePow, ↓reduceIte, Nat.reduceEqDiff, reduceCtorEq]
        refine fcopy_cl g (f := o.f) ⟨rv, rfl, i2, i3, iv⟩ fun c' t1' h2 lv rf hl3 ho x2 => ?_
        obtain ⟨a1, a2, a3, rfl⟩ := len3 hl3
        have ho1 : a1.one = true := by simp at ho; exact ho.1
        have ho2 : a2.one = true := by simp at ho; exact ho.2.1
        have ho3 : a3.one = true := by simp at ho; exact ho.2.2
        have y3 := Ext.mk (h := h2) (.cells [a1, a2, a3] 31 0)
        have n3 : (h2.mk' h2.next (.cells [a1, a2, a3] 31 0)).next = h2.next + 1 := by rw [mk_next]; omega
        have hx1 := (x1).1
        have hx2 := x2.1
        have r3 : OutR (h2.mk' h2.next (.cells [a1, a2, a3] 31 0)) h0.next (v1) (loF l (opId o) ++ hiF l (opId o)) := (r1).frame (Nat.le_trans x2.1 y3.1) fun b _ hb => (y3.2 b (Nat.lt_of_lt_of_le hb x2.1)).trans (x2.2 b hb)
        simp only [ho1, ho2, ho3, HN, RW, RX, VOp.fresh, bxC, bsC, un, most, callsOf, seval, Int.reducePow, ↓reduceIte, Nat.reduceEqDiff, reduceCtorEq]
        refine OutR.ins hins r3 (f := o.f) (by omega) (by omega) (vb := h2.next) (e2 := 31) (ver2 := 0) (c := [a1, a2, a3]) (tx := t1') (by rw [Heap.get_mk, if_pos rfl]) (fun hc => by have := (r1).lt _ hc; omega) ((lv.frame y3.1 fun b _ hb => y3.2 b hb).weak fun b hb hl2 => ⟨by omega, fun hc => by have := (r1).lt b hc; omega⟩) rf rfl ho fun v4 h4 r4 n4 k4 => ?_
        have x4 : Ext h0 h4 := ⟨by omega, fun b hb => by
          rw [k4 b hb, y3.2 b (by omega), x2.2 b (by omega)]
          exact (x1).2 b hb⟩
        simp only [t1, t22, t23, w1, RX, VOp.fresh, bxC, bsC, un, most, callsOf, seval, Int.reducePow, ↓reduceIte, Nat.reduceEqDiff, reduceCtorEq]
        refine ih (i + 1) _ h4 k Q (by omega) x4 ?_ ?_ ?_ ?_ hQ
        · simp only [sg_set, Nat.reduceEqDiff, ↓reduceIte]
          rw [hst]
          exact r4
        · simp only [t1, sg_set, Nat.reduceEqDiff, ↓reduceIte]
        · simp only [t22, sg_set, Nat.reduceEqDiff, ↓reduceIte]
        · simp only [sg_set, Nat.reduceEqDiff, ↓reduceIte]
      · rw [if_neg hk, List.nil_append] at hst
        simp only [t1, t22, t23, hk, w1, HN, RW, RX, VOp.fresh, bxC, bsC, un, most, callsOf, seval, Int.reducePow, ↓reduceIte, Nat.reduceEqDiff, reduceCtorEq]
        refine ih (i + 1) _ h1 k Q (by omega) (x1) ?_ ?_ ?_ ?_ hQ
        · simp only [sg_set, Nat.reduceEqDiff, ↓reduceIte]
          rw [hst]
          exact r1
        · simp only [t1, sg_set, Nat.reduceEqDiff, ↓reduceIte]
        · simp only [t22, sg_set, Nat.reduceEqDiff, ↓reduceIte]
        · simp only [sg_set, Nat.reduceEqDiff, ↓reduceIte]
    | false =>
      have ey := e2 fun hc => by have := hf.2 hc; cases this
      have r1 : OutR h h0.next (sg s 6) (loF l (opId o) ++ hiF l (opId o)) := by rw [← ey]; exact r
      have hle2 : (loF l (opId o) ++ hiF l (opId o)).length ≤ 66000 := by rw [← ey]; exact hlen'
      clear ey e1 e2 elo hf ix
      subst lm
      by_cases hk : o.kind = 0
      · rw [if_pos hk] at hst
        simp only [t1, t22, t23, hk, HN, RW, RX, VOp.fresh, bxC, bsC, un, most, callsOf, seval, Int.reducePow, ↓reduceIte, Nat.reduceEqDiff, reduceCtorEq]
        refine fcopy_cl g (f := o.f) ⟨rv, rfl, i2, i3, iv⟩ fun c' t1' h2 lv rf hl3 ho x2 => ?_
        obtain ⟨a1, a2, a3, rfl⟩ := len3 hl3
        have ho1 : a1.one = true := by simp at ho; exact ho.1
        have ho2 : a2.one = true := by simp at ho; exact ho.2.1
        have ho3 : a3.one = true := by simp at ho; exact ho.2.2
        have y3 := Ext.mk (h := h2) (.cells [a1, a2, a3] 31 0)
        have n3 : (h2.mk' h2.next (.cells [a1, a2, a3] 31 0)).next = h2.next + 1 := by rw [mk_next]; omega
        have hx1 := (x0).1
        have hx2 := x2.1
        have r3 : OutR (h2.mk' h2.next (.cells [a1, a2, a3] 31 0)) h0.next (sg s 6) (loF l (opId o) ++ hiF l (opId o)) := (r1).frame (Nat.le_trans x2.1 y3.1) fun b _ hb => (y3.2 b (Nat.lt_of_lt_of_le hb x2.1)).trans (x2.2 b hb)
        simp only [ho1, ho2, ho3, HN, RW, RX, VOp.fresh, bxC, bsC, un, most, callsOf, seval, Int.reducePow, ↓reduceIte, Nat.reduceEqDiff, reduceCtorEq]
        refine OutR.ins hins r3 (f := o.f) (by omega) (by omega) (vb := h2.next) (e2 := 31) (ver2 := 0) (c := [a1, a2, a3]) (tx := t1') (by rw [Heap.get_mk, if_pos rfl]) (fun hc => by have := (r1).lt _ hc; omega) ((lv.frame y3.1 fun b _ hb => y3.2 b hb).weak fun b hb hl2 => ⟨by omega, fun hc => by have := (r1).lt b hc; omega⟩) rf rfl ho fun v4 h4 r4 n4 k4 => ?_
        have x4 : Ext h0 h4 := ⟨by omega, fun b hb => by
          rw [k4 b hb, y3.2 b (by omega), x2.2 b (by omega)]
          exact (x0).2 b hb⟩
        simp only [t1, t22, t23, w1, RX, VOp.fresh, bxC, bsC, un, most, callsOf, seval, Int.reducePow, ↓reduceIte, Nat.reduceEqDiff, reduceCtorEq]
        refine ih (i + 1) _ h4 k Q (by omega) x4 ?_ ?_ ?_ ?_ hQ
        · simp only [sg_set, Nat.reduceEqDiff, ↓reduceIte]
          rw [hst]
          exact r4
        · simp only [t1, sg_set, Nat.reduceEqDiff, ↓reduceIte]
        · simp only [t22, sg_set, Nat.reduceEqDiff, ↓reduceIte]
        · simp only [sg_set, Nat.reduceEqDiff, ↓reduceIte]
      · rw [if_neg hk, List.nil_append] at hst
        simp only [t1, t22, t23, hk, w1, HN, RW, RX, VOp.fresh, bxC, bsC, un, most, callsOf, seval, Int.reducePow, ↓reduceIte, Nat.reduceEqDiff, reduceCtorEq]
        refine ih (i + 1) _ h k Q (by omega) (x0) ?_ ?_ ?_ ?_ hQ
        · simp only [sg_set, Nat.reduceEqDiff, ↓reduceIte]
          rw [hst]
          exact r1
        · simp only [t1, sg_set, Nat.reduceEqDiff, ↓reduceIte]
        · simp only [t22, sg_set, Nat.reduceEqDiff, ↓reduceIte]
        · simp only [sg_set, Nat.reduceEqDiff, ↓reduceIte]
theorem apply_cl (g : Pg P tab) (hins : InsF P 22 31) {fs : List Feat} {ops : List Op} {w wo : AV} (hw : IsL 32 RFeat w fs) (hwo : IsL 112 ROp wo ops) {h : Heap} {Q : AV → Heap → Prop}
    (qN : ∀ h', Ext h h' → ¬ (featsUp fs ∧ opsOk 8 ops) → Q (.tup [.nils, .int .i64 2400]) h') (qY : ∀ v h', featsUp fs → opsOk 8 ops → OutR h' h.next v (apF fs ops) → Ext h h' → Q (.tup [v, .int .i64 0]) h') : Cl P 7 [w, wo] h Q := by
  refine g.cl (vf := v7) rfl rfl ?_
  simp only [v7, RX, VOp.fresh, bxC, bsC, un, most, callsOf, seval, Int.reducePow, ↓reduceIte, Nat.reduceEqDiff, reduceCtorEq]
  refine (rising_pu g hw).go (by simp [AV.tolds, AV.told, hw.told tFeat]) ?_
  rintro _ ⟨b, rfl, hb⟩
  cases b with
  | false =>
    simp only [RX, VOp.fresh, bxC, bsC, un, most, callsOf, seval, Int.reducePow, ↓reduceIte, Nat.reduceEqDiff, reduceCtorEq]
    exact qN _ (Ext.refl h) fun c => by have := hb.2 c.1; cases this
  | true =>
    have up := hb.1 rfl
    have hs := featsUp_len up
    simp only [RX, VOp.fresh, bxC, bsC, un, most, callsOf, seval, Int.reducePow, ↓reduceIte, Nat.reduceEqDiff, reduceCtorEq]
    refine (opsMay_pu g hwo).go (by simp [AV.tolds, AV.told, hwo.told tOp]) ?_
    rintro _ ⟨b, rfl, hb2⟩
    cases b with
    | false =>
      simp only [RX, VOp.fresh, bxC, bsC, un, most, callsOf, seval, Int.reducePow, ↓reduceIte, Nat.reduceEqDiff, reduceCtorEq]
      exact qN _ (Ext.refl h) fun c => by have := hb2.2 c.2; cases this
    | true =>
      have ok := hb2.1 rfl
      simp only [RX, VOp.fresh, bxC, bsC, un, most, callsOf, seval, Int.reducePow, ↓reduceIte, Nat.reduceEqDiff, reduceCtorEq]
      refine copyAll_cl g hw (by omega) fun v h1 r1 x1 => ?_
      simp only [hwo.len, RX, VOp.fresh, bxC, bsC, un, most, callsOf, seval, Int.reducePow, ↓reduceIte, Nat.reduceEqDiff, reduceCtorEq]
      refine apply_loop g hins up.up hs ok.2.1 hwo (h0 := h) ops.length 0 _ h1 _ _ (by omega) x1 ?_ ?_ ?_ ?_ fun s' h' x' r' => ?_
      · simp only [sg_set, Nat.reduceEqDiff, ↓reduceIte]
        exact r1
      · simp only [sg_set, Nat.reduceEqDiff, ↓reduceIte]
      · simp only [sg_set, Nat.reduceEqDiff, ↓reduceIte]
      · simp only [sg_set, Nat.reduceEqDiff, ↓reduceIte]
        rfl
      simp only [r'.one, RX, VOp.fresh, bxC, bsC, un, most, callsOf, seval, Int.reducePow, ↓reduceIte, Nat.reduceEqDiff, reduceCtorEq]
      exact qY _ _ up ok r' x'
end
end Go.Proofs.Ytpfpngmfooagiaa.VM
namespace Go.Proofs.Ytpfpngmfooagiaa.VM
attribute [local irreducible] Af Nx EvO Ev Un Gd Cd EvR EvQ EvC Nc Gc Lp EvM NxM AfM GdM EvMR EvMQ EvMD EvMC Nm Gm
def inB (p : Pt) (b : Bx) : Prop := b.x0 ≤ p.x ∧ p.x ≤ b.x1 ∧ b.y0 ≤ p.y ∧ p.y ≤ b.y1
instance (p : Pt) (b : Bx) : Decidable (inB p b) := by unfold inB; infer_instance
section
variable {P : Program}
theorem within_pu (g : Pg P tab) {p : Pt} {b : Bx} (hp : ptOk p) (hb : bOk b) : Pu P 38 [aPt p, aBx b] (fun v => v = .bool (decide (inB p b))) := by
  refine g.pu (vf := v38) rfl rfl ?_
  simp only [v38, aPt, aBx, HN, RW, RX, VOp.fresh, bxC, bsC, un, most, callsOf, seval, Int.reducePow, ↓reduceIte, Nat.reduceEqDiff, reduceCtorEq]
  refine (pointMay_pu g p).go rfl ?_
  rintro _ rfl
  have hp' : decide (ptOk p) = true := decide_eq_true hp
  rw [hp']
  simp only [HN, RW, RX, VOp.fresh, bxC, bsC, un, most, callsOf, seval, Int.reducePow, ↓reduceIte, Nat.reduceEqDiff, reduceCtorEq]
  refine (boxMay_pu g b.x0 b.y0 b.x1 b.y1).go rfl ?_
  rintro _ rfl
  have hb' : decide (bxOk b.x0 b.y0 b.x1 b.y1) = true := decide_eq_true hb
  rw [hb']
  by_cases c1 : b.x0 ≤ p.x
  · by_cases c2 : p.x ≤ b.x1
    · by_cases c3 : b.y0 ≤ p.y
      · by_cases c4 : p.y ≤ b.y1
        · simp only [c1, c2, c3, c4, inB, HN, RW, RX, VOp.fresh, bxC, bsC, un, most, callsOf, seval, Int.reducePow, ↓reduceIte, Nat.reduceEqDiff, reduceCtorEq]
        · simp only [c1, c2, c3, c4, inB, HN, RW, RX, VOp.fresh, bxC, bsC, un, most, callsOf, seval, Int.reducePow, ↓reduceIte, Nat.reduceEqDiff, reduceCtorEq]
      · simp only [c1, c2, c3, inB, HN, RW, RX, VOp.fresh, bxC, bsC, un, most, callsOf, seval, Int.reducePow, ↓reduceIte, Nat.reduceEqDiff, reduceCtorEq]
    · simp only [c1, c2, inB, HN, RW, RX, VOp.fresh, bxC, bsC, un, most, callsOf, seval, Int.reducePow, ↓reduceIte, Nat.reduceEqDiff, reduceCtorEq]
  · simp only [c1, inB, HN, RW, RX, VOp.fresh, bxC, bsC, un, most, callsOf, seval, Int.reducePow, ↓reduceIte, Nat.reduceEqDiff, reduceCtorEq]
/-- where the rounds over the places stand -/
structure MtJ (r : LoopB) (N fb bb qb ib : Nat) (fc : List AV) (b : Bx) (h : Heap) : Prop where
  lt : N < h.next ∧ fb < N ∧ bb < N ∧ qb < N ∧ ib < N ∧ fb ≠ qb ∧ fb ≠ ib ∧ bb ≠ qb ∧ bb ≠ ib ∧ qb ≠ ib
  lp : h.get N = some (.loop r)
  f : ∃ ver, h.get fb = some (.cells fc 31 ver)
  bx : ∃ ver, h.get bb = some (.cells [.int .i64 b.x0, .int .i64 b.y0, .int .i64 b.x1, .int .i64 b.y1] 45 ver)
  q : ∃ ver, h.get qb = some (.cells [.bool false] 4 ver)
  i : ∃ ver, h.get ib = some (.cells [.int .i64 0] 25 ver)
theorem MtJ.ext {r : LoopB} {N fb bb qb ib : Nat} {fc : List AV} {b : Bx} {h h' : Heap} (j : MtJ r N fb bb qb ib fc b h) (x : Ext h h') : MtJ r N fb bb qb ib fc b h' := by
  obtain ⟨h1, h2, h3, h4, h5, h6⟩ := j.lt
  refine ⟨⟨Nat.lt_of_lt_of_le h1 x.1, h2, h3, h4, h5, h6⟩, by rw [x.2 _ h1]; exact j.lp, ?_, ?_, ?_, ?_⟩
  · obtain ⟨v, e⟩ := j.f
    exact ⟨v, by rw [x.2 _ (by omega)]; exact e⟩
  · obtain ⟨v, e⟩ := j.bx
    exact ⟨v, by rw [x.2 _ (by omega)]; exact e⟩
  · obtain ⟨v, e⟩ := j.q
    exact ⟨v, by rw [x.2 _ (by omega)]; exact e⟩
  · obtain ⟨v, e⟩ := j.i
    exact ⟨v, by rw [x.2 _ (by omega)]; exact e⟩
def MtX (r : LoopB) (N qb ib : Nat) (h : Heap) : Prop := h.get N = some (.loop (r.left .ret)) ∧ (∃ ver, h.get qb = some (.cells [.bool true] 4 ver)) ∧ ∃ ver, h.get ib = some (.cells [.int .i64 0] 25 ver)
theorem meets_round (g : Pg P tab) {s : T AV} {N fb bb qb ib : Nat} (t3 : sg s 3 = .ptr bb 0) (t4 : sg s 4 = .ptr qb 0) (t5 : sg s 5 = .ptr ib 0) {fc : List AV} {b : Bx} (hb : bOk b) {p : Pt} (hp : ptOk p) {r : LoopB} (hr : r = ⟨P, s, [20], b25_0, b25_1, 0, none⟩) {h : Heap} (j : MtJ r N fb bb qb ib fc b h) :
    Cl P (yf N) [aPt p] h fun w h' => (w = .bool true ∧ MtJ r N fb bb qb ib fc b h' ∧ ¬ inB p b) ∨ (w = .bool false ∧ MtX r N qb ib h' ∧ inB p b) := by
  obtain ⟨l1, l2, l3, l4, l5, l6, l7, l8, l9, l10⟩ := j.lt
  refine yield_cl g.hm j.lp (by rw [hr]) (by rw [hr]) (by rw [hr]) (by rw [hr]; rfl) (by rw [hr]; rfl) (by rw [hr]; rfl) ?_
  rw [show r.asg = b25_0 by rw [hr], show r.body = b25_1 by rw [hr], show setps r.ps [aPt p] r.s = s.set 20 (aPt p) by rw [hr]; rfl]
  simp only [b25_0, aPt, RW, RX, VOp.fresh, bxC, bsC, un, most, callsOf, seval, Int.reducePow, ↓reduceIte, Nat.reduceEqDiff, reduceCtorEq]
  have e1 : ¬ N = h.next := by omega
  have e4 : ¬ h.next = N := by omega
  obtain ⟨vf, gf⟩ := j.f
  obtain ⟨vb, gb⟩ := j.bx
  obtain ⟨vq, gq⟩ := j.q
  obtain ⟨vi, gi⟩ := j.i
  refine ⟨by simp only [e1, if_false]; exact j.lp, ?_⟩
  obtain ⟨h1, eh1⟩ : ∃ h1, h1 = (((h.mk' h.next (.cells [.int .i64 0, .int .i64 0] 47 0)).put h.next (.cells [.int .i64 p.x, .int .i64 p.y] 47 1)).put N (.loop r.busy)) := ⟨_, rfl⟩
  have k1 : h1.get h.next = some (.cells [.int .i64 p.x, .int .i64 p.y] 47 1) := by rw [eh1, Heap.get_put, if_neg e4, Heap.get_put, if_pos rfl]
  have kk : ∀ d, d < N → h1.get d = h.get d := fun d hd => by rw [eh1, Heap.get_put, if_neg (by omega), Heap.get_put, if_neg (by omega), Heap.get_mk, if_neg (by omega)]
  have k3 : h1.get N = some (.loop r.busy) := by rw [eh1, Heap.get_put, if_pos rfl]
  have hn1 : h1.next = h.next + 1 := by rw [eh1, put_next, put_next, mk_next]; omega
  have gb1 := (kk bb l3).trans gb
  have gq1 := (kk qb l4).trans gq
  have gi1 := (kk ib l5).trans gi
  have gf1 := (kk fb l2).trans gf
  have hqi : ¬ ib = qb := fun e => l10 e.symm
  have n1 : ¬ N = qb := by omega
  have n2 : ¬ N = ib := by omega
  rw [← eh1]
  simp only [b25_1, t3, k1, gb1, RW, RX, VOp.fresh, bxC, bsC, un, most, callsOf, seval, Int.reducePow, ↓reduceIte, Nat.reduceEqDiff, reduceCtorEq]
  refine (within_pu g hp hb).go rfl ?_
  rintro _ rfl
  by_cases hi : inB p b
  · simp only [hi, t4, t5, gq1, gi1, hqi, RW, RX, VOp.fresh, bxC, bsC, un, most, callsOf, seval, Int.reducePow, ↓reduceIte, Nat.reduceEqDiff, reduceCtorEq]
    refine ⟨by rw [if_neg n2, if_neg n1]; exact k3, .inr ⟨rfl, by rw [Heap.get_put, if_pos rfl], ⟨vq + 1, ?_⟩, ⟨vi + 1, ?_⟩⟩⟩
    · rw [Heap.get_put, if_neg (fun e => n1 e.symm), Heap.get_put, if_neg l10, Heap.get_put, if_pos rfl]
    · rw [Heap.get_put, if_neg (fun e => n2 e.symm), Heap.get_put, if_pos rfl]
  · simp only [hi, RW, RX, VOp.fresh, bxC, bsC, un, most, callsOf, seval, Int.reducePow, ↓reduceIte, Nat.reduceEqDiff, reduceCtorEq]
    refine ⟨k3, .inl ⟨rfl, ⟨by rw [put_next, hn1]; omega, l2, l3, l4, l5, l6, l7, l8, l9, l10⟩, by rw [Heap.get_put, if_pos rfl], ⟨vf, ?_⟩, ⟨vb, ?_⟩, ⟨vq, ?_⟩, ⟨vi, ?_⟩⟩⟩
    · rw [Heap.get_put, if_neg (by omega)]; exact gf1
    · rw [Heap.get_put, if_neg (by omega)]; exact gb1
    · rw [Heap.get_put, if_neg (by omega)]; exact gq1
    · rw [Heap.get_put, if_neg (by omega)]; exact gi1
/-- the rounds over the places -/
theorem meets_go (g : Pg P tab) {f : Feat} {v a0 a1 : AV} (hv : IsL 24 RRing v f.rings) (ho : featOk f) {s : T AV} {N M fb bb qb ib e1 n1 n2 n3 n4 n5 : Nat} (t3 : sg s 3 = .ptr bb 0) (t4 : sg s 4 = .ptr qb 0) (t5 : sg s 5 = .ptr ib 0) {h : Heap} (hN : h.next = N) (gM : h.get M = some (.cells [.ptr fb 0] e1 n1)) (gf : h.get fb = some (.cells [a0, a1, v] 31 n2))
    (l0 : M < N ∧ fb < N ∧ bb < N ∧ qb < N ∧ ib < N ∧ fb ≠ qb ∧ fb ≠ ib ∧ bb ≠ qb ∧ bb ≠ ib ∧ qb ≠ ib) {b : Bx} (hb : bOk b) (gb : h.get bb = some (.cells [.int .i64 b.x0, .int .i64 b.y0, .int .i64 b.x1, .int .i64 b.y1] 45 n3)) (gq : h.get qb = some (.cells [.bool false] 4 n4)) (gi : h.get ib = some (.cells [.int .i64 0] 25 n5)) {Q : Ex → T AV → Heap → Prop}
    (qN : ∀ h' v1 v2 v3 v4, N ≤ h'.next → h'.get fb = some (.cells [a0, a1, v] 31 v1) → h'.get bb = some (.cells [.int .i64 b.x0, .int .i64 b.y0, .int .i64 b.x1, .int .i64 b.y1] 45 v2) → h'.get qb = some (.cells [.bool false] 4 v3) → h'.get ib = some (.cells [.int .i64 0] 25 v4) → (∀ p ∈ fPts f, ¬ inB p b) → Q .normal s h')
    (qR : ∀ h' v1 v2, h'.get qb = some (.cells [.bool true] 4 v1) → h'.get ib = some (.cells [.int .i64 0] 25 v2) → (∃ p ∈ fPts f, inB p b) → Q .ret s h') :
    56 < YB ∧ Cl P 56 [.yld N, .ptr M 0] (h.mk' N (.loop ⟨P, s, [20], b25_0, b25_1, 0, none⟩)) fun _ h2 => LoopEnd N s h2 Q := by
  obtain ⟨q1, q2, q3, q4, q5, q6⟩ := l0
  refine ⟨by decide, ?_⟩
  obtain ⟨r, hr⟩ : ∃ r : LoopB, r = ⟨P, s, [20], b25_0, b25_1, 0, none⟩ := ⟨_, rfl⟩
  rw [← hr]
  refine (pts_cl g hv (bb := M) (fb := fb) (e1 := e1) (n1 := n1) (e2 := 31) (n2 := n2) (a0 := a0) (a1 := a1) (J := fun pre h => MtJ r N fb bb qb ib [a0, a1, v] b h ∧ ∀ p ∈ pre, ¬ inB p b) (Jx := fun h => MtX r N qb ib h ∧ ∃ p ∈ fPts f, inB p b) (fun j x => ⟨j.1.ext x, j.2⟩) (fun pre p h hpre j => ?_) ?_ ?_ ?_).mono fun _ h2 hj => ?_
  · have hm : p ∈ fPts f := hpre.subset (by simp)
    refine (meets_round g t3 t4 t5 hb (ho.pts p hm) hr j.1).mono ?_
    rintro w h' (⟨rfl, j', hi⟩ | ⟨rfl, jx, hi⟩)
    · refine .inl ⟨rfl, j', fun q hq => ?_⟩
      rcases List.mem_append.1 hq with hq | hq
      · exact j.2 q hq
      · rw [List.mem_singleton.1 hq]; exact hi
    · exact .inr ⟨rfl, jx, p, hm, hi⟩
  · rw [Heap.get_mk, if_neg (by omega)]; exact gM
  · rw [Heap.get_mk, if_neg (by omega)]; exact gf
  · refine ⟨⟨⟨by rw [← hN, mk_next]; omega, q2, q3, q4, q5, q6⟩, by rw [Heap.get_mk, if_pos rfl], ⟨n2, ?_⟩, ⟨n3, ?_⟩, ⟨n4, ?_⟩, ⟨n5, ?_⟩⟩, fun p hp => by simp at hp⟩
    · rw [Heap.get_mk, if_neg (by omega)]; exact gf
    · rw [Heap.get_mk, if_neg (by omega)]; exact gb
    · rw [Heap.get_mk, if_neg (by omega)]; exact gq
    · rw [Heap.get_mk, if_neg (by omega)]; exact gi
  · rcases hj with ⟨j, hno⟩ | ⟨⟨x1, ⟨v1, x2⟩, ⟨v2, x3⟩⟩, hyes⟩
    · unfold LoopEnd
      rw [j.lp]
      obtain ⟨v1, g1⟩ := j.f
      obtain ⟨v2, g2⟩ := j.bx
      obtain ⟨v3, g3⟩ := j.q
      obtain ⟨v4, g4⟩ := j.i
      have hfin : Q .normal s (h2.put N .dead) := qN _ v1 v2 v3 v4 (by rw [put_next]; have := j.lt.1; omega) (by rw [Heap.get_put, if_neg (by omega)]; exact g1) (by rw [Heap.get_put, if_neg (by omega)]; exact g2) (by rw [Heap.get_put, if_neg (by omega)]; exact g3) (by rw [Heap.get_put, if_neg (by omega)]; exact g4) hno
      rw [hr]
      exact ⟨rfl, hfin⟩
    · unfold LoopEnd
      rw [x1]
      have hfin : Q .ret s (h2.put N .dead) := qR _ v1 v2 (by rw [Heap.get_put, if_neg (by omega)]; exact x2) (by rw [Heap.get_put, if_neg (by omega)]; exact x3) hyes
      exact ⟨rfl, hfin⟩
theorem str_mk (g : Pg P tab) {fb : Nat} {h : Heap} : Cl P 40 [.ptr fb 0] h fun w h' => w = .fn 57 [.ptr h.next 0] ∧ h' = h.mk' h.next (.cells [.ptr fb 0] 79 0) := by
  refine g.cl (vf := v40) rfl rfl ?_
  simp only [v40, RX, VOp.fresh, bxC, bsC, un, most, callsOf, seval, Int.reducePow, ↓reduceIte, Nat.reduceEqDiff, reduceCtorEq]
/-- one place has no stretch -/
theorem str1_cl (g : Pg P tab) {p : Pt} {v a0 : AV} (hv : IsL 24 RRing v [[p]]) {yb M fb e1 n1 e2 n2 : Nat} {h : Heap} (gM : h.get M = some (.cells [.ptr fb 0] e1 n1)) (gf : h.get fb = some (.cells [a0, .int .i64 0, v] e2 n2)) :
    Cl P 57 [.yld yb, .ptr M 0] h fun _ h' => h' = h := by
  refine g.cl (vf := v57) rfl rfl ?_
  obtain ⟨rv, r1, hrv, _, g1⟩ := getRing hv 0 (by simp)
  have hl : ∀ hh, lnV hh v = .val (.int .i64 1) hh := hv.len
  have hl2 : ∀ hh, lnV hh rv = .val (.int .i64 1) hh := hrv.len
  have g1' := fun hh => g1 hh .i64
  simp only [Int.natCast_zero, Int.ofNat_zero, Int.cast_ofNat_Int] at g1'
  simp only [v57, gM, gf, hl, RX, VOp.fresh, bxC, bsC, un, most, callsOf, seval, Int.reducePow, ↓reduceIte, Nat.reduceEqDiff, reduceCtorEq]
  refine g.lpe b57_1.eq_1 ?_
  simp only [g1', RX, VOp.fresh, bxC, bsC, un, most, callsOf, seval, Int.reducePow, ↓reduceIte, Nat.reduceEqDiff, reduceCtorEq]
  refine g.lpe b57_0.eq_1 ?_
  simp only [hl2, gM, gf, HN, RW, RX, VOp.fresh, bxC, bsC, un, most, callsOf, seval, Int.reducePow, ↓reduceIte, Nat.reduceEqDiff, reduceCtorEq]
  refine EvD.same (fun _ _ h => (.undef, h)) rfl ?_
  simp only [gM, gf, RW, RX, VOp.fresh, bxC, bsC, un, most, callsOf, seval, Int.reducePow, ↓reduceIte, Nat.reduceEqDiff, reduceCtorEq]
  refine g.lpe b57_1.eq_1 ?_
  simp only [v57, RX, VOp.fresh, bxC, bsC, un, most, callsOf, seval, Int.reducePow, ↓reduceIte, Nat.reduceEqDiff, reduceCtorEq]
theorem loopEnd_fresh {N : Nat} {s : T AV} {h : Heap} {r : LoopB} {Q : Ex → T AV → Heap → Prop} (hp : r.pend = none) (h0 : r.state = 0) (q : ∀ h2, (∀ d, d < N → h2.get d = h.get d) → Q .normal s h2) : LoopEnd N s (h.mk' N (.loop r)) Q := by
  unfold LoopEnd
  rw [Heap.get_mk, if_pos rfl]
  simp only [hp]
  exact ⟨h0, q _ fun d hd => by rw [Heap.get_put, if_neg (by omega), Heap.get_mk, if_neg (by omega)]⟩
theorem corners_pu (g : Pg P tab) (b : Bx) : Pu P 39 [aBx b] (fun w => w = .agg [.int .i64 b.x0, .int .i64 b.y0, .int .i64 b.x1, .int .i64 b.y0, .int .i64 b.x1, .int .i64 b.y1, .int .i64 b.x0, .int .i64 b.y1]) := by
  refine g.pu (vf := v39) rfl rfl ?_
  simp only [v39, aBx, HN, RW, RX, VOp.fresh, bxC, bsC, un, most, callsOf, seval, Int.reducePow, ↓reduceIte, Nat.reduceEqDiff, reduceCtorEq]
  exact ⟨_, .agg (scals_fz rfl), rfl⟩
theorem meets1_pu (g : Pg P tab) {id : Int} {p : Pt} {b : Bx} {v : AV} (hv : IsL 24 RRing v [[p]]) (ho : featOk ⟨id, 0, [[p]]⟩) (hb : bOk b) : Pu P 25 [.agg [.int .i64 id, .int .i64 0, v], aBx b] (fun w => w = .tup [.bool (decide (inB p b)), .int .i64 0]) := by
  refine g.pu (vf := v25) rfl rfl ?_
  simp only [v25, aBx, RW, RX, VOp.fresh, bxC, bsC, un, most, callsOf, seval, Int.reducePow, ↓reduceIte, Nat.reduceEqDiff, reduceCtorEq]
  refine (shapeMay_pu g (f := ⟨id, 0, [[p]]⟩) hv).go (by simp [AV.tolds, AV.told, hv.told tRing]) ?_
  rintro _ ⟨q, rfl, hq⟩
  obtain rfl : q = true := hq.2 ho
  simp only [RW, RX, VOp.fresh, bxC, bsC, un, most, callsOf, seval, Int.reducePow, ↓reduceIte, Nat.reduceEqDiff, reduceCtorEq]
  refine (boxMay_pu g b.x0 b.y0 b.x1 b.y1).go rfl ?_
  rintro _ rfl
  have hb' : decide (bxOk b.x0 b.y0 b.x1 b.y1) = true := decide_eq_true hb
  rw [hb']
  simp only [RW, RX, VOp.fresh, bxC, bsC, un, most, callsOf, seval, Int.reducePow, ↓reduceIte, Nat.reduceEqDiff, reduceCtorEq]
  refine (pts_mk g).mono ?_
  rintro _ _ ⟨rfl, rfl⟩
  simp only [RW, RX, VOp.fresh, bxC, bsC, un, most, callsOf, seval, Int.reducePow, ↓reduceIte, Nat.reduceEqDiff, reduceCtorEq]
  refine meets_go g (f := ⟨id, 0, [[p]]⟩) (a0 := .int .i64 id) (a1 := .int .i64 0) (fb := 0) (bb := 1) (qb := 2) (ib := 3) (M := 4) hv ho (b := b) ?_ ?_ ?_ ?_ (e1 := 79) (n1 := 0) ?_ (n2 := 0) ?_ (by decide) hb (n3 := 0) ?_ (n4 := 0) ?_ (n5 := 0) ?_ (fun h' v1 v2 v3 v4 k0 k1 k2 k3 k4 hno => ?_) fun h' v1 v2 k1 k2 hyes => ?_
  · simp only [sg_set, Nat.reduceEqDiff, ↓reduceIte]
  · simp only [sg_set, Nat.reduceEqDiff, ↓reduceIte]
  · simp only [sg_set, Nat.reduceEqDiff, ↓reduceIte]
  · rfl
  · rfl
  · rfl
  · rfl
  · rfl
  · rfl
  · have hi : ¬ inB p b := hno p (by simp [fPts])
    simp only [k1, k2, k3, k4, RW, RX, VOp.fresh, bxC, bsC, un, most, callsOf, seval, Int.reducePow, ↓reduceIte, Nat.reduceEqDiff, reduceCtorEq]
    refine (corners_pu g b).go rfl ?_
    rintro _ rfl
    simp only [k1, k2, k3, k4, HN, RW, RX, VOp.fresh, bxC, bsC, un, most, callsOf, seval, Int.reducePow, ↓reduceIte, Nat.reduceEqDiff, reduceCtorEq]
    refine (str_mk g).mono ?_
    rintro _ _ ⟨rfl, rfl⟩
    simp only [RW, RX, VOp.fresh, bxC, bsC, un, most, callsOf, seval, Int.reducePow, ↓reduceIte, Nat.reduceEqDiff, reduceCtorEq]
    have hn : 5 ≤ h'.next := k0
    obtain ⟨H0, eH0⟩ : ∃ H0, H0 = ((h'.mk' h'.next (.cells [.int .i64 0, .int .i64 0, .int .i64 0, .int .i64 0, .int .i64 0, .int .i64 0, .int .i64 0, .int .i64 0] 81 0)).put h'.next (.cells [.int .i64 b.x0, .int .i64 b.y0, .int .i64 b.x1, .int .i64 b.y0, .int .i64 b.x1, .int .i64 b.y1, .int .i64 b.x0, .int .i64 b.y1] 81 1)).mk' (h'.next + 1) (.cells [.ptr 0 0] 79 0) := ⟨_, rfl⟩
    have kp : ∀ d, d < h'.next → H0.get d = h'.get d := fun d hd => by rw [eH0, Heap.get_mk, if_neg (by omega), Heap.get_put, if_neg (by omega), Heap.get_mk, if_neg (by omega)]
    have kM : H0.get (h'.next + 1) = some (.cells [.ptr 0 0] 79 0) := by rw [eH0, Heap.get_mk, if_pos rfl]
    rw [← eH0]
    refine ⟨by decide, (str1_cl g hv (M := h'.next + 1) (fb := 0) (e1 := 79) (n1 := 0) (e2 := 31) (n2 := v1) (a0 := .int .i64 id) ?_ ?_).mono fun _ h2 e => ?_⟩
    · rw [Heap.get_mk, if_neg (by omega)]; exact kM
    · rw [Heap.get_mk, if_neg (by omega), kp _ (by omega)]; exact k1
    rw [e]
    refine loopEnd_fresh rfl rfl fun H1 kq => ?_
    have j0 : H1.get 0 = some (.cells [.int .i64 id, .int .i64 0, v] 31 v1) := by rw [kq _ (by omega), kp _ (by omega)]; exact k1
    have j2 : H1.get 2 = some (.cells [.bool false] 4 v3) := by rw [kq _ (by omega), kp _ (by omega)]; exact k3
    have j3 : H1.get 3 = some (.cells [.int .i64 0] 25 v4) := by rw [kq _ (by omega), kp _ (by omega)]; exact k4
    simp only [j0, j2, j3, hi, HN, RW, RX, VOp.fresh, bxC, bsC, un, most, callsOf, seval, Int.reducePow, ↓reduceIte, Nat.reduceEqDiff, reduceCtorEq]
    exact ⟨_, .tup (.cons (.bool _) (.cons (.int _ _) .nil)), rfl⟩
  · obtain ⟨q, hq, hi⟩ := hyes
    obtain rfl : q = p := by simpa [fPts] using hq
    simp only [k1, k2, hi, RW, RX, VOp.fresh, bxC, bsC, un, most, callsOf, seval, Int.reducePow, ↓reduceIte, Nat.reduceEqDiff, reduceCtorEq]
    exact ⟨_, .tup (.cons (.bool _) (.cons (.int _ _) .nil)), rfl⟩
end
end Go.Proofs.Ytpfpngmfooagiaa.VM
namespace Go.Proofs.Ytpfpngmfooagiaa.VM
attribute [local irreducible] Af Nx EvO Ev Un Gd Cd EvR EvQ EvC Nc Gc Lp EvM NxM AfM GdM EvMR EvMQ EvMD EvMC Nm Gm
/-- slices.Insert, told -/
def insFX : Told := fun f args h => bif Nat.beq f 22 then
    match args with
    | [.sl b 0 n _ 3, .int .i64 (.ofNat i), .sl vb 0 1 1 3] => match h.get b, h.get vb with
      | some (.cells C _ _), some (.cells x _ _) => bif Nat.ble (n * 3) C.length && C.all AV.one && Nat.beq x.length 3 && x.all AV.one && Nat.ble i n && !(Nat.beq vb b) && Nat.ble n 999999 then
          some (.sl h.next 0 (n + 1) (n + 1) 3, (h.put b .dead).mk' h.next (.cells ((C.take (n * 3)).take (i * 3) ++ x ++ (C.take (n * 3)).drop (i * 3)) 31 0)) else none
      | _, _ => none
    | [.nils, .int .i64 (.ofNat 0), .sl vb 0 1 1 3] => match h.get vb with
      | some (.cells x _ _) => bif Nat.beq x.length 3 && x.all AV.one then some (.sl h.next 0 1 1 3, h.mk' h.next (.cells x 31 0)) else none
      | _ => none
    | _ => none
  else none
theorem insFX_ok {P : Program} (hins : InsF P 22 31) : CallOk P insFX := by
  intro f args h v h' e
  unfold insFX at e
  rw [T.beq_dec] at e
  by_cases hf : f = 22
  · rw [decide_eq_true hf, cond_true] at e
    subst hf
    split at e
    · split at e
      · rename_i b n cap i vb _ _ C e1 w1 x e2 w2 g1 g2
        cases hc : (Nat.ble (n * 3) C.length && C.all AV.one && Nat.beq x.length 3 && x.all AV.one && Nat.ble i n && !(Nat.beq vb b) && Nat.ble n 999999) with
        | false => rw [hc, cond_false] at e; cases e
        | true =>
          rw [hc, cond_true] at e
          cases e
          simp only [Bool.and_eq_true, Bool.not_eq_true', Nat.beq_eq, Nat.ble_eq] at hc
          obtain ⟨⟨⟨⟨⟨⟨a1, a2⟩, a3⟩, a4⟩, a5⟩, a6⟩, a7⟩ := hc
          obtain ⟨_, hh⟩ := hins a3 a4 g2
          exact hh g1 a1 a2 a5 (fun e => by rw [e, Nat.beq_refl] at a6; cases a6) (by omega)
      · cases e
    · split at e
      · rename_i vb _ x e2 w2 g2
        cases hc : (Nat.beq x.length 3 && x.all AV.one) with
        | false => rw [hc, cond_false] at e; cases e
        | true =>
          rw [hc, cond_true] at e
          cases e
          simp only [Bool.and_eq_true, Nat.beq_eq] at hc
          exact (hins hc.1 hc.2 g2).1
      · cases e
    · cases e
  · rw [decide_eq_false hf, cond_false] at e; cases e
def okI (x : Int) : Bool := decide (0 ≤ x) && decide (x ≤ 4294967295)
def okD (x : Int) : Bool := decide (1 ≤ x) && decide (x ≤ 65535)
/-- the box of a place, and whether a box has a place, told -/
def x24 : Told := fun f args h => bif Nat.beq f 47 then (match args with
    | [a] => (match fz true h 40 a with
      | some (.agg [.int .i64 id, .int .i64 0, .rs [.rs [.int .i64 x, .int .i64 y] 1] 1]) => bif okD id && okI x && okI y then some (.tup [.agg [.int .i64 x, .int .i64 y, .int .i64 x, .int .i64 y], .int .i64 0], h) else none
      | _ => none)
    | _ => none)
  else bif Nat.beq f 25 then (match args with
    | [a, .agg [.int .i64 x0, .int .i64 y0, .int .i64 x1, .int .i64 y1]] => (match fz true h 40 a with
      | some (.agg [.int .i64 id, .int .i64 0, .rs [.rs [.int .i64 x, .int .i64 y] 1] 1]) => bif okD id && okI x && okI y && decide (bOk ⟨x0, y0, x1, y1⟩) then some (.tup [.bool (decide (inB ⟨x, y⟩ ⟨x0, y0, x1, y1⟩)), .int .i64 0], h) else none
      | _ => none)
    | _ => none)
  else insFX f args h
theorem one_feat {id x y : Int} (h : (okD id && okI x && okI y) = true) : IsL 24 RRing (.rs [.rs [.int .i64 x, .int .i64 y] 1] 1) [[⟨x, y⟩]] ∧ featOk ⟨id, 0, [[⟨x, y⟩]]⟩ := by
  simp only [okD, okI, Bool.and_eq_true, decide_eq_true_eq] at h
  obtain ⟨⟨⟨h1, h2⟩, h3, h4⟩, h5, h6⟩ := h
  have hp : IsL 16 RPt (.rs [.int .i64 x, .int .i64 y] 1) [Pt.mk x y] := isL_rs (l := [Pt.mk x y]) (Cat.cons (c := [.int .i64 x, .int .i64 y]) (show RPt (Pt.mk x y) _ from ⟨rfl, ⟨by simp only; omega, by simp only; omega⟩, ⟨by simp only; omega, by simp only; omega⟩⟩) .nil) (by rw [reach_eq]; simp)
  have hr : IsL 24 RRing (.rs [.rs [.int .i64 x, .int .i64 y] 1] 1) [[Pt.mk x y]] := isL_rs (l := [[Pt.mk x y]]) (Cat.cons (c := [.rs [.int .i64 x, .int .i64 y] 1]) (show RRing [Pt.mk x y] _ from ⟨_, rfl, hp⟩) .nil) (by rw [reach_eq]; simp)
  refine ⟨hr, h1, h2, by simp, by simp, .inl ⟨rfl, by simp, by simp, ?_⟩⟩
  simp [ptOk, coordOk, h3, h4, h5, h6]
section
variable {P : Program} {F : Nat → Option VFun}
theorem Cl.exact {f : Nat} {args : List AV} {h h2 : Heap} {a : AV} (c : Cl P f args h fun v h' => v = a ∧ h' = h2) : OK P f args h a h2 := by
  obtain ⟨v, h', o, rfl, rfl⟩ := c
  exact o
theorem x24_ok (g : Pg P tab) (hins : InsF P 22 31) : CallOk P x24 := by
  intro f args h v h' e
  unfold x24 at e
  rw [T.beq_dec, T.beq_dec] at e
  by_cases hf : f = 47
  · rw [decide_eq_true hf, cond_true] at e
    subst hf
    split at e
    · split at e
      · rename_i a id x y hz
        cases hc : (okD id && okI x && okI y) with
        | false => rw [hc, cond_false] at e; cases e
        | true =>
          rw [hc, cond_true] at e
          cases e
          obtain ⟨hv, ho⟩ := one_feat hc
          refine Cl.exact (Pu.cl (R := fun v h' => v = _ ∧ h' = _) (box_pu g (f := Feat.mk id 0 [[⟨x, y⟩]]) hv) (.cons (fz_ok _ _ _ hz) .nil) fun w hw => And.intro ?_ rfl)
          rcases hw with ⟨hn, _⟩ | ⟨_, rfl⟩
          · exact absurd ho hn
          · have ie : ∀ x : Int, imn x x = x ∧ imx x x = x := fun x => by unfold imn imx; constructor <;> split <;> rfl
            simp [fBox, fPts, bxAll, bxJ, bxPt, aBx, ie]
      · cases e
    · cases e
  · rw [decide_eq_false hf, cond_false] at e
    by_cases hf2 : f = 25
    · rw [decide_eq_true hf2, cond_true] at e
      subst hf2
      split at e
      · split at e
        · rename_i a x0 y0 x1 y1 _ id x y hz
          cases hc : (okD id && okI x && okI y && decide (bOk ⟨x0, y0, x1, y1⟩)) with
          | false => rw [hc, cond_false] at e; cases e
          | true =>
            rw [hc, cond_true] at e
            cases e
            rw [Bool.and_eq_true] at hc
            obtain ⟨hv, ho⟩ := one_feat hc.1
            exact Cl.exact (Pu.cl (R := fun v h' => v = _ ∧ h' = _) (meets1_pu g hv ho (b := Bx.mk x0 y0 x1 y1) (of_decide_eq_true hc.2)) (.cons (fz_ok _ _ _ hz) (.cons (Fz.refl rfl) .nil)) fun w hw => And.intro hw rfl)
        · cases e
      · cases e
    · rw [decide_eq_false hf2, cond_false] at e
      exact insFX_ok hins f args h v h' e
theorem Pg.runX (g : Pg P F) {X : Told} (hX : CallOk P X) {n f : Nat} {args : List AV} {w : AV} (hv : (vcall F X n f args ⟨0, .e⟩).bind (fun r => fz false r.2 40 r.1) = some w) : Pu P f args (fun v => v = w) := by
  obtain ⟨⟨v, h'⟩, e1, e2⟩ := Option.bind_eq_some_iff.1 hv
  exact ⟨_, _, h', (vm_ok (drawn_ok g.hm) g.tb hX n).2.2 f args _ _ _ e1, fz_ok _ _ _ e2, rfl⟩
theorem awake24_pu (g : Pg P tab) (hins : InsF P 22 31) : Pu P 6 [] (fun v => v = .bool true) := g.runX (x24_ok g hins) (n := 1000) (by kernel_rfl)
end
end Go.Proofs.Ytpfpngmfooagiaa.VM
namespace Go.Proofs.Ytpfpngmfooagiaa.VM
attribute [local irreducible] Af Nx EvO Ev Un Gd Cd EvR EvQ EvC Nc Gc Lp EvM NxM AfM GdM EvMR EvMQ EvMD EvMC Nm Gm
/-- operations that name other ids -/
def Dist (ops : List Op) : Prop := ops.Pairwise fun a b => 0 < opId a → opId a ≠ opId b
def putIn (ops : List Op) (f : Feat) : Prop := ∃ o ∈ ops, o.kind = 0 ∧ f = o.f
def outOf (ops : List Op) (x : Int) : Prop := ∀ o ∈ ops, opId o ≠ x
theorem mem_apF {f : Feat} : ∀ {ops : List Op} {l : List Feat}, Dist ops → (∀ o ∈ ops, o.kind = 0 → 0 < o.f.id) → (f ∈ apF l ops ↔ (f ∈ l ∧ outOf ops f.id) ∨ putIn ops f)
  | [], l, _, _ => by simp [apF, outOf, putIn]
  | o :: ops, l, hd, hp => by
    obtain ⟨h1, h2⟩ := List.pairwise_cons.1 hd
    have ih := mem_apF (f := f) (l := apS l o) h2 (fun o' h => hp o' (.tail _ h))
    rw [show apF l (o :: ops) = apF (apS l o) ops from rfl, ih, mem_apS]
    constructor
    · rintro (⟨⟨a, b⟩ | ⟨a, b⟩, c⟩ | ⟨o', a, b⟩)
      · exact .inl ⟨a, fun o' ho' => by
          rcases List.mem_cons.1 ho' with rfl | ho'
          · exact Ne.symm b
          · exact c o' ho'⟩
      · exact .inr ⟨o, .head _, a, b⟩
      · exact .inr ⟨o', .tail _ a, b⟩
    · rintro (⟨a, b⟩ | ⟨o', a, b, c⟩)
      · exact .inl ⟨.inl ⟨a, Ne.symm (b o (.head _))⟩, fun o' ho' => b o' (.tail _ ho')⟩
      · rcases List.mem_cons.1 a with e | a
        · rw [e] at b c
          refine .inl ⟨.inr ⟨b, c⟩, fun o' ho' => ?_⟩
          have e1 : opId o = f.id := by rw [c]; unfold opId; rw [if_pos b]
          have e2 := hp o (.head _) b
          rw [← c] at e2
          have := h1 o' ho' (by rw [e1]; exact e2)
          rw [e1] at this
          exact Ne.symm this
        · exact .inr ⟨o', a, b, c⟩
theorem getD_mem {α : Type} {l : List α} {d x : α} : x ∈ l ↔ ∃ i, i < l.length ∧ l.getD i d = x := by
  constructor
  · intro h
    obtain ⟨i, hi, rfl⟩ := List.mem_iff_getElem.1 h
    exact ⟨i, hi, by simp [List.getD_eq_getElem?_getD, List.getElem?_eq_getElem hi]⟩
  · rintro ⟨i, hi, rfl⟩
    rw [show l.getD i d = l[i] by simp [List.getD_eq_getElem?_getD, List.getElem?_eq_getElem hi]]
    exact List.getElem_mem hi
theorem opsOk.each {ops : List Op} (ok : opsOk 8 ops) : ∀ o ∈ ops, opOk 8 o := by
  intro o ho
  obtain ⟨i, hi, rfl⟩ := (getD_mem (d := op0)).1 ho
  exact (ok.2.2 i hi).1
theorem opsOk.putId {ops : List Op} (ok : opsOk 8 ops) : ∀ o ∈ ops, o.kind = 0 → 0 < o.f.id := by
  intro o ho k
  rcases ok.each o ho with ⟨_, h, _⟩ | ⟨h, _⟩ | ⟨h, _⟩
  · have := h.1; omega
  · omega
  · omega
theorem opsOk.dist {ops : List Op} (ok : opsOk 8 ops) : Dist ops := by
  unfold Dist
  rw [List.pairwise_iff_getElem]
  intro i j hi hj hij h0 he
  have e : ∀ (i : Nat) (h : i < ops.length), ops.getD i op0 = ops[i] := fun i h => by simp [List.getD_eq_getElem?_getD, List.getElem?_eq_getElem h]
  have := (ok.2.2 j hj).2.2
  rw [e j hj] at this
  have h3 := this (by rw [← he]; exact h0) i hij
  rw [e i hi] at h3
  exact h3 he
end Go.Proofs.Ytpfpngmfooagiaa.VM
namespace Go.Proofs.Ytpfpngmfooagiaa.VM
attribute [local irreducible] Af Nx EvO Ev Un Gd Cd EvR EvQ EvC Nc Gc Lp EvM NxM AfM GdM EvMR EvMQ EvMD EvMC Nm Gm
theorem featsUp.ok {l : List Feat} (u : featsUp l) : ∀ f ∈ l, featOk f := by
  intro f hf
  obtain ⟨i, hi, rfl⟩ := (getD_mem (d := feat0)).1 hf
  exact (u i hi).1
def turnP (ops : List Op) (x : Int) : Prop := ∃ o ∈ ops, (o.kind = 0 ∧ o.f.id = x) ∨ (o.kind = 1 ∧ o.id = x)
theorem turnP_out {ops : List Op} (ok : opsOk 8 ops) {x : Int} (hx : 0 < x) : ¬ turnP ops x ↔ outOf ops x := by
  constructor
  · intro h o ho e
    rcases ok.each o ho with ⟨k, _⟩ | ⟨k, _⟩ | ⟨k, _, z, _⟩
    · exact h ⟨o, ho, .inl ⟨k, by unfold opId at e; rwa [if_pos k] at e⟩⟩
    · exact h ⟨o, ho, .inr ⟨k, by unfold opId at e; rwa [if_neg (by omega)] at e⟩⟩
    · unfold opId at e; rw [if_neg (by omega)] at e; omega
  · rintro h ⟨o, ho, ⟨k, e⟩ | ⟨k, e⟩⟩
    · exact h o ho (by unfold opId; rw [if_pos k]; exact e)
    · exact h o ho (by unfold opId; rw [if_neg (by omega)]; exact e)
section
variable {h : Heap} {B : Nat → Prop}
theorem Lv.untup {v a b : AV} (l : Lv h B v (.tup [a, b])) : ∃ x y, v = .tup [x, y] ∧ Lv h B x a ∧ Lv h B y b := by
  obtain ⟨D, f, hb, own, i⟩ := l
  cases f with
  | told ht =>
    simp only [AV.told, AV.tolds, Bool.and_eq_true] at ht
    simp only [AV.bare, AV.bares, Bool.and_eq_true] at hb
    exact ⟨a, b, rfl, .told ht.1 hb.1, .told ht.2.1 hb.2.1⟩
  | tup t =>
    cases t with
    | cons f1 t =>
      cases t with
      | cons f2 t =>
        cases t
        rename_i x D1 y D2
        simp only [AV.bare, AV.bares, Bool.and_eq_true] at hb
        exact ⟨_, _, rfl, ⟨_, f1, hb.1, fun c hc => own c (by simp [hc]), fun c hc => i c (by simp [hc])⟩, ⟨_, f2, hb.2.1, fun c hc => own c (by simp [hc]), fun c hc => i c (by simp [hc])⟩⟩
theorem Lv.tup' {x y a b : AV} (l : Lv h B x a) (k : Lv h B y b) : Lv h B (.tup [x, y]) (.tup [a, b]) := by
  obtain ⟨D, f, hb, own, i⟩ := l
  obtain ⟨E, f2, hb2, own2, i2⟩ := k
  refine ⟨D ++ (E ++ []), .tup (.cons f (.cons f2 .nil)), by simp [AV.bare, AV.bares, hb, hb2], fun c hc => ?_, fun c hc => ?_⟩
  · simp only [List.append_nil, List.mem_append] at hc
    exact hc.elim (own c) (own2 c)
  · simp only [List.append_nil, List.mem_append] at hc
    exact hc.elim (i c) (i2 c)
end
section
variable {P : Program}
theorem apply_any (g : Pg P tab) (hins : InsF P 22 31) {fs : List Feat} {ops : List Op} {w wo : AV} (hw : IsL 32 RFeat w fs) (hwo : IsL 112 ROp wo ops) {h : Heap} {args : List AV} (hA : Fzs true h args [w, wo]) {Q : AV → Heap → Prop}
    (qN : ∀ h', Ext h h' → ¬ (featsUp fs ∧ opsOk 8 ops) → Q (.tup [.nils, .int .i64 2400]) h') (qY : ∀ v t h', featsUp fs → opsOk 8 ops → Lv h' (h.next ≤ ·) v t → IsL 32 RFeat t (apF fs ops) → Ext h h' → Q (.tup [v, .int .i64 0]) h') : Cl P 7 args h Q := by
  refine Cl.laid (R := fun t => (t = .tup [.nils, .int .i64 2400] ∧ ¬ (featsUp fs ∧ opsOk 8 ops)) ∨ ∃ t', t = .tup [t', .int .i64 0] ∧ featsUp fs ∧ opsOk 8 ops ∧ IsL 32 RFeat t' (apF fs ops)) hA ?_ fun v t h' lv R x => ?_
  · refine apply_cl g hins hw hwo (fun h' _ no => ⟨_, .told (by rfl) (by rfl), .inl ⟨rfl, no⟩⟩) fun v h' u o r _ => ?_
    have h1 := apF_len fs ops
    have h2 := featsUp_len u
    have h3 := o.2.1
    obtain ⟨t, lt, il⟩ := r.lv (by omega)
    exact ⟨_, (lt.weak fun _ _ _ => trivial).tup' .int, .inr ⟨t, rfl, u, o, il⟩⟩
  · rcases R with ⟨rfl, no⟩ | ⟨t', rfl, u, o, il⟩
    · obtain ⟨x1, y1, rfl, l1, l2⟩ := lv.untup
      rw [l1.nils_inv, l2.int_inv]
      exact qN h' x no
    · obtain ⟨x1, y1, rfl, l1, l2⟩ := lv.untup
      rw [l2.int_inv]
      exact qY x1 t' h' u o l1 il x
theorem turned_loop (g : Pg P tab) {ops : List Op} {w : AV} (hw : IsL 112 ROp w ops) (x : Int) (n : Nat) :
    ∀ (i : Nat) (s : T AV) (hh : Heap) (k : List Fr) (Q : Ex → T AV → Heap → Prop), i + n = ops.length → ¬ turnP (ops.take i) x → sg s 0 = w → sg s 1 = .int .i64 x → sg s 5 = .int .i64 i → (∀ s' h', ¬ turnP ops x → Un P k Q (.exit 0) s' h') → (∀ s' h', turnP ops x → sg s' 4 = .bool true → Un P k Q .ret s' h') → Lp P b11_0 s hh (Un P k Q) := by
  have hbd := hw.bound (by decide)
  induction n with
  | zero =>
    intro i s hh k Q hi ht h0 h1 h5 hK _
    refine g.lpe b11_0.eq_1 ?_
    have c1 : ¬ ((i : Int) < (ops.length : Int)) := by omega
    simp only [h0, h5, hw.len, c1, RX, VOp.fresh, bxC, bsC, un, most, callsOf, seval, Int.reducePow, ↓reduceIte, Nat.reduceEqDiff, reduceCtorEq]
    rw [List.take_of_length_le (by omega)] at ht
    exact hK _ _ ht
  | succ n ih =>
    intro i s hh k Q hi ht h0 h1 h5 hK hT
    refine g.lpe b11_0.eq_1 ?_
    have c1 : (i : Int) < (ops.length : Int) := by omega
    have w1 : IntKind.i64.wrap ((i : Int) + 1) = ((i + 1 : Nat) : Int) := by rw [w64 (by omega) (by omega)]; push_cast; rfl
    obtain ⟨c, rr, hc, htc, htr, hat⟩ := getOp hw i (by omega)
    have hgi : ops.getD i op0 = ops[i] := by simp [List.getD_eq_getElem?_getD, List.getElem?_eq_getElem (show i < ops.length by omega)]
    have hs : ops.take (i + 1) = ops.take i ++ [ops.getD i op0] := by rw [hgi]; exact List.take_succ_eq_append_getElem (by omega)
    have hmem : ops.getD i op0 ∈ ops := getD_mem.2 ⟨i, by omega, rfl⟩
    generalize ops.getD i op0 = o at *
    have hno : ¬ ((o.kind = 0 ∧ o.f.id = x) ∨ (o.kind = 1 ∧ o.id = x)) → ¬ turnP (ops.take (i + 1)) x := by
      rintro hn ⟨o', ho', he⟩
      rw [hs, List.mem_append, List.mem_singleton] at ho'
      rcases ho' with ho' | rfl
      · exact ht ⟨o', ho', he⟩
      · exact hn he
    obtain ⟨rv, ra, ru, rfl, i1, i2, i3, iv, i4, i5, ia, iu⟩ := hc
    by_cases k0 : o.kind = 0
    · by_cases e0 : o.f.id = x
      · simp only [h0, h1, h5, hw.len, c1, hat, k0, e0, RX, VOp.fresh, bxC, bsC, un, most, callsOf, seval, Int.reducePow, ↓reduceIte, Nat.reduceEqDiff, reduceCtorEq]
        refine hT _ _ ⟨o, hmem, .inl ⟨k0, e0⟩⟩ ?_
        simp only [sg_set, Nat.reduceEqDiff, ↓reduceIte]
      · have k1 : ¬ (0 : Int) = 1 := by decide
        simp only [h0, h1, h5, hw.len, c1, hat, k0, e0, k1, w1, RX, VOp.fresh, bxC, bsC, un, most, callsOf, seval, Int.reducePow, ↓reduceIte, Nat.reduceEqDiff, reduceCtorEq]
        refine ih (i + 1) _ _ k Q (by omega) (hno fun c => ?_) ?_ ?_ ?_ hK hT
        · rcases c with c | c
          · exact e0 c.2
          · have := c.1; omega
        · simp only [h0, sg_set, Nat.reduceEqDiff, ↓reduceIte]
        · simp only [h1, sg_set, Nat.reduceEqDiff, ↓reduceIte]
        · simp only [sg_set, Nat.reduceEqDiff, ↓reduceIte]
    · by_cases k1 : o.kind = 1
      · by_cases e0 : o.id = x
        · simp only [h0, h1, h5, hw.len, c1, hat, k0, k1, e0, RX, VOp.fresh, bxC, bsC, un, most, callsOf, seval, Int.reducePow, ↓reduceIte, Nat.reduceEqDiff, reduceCtorEq]
          refine hT _ _ ⟨o, hmem, .inr ⟨k1, e0⟩⟩ ?_
          simp only [sg_set, Nat.reduceEqDiff, ↓reduceIte]
        · simp only [h0, h1, h5, hw.len, c1, hat, k0, k1, e0, w1, RX, VOp.fresh, bxC, bsC, un, most, callsOf, seval, Int.reducePow, ↓reduceIte, Nat.reduceEqDiff, reduceCtorEq]
          refine ih (i + 1) _ _ k Q (by omega) (hno fun c => ?_) ?_ ?_ ?_ hK hT
          · rcases c with c | c
            · exact k0 c.1
            · exact e0 c.2
          · simp only [h0, sg_set, Nat.reduceEqDiff, ↓reduceIte]
          · simp only [h1, sg_set, Nat.reduceEqDiff, ↓reduceIte]
          · simp only [sg_set, Nat.reduceEqDiff, ↓reduceIte]
      · simp only [h0, h1, h5, hw.len, c1, hat, k0, k1, w1, RX, VOp.fresh, bxC, bsC, un, most, callsOf, seval, Int.reducePow, ↓reduceIte, Nat.reduceEqDiff, reduceCtorEq]
        refine ih (i + 1) _ _ k Q (by omega) (hno fun c => ?_) ?_ ?_ ?_ hK hT
        · rcases c with c | c
          · exact k0 c.1
          · exact k1 c.1
        · simp only [h0, sg_set, Nat.reduceEqDiff, ↓reduceIte]
        · simp only [h1, sg_set, Nat.reduceEqDiff, ↓reduceIte]
        · simp only [sg_set, Nat.reduceEqDiff, ↓reduceIte]
theorem turned_pu (g : Pg P tab) {ops : List Op} {w : AV} (hw : IsL 112 ROp w ops) (x : Int) : Pu P 11 [w, .int .i64 x] (IsB (turnP ops x)) := by
  refine g.pu (vf := v11) rfl rfl ?_
  simp only [v11, RX, VOp.fresh, bxC, bsC, un, most, callsOf, seval, Int.reducePow, ↓reduceIte, Nat.reduceEqDiff, reduceCtorEq]
  refine turned_loop g hw x ops.length 0 _ _ _ _ (by omega) (by rintro ⟨o, ho, _⟩; simp at ho) ?_ ?_ ?_ (fun s' h' hn => ?_) fun s' h' ht t4 => ?_
  · simp only [sg_set, Nat.reduceEqDiff, ↓reduceIte]
  · simp only [sg_set, Nat.reduceEqDiff, ↓reduceIte]
  · simp only [sg_set, Nat.reduceEqDiff, ↓reduceIte]
    rfl
  · simp only [RX, VOp.fresh, bxC, bsC, un, most, callsOf, seval, Int.reducePow, ↓reduceIte, Nat.reduceEqDiff, reduceCtorEq]
    exact hn
  · simp only [t4, RX, VOp.fresh, bxC, bsC, un, most, callsOf, seval, Int.reducePow, ↓reduceIte, Nat.reduceEqDiff, reduceCtorEq]
    exact ht
end
end Go.Proofs.Ytpfpngmfooagiaa.VM
namespace Go.Proofs.Ytpfpngmfooagiaa.VM
attribute [local irreducible] Af Nx EvO Ev Un Gd Cd EvR EvQ EvC Nc Gc Lp EvM NxM AfM GdM EvMR EvMQ EvMD EvMC Nm Gm
section
variable {P : Program}
theorem lplace_loop (g : Pg P tab) {l : List Feat} {w : AV} (hw : IsL 32 RFeat w l) (x : Int) (n : Nat) :
    ∀ (i : Nat) (s : T AV) (hh : Heap) (k : List Fr) (Q : Ex → T AV → Heap → Prop), i + n = l.length → (∀ j, j < i → (l.getD j feat0).id ≠ x) → sg s 0 = w → sg s 1 = .int .i64 x → sg s 5 = .int .i64 i →
    (∀ s' h', (∀ f ∈ l, f.id ≠ x) → Un P k Q (.exit 0) s' h') → (∀ s' h' i, i < l.length → (l.getD i feat0).id = x → sg s' 4 = .int .i64 (i : Nat) → Un P k Q .ret s' h') → Lp P b9_0 s hh (Un P k Q) := by
  have hbd := hw.bound (by decide)
  induction n with
  | zero =>
    intro i s hh k Q hi hn h0 h1 h5 hK _
    refine g.lpe b9_0.eq_1 ?_
    have c1 : ¬ ((i : Int) < (l.length : Int)) := by omega
    simp only [h0, h5, hw.len, c1, RX, VOp.fresh, bxC, bsC, un, most, callsOf, seval, Int.reducePow, ↓reduceIte, Nat.reduceEqDiff, reduceCtorEq]
    refine hK _ _ fun f hf => ?_
    obtain ⟨j, hj, rfl⟩ := (getD_mem (d := feat0)).1 hf
    exact hn j (by omega)
  | succ n ih =>
    intro i s hh k Q hi hn h0 h1 h5 hK hT
    refine g.lpe b9_0.eq_1 ?_
    have c1 : (i : Int) < (l.length : Int) := by omega
    have w1 : IntKind.i64.wrap ((i : Int) + 1) = ((i + 1 : Nat) : Int) := by rw [w64 (by omega) (by omega)]; push_cast; rfl
    obtain ⟨x1, r1, i4, i2, i3, _, g1⟩ := getFeat hw i (by omega)
    by_cases e : (l.getD i feat0).id = x
    · simp only [h0, h1, h5, hw.len, c1, g1, e, RX, VOp.fresh, bxC, bsC, un, most, callsOf, seval, Int.reducePow, ↓reduceIte, Nat.reduceEqDiff, reduceCtorEq]
      refine hT _ _ i (by omega) e ?_
      simp only [sg_set, Nat.reduceEqDiff, ↓reduceIte]
    · simp only [h0, h1, h5, hw.len, c1, g1, e, w1, RX, VOp.fresh, bxC, bsC, un, most, callsOf, seval, Int.reducePow, ↓reduceIte, Nat.reduceEqDiff, reduceCtorEq]
      refine ih (i + 1) _ _ k Q (by omega) (fun j hj => ?_) ?_ ?_ ?_ hK hT
      · by_cases c : j = i
        · rw [c]; exact e
        · exact hn j (by omega)
      · simp only [h0, sg_set, Nat.reduceEqDiff, ↓reduceIte]
      · simp only [h1, sg_set, Nat.reduceEqDiff, ↓reduceIte]
      · simp only [sg_set, Nat.reduceEqDiff, ↓reduceIte]
/-- where a feature of an id stands -/
def IxL (l : List Feat) (x : Int) (v : AV) : Prop := (v = .int .i64 (-1) ∧ ∀ f ∈ l, f.id ≠ x) ∨ ∃ i : Nat, v = .int .i64 i ∧ i < l.length ∧ (l.getD i feat0).id = x
theorem lplace_pu (g : Pg P tab) {l : List Feat} {w : AV} (hw : IsL 32 RFeat w l) (x : Int) : Pu P 9 [w, .int .i64 x] (IxL l x) := by
  refine g.pu (vf := v9) rfl rfl ?_
  simp only [v9, RX, VOp.fresh, bxC, bsC, un, most, callsOf, seval, Int.reducePow, ↓reduceIte, Nat.reduceEqDiff, reduceCtorEq]
  refine lplace_loop g hw x l.length 0 _ _ _ _ (by omega) (fun j hj => by omega) ?_ ?_ ?_ (fun s' h' hn => ?_) fun s' h' i hi e t4 => ?_
  · simp only [sg_set, Nat.reduceEqDiff, ↓reduceIte]
  · simp only [sg_set, Nat.reduceEqDiff, ↓reduceIte]
  · simp only [sg_set, Nat.reduceEqDiff, ↓reduceIte]
    rfl
  · simp only [RX, VOp.fresh, bxC, bsC, un, most, callsOf, seval, Int.reducePow, ↓reduceIte, Nat.reduceEqDiff, reduceCtorEq]
    exact .inl ⟨rfl, hn⟩
  · simp only [t4, RX, VOp.fresh, bxC, bsC, un, most, callsOf, seval, Int.reducePow, ↓reduceIte, Nat.reduceEqDiff, reduceCtorEq]
    exact .inr ⟨i, rfl, hi, e⟩
end
/-- an element of a live row of features -/
theorem live_look {h : Heap} {B : Nat → Prop} {v t : AV} {l : List Feat} (lv : Lv h B v t) (il : IsL 32 RFeat t l) {i : Nat} (hi : i < l.length) : ∃ b off cap x rv, v = .sl b off l.length cap 3 ∧ b < h.next ∧ (∀ (hh : Heap) (kk : IntKind), iaV hh 3 none v (.int kk (i : Int)) = .val (.ptr b (off + i * 3)) hh) ∧
    ldB true (off + i * 3) 3 h (h.get b) = .val (.agg [.int .i64 (l.getD i feat0).id, .int .i64 (l.getD i feat0).shape, x]) h ∧ ldB false (off + i * 3) 1 h (h.get b) = .val (.int .i64 (l.getD i feat0).id) h ∧ Lv h B x rv ∧ RFeat (l.getD i feat0) [.int .i64 (l.getD i feat0).id, .int .i64 (l.getD i feat0).shape, rv] ∧ x.one = true := by
  rcases il.2 with ⟨_, rfl⟩ | ⟨c, rfl, hc⟩
  · simp at hi
  · have hgi : l.getD i feat0 = l[i] := by simp [List.getD_eq_getElem?_getD, List.getElem?_eq_getElem hi]
    obtain ⟨ci, rr, ed, rv, rfl, i1, i2, i3⟩ := hc.at zFeat i hi
    rw [← cRow_s _ (by omega)] at lv
    obtain ⟨b, off, cap, rfl, hB, hb, hg⟩ := lv.row_inv (z := 3) (by omega) (hc.length zFeat)
    have get : ∀ j (y : AV), ([AV.int .i64 l[i].id, .int .i64 l[i].shape, rv] ++ rr)[j]? = some y → ∃ a, At h b (off + i * 3 + j) a ∧ Lv h B a y := fun j y hy => by
      rw [Nat.add_assoc]
      exact hg (i * 3 + j) y (by rw [← ed, List.getElem?_drop] at hy; exact hy)
    obtain ⟨x0, a0, l0⟩ := get 0 _ rfl
    obtain ⟨x1, a1, l1⟩ := get 1 _ rfl
    obtain ⟨x2, a2, l2⟩ := get 2 _ rfl
    rw [l0.int_inv] at a0
    rw [l1.int_inv] at a1
    rw [hgi]
    have o2 : x2.one = true := by
      have := (Lvs.cons l2 .nil).ones (by simp [isL_one i3])
      simpa using this
    refine ⟨b, off, cap, x2, rv, rfl, hb, fun hh kk => ?_, a0.ld3 a1 a2, a0.ld, l2, ⟨rv, rfl, i1, i2, i3⟩, o2⟩
    have : 0 ≤ (i : Int) ∧ (i : Int) < (l.length : Int) ∧ 3 = 3 := ⟨by omega, by omega, rfl⟩
    simp only [iaV, this, and_self, if_true, Int.toNat_natCast]
theorem Up.uniq {l : List Feat} (u : Up l) {f : Feat} (hf : f ∈ l) {i : Nat} (hi : i < l.length) (e : (l.getD i feat0).id = f.id) : l.getD i feat0 = f := by
  obtain ⟨j, hj, rfl⟩ := (getD_mem (d := feat0)).1 hf
  rcases Nat.lt_trichotomy i j with c | c | c
  · have := u i j c hj; omega
  · rw [c]
  · have := u j i c hi; omega
section
variable {P : Program}
abbrev z8O : List AV := [.int .i64 0, .int .i64 0, .int .i64 0, .nils, .int .i64 0, .int .i64 0, .nils, .nils]
theorem rules1 (g : Pg P tab) {ops : List Op} {wo : AV} (hwo : IsL 112 ROp wo ops) {l : List Feat} {va ta : AV} (il : IsL 32 RFeat ta l) (up : Up l) (hput : ∀ o ∈ ops, o.kind = 0 → o.f ∈ l) (hdel : ∀ o ∈ ops, o.kind = 1 → ∀ f ∈ l, f.id ≠ o.id) (n : Nat) :
    ∀ (i : Nat) (s : T AV) (h : Heap) (k : List Fr) (Q : Ex → T AV → Heap → Prop), i + n = ops.length → Lv h (fun _ => True) va ta → sg s 1 = wo → sg s 5 = va → sg s 7 = .int .i64 i →
    (∀ s' h', Lv h' (fun _ => True) va ta → (∀ j, j < 6 → sg s' j = sg s j) → Un P k Q (.exit 0) s' h') → Lp P b3_0 s h (Un P k Q) := by
  have hbd := hwo.bound (by decide)
  induction n with
  | zero =>
    intro i s h k Q hi lv t1 t5 t7 hK
    refine g.lpe b3_0.eq_1 ?_
    have c1 : ¬ ((i : Int) < (ops.length : Int)) := by omega
    simp only [t1, t7, hwo.len, c1, RX, VOp.fresh, bxC, bsC, un, most, callsOf, seval, Int.reducePow, ↓reduceIte, Nat.reduceEqDiff, reduceCtorEq]
    exact hK _ _ lv fun j hj => by simp only [sg_set]; repeat rw [if_neg (by omega)]
  | succ n ih =>
    intro i s h k Q hi lv t1 t5 t7 hK
    refine g.lpe b3_0.eq_1 ?_
    have c1 : (i : Int) < (ops.length : Int) := by omega
    have w1 : IntKind.i64.wrap ((i : Int) + 1) = ((i + 1 : Nat) : Int) := by rw [w64 (by omega) (by omega)]; push_cast; rfl
    obtain ⟨c, rr, hc, htc, htr, hat⟩ := getOp hwo i (by omega)
    have hmem : ops.getD i op0 ∈ ops := getD_mem.2 ⟨i, by omega, rfl⟩
    generalize ops.getD i op0 = o at *
    have hp := hput o hmem
    have hd := hdel o hmem
    obtain ⟨rv, ra, ru, rfl, i1, i2, i3, iv, i4, i5, ia, iu⟩ := hc
    have ov := isL_one iv
    have oa := isL_one ia
    have ou := isL_one iu
    have nxt : ∀ (s' : T AV) (h' : Heap), Lv h' (fun _ => True) va ta → sg s' 1 = wo → sg s' 5 = va → sg s' 7 = .int .i64 ((i + 1 : Nat) : Int) → (∀ j, j < 6 → sg s' j = sg s j) → Lp P b3_0 s' h' (Un P k Q) := fun s' h' a1 a2 a3 a4 a5 =>
      ih (i + 1) s' h' k Q (by omega) a1 a2 a3 a4 fun s2 h2 q1 q2 => hK s2 h2 q1 fun j hj => (q2 j hj).trans (a5 j hj)
    clear ih
    simp only [t1, t5, t7, hwo.len, c1, hat, ov, oa, ou, HN, RW, RX, VOp.fresh, bxC, bsC, un, most, callsOf, seval, Int.reducePow, ↓reduceIte, Nat.reduceEqDiff, reduceCtorEq]
    have x0 := Ext.new (h := h) (o := .cells z8O 36 0) (o' := .cells [.int .i64 o.kind, .int .i64 o.f.id, .int .i64 o.f.shape, rv, .int .i64 o.id, .int .i64 o.m.epoch, ra, ru] 36 1)
    have g0 : ((h.mk' h.next (.cells z8O 36 0)).put h.next (.cells [.int .i64 o.kind, .int .i64 o.f.id, .int .i64 o.f.shape, rv, .int .i64 o.id, .int .i64 o.m.epoch, ra, ru] 36 1)).get h.next = some (.cells [.int .i64 o.kind, .int .i64 o.f.id, .int .i64 o.f.shape, rv, .int .i64 o.id, .int .i64 o.m.epoch, ra, ru] 36 1) := by rw [Heap.get_put, if_pos rfl]
    generalize (h.mk' h.next (.cells z8O 36 0)).put h.next (.cells [.int .i64 o.kind, .int .i64 o.f.id, .int .i64 o.f.shape, rv, .int .i64 o.id, .int .i64 o.m.epoch, ra, ru] 36 1) = h1 at *
    have lv1 := lv.frame x0.1 fun b _ hb => x0.2 b hb
    refine (lplace_pu g il o.f.id).cl (.cons lv1.fz (.cons (.int _ _) .nil)) ?_
    intro at1 hat1
    by_cases k0 : o.kind = 0
    · have hm := hp k0
      rcases hat1 with ⟨_, hno⟩ | ⟨j, rfl, hj, ej⟩
      · exact absurd rfl (hno _ hm)
      · have eo := up.uniq hm hj ej
        obtain ⟨b, off, cap, x, rx, rfl, hbn, hia, hld, hld1, lx, rf, ox⟩ := live_look lv1 il hj
        rw [eo] at hld rf
        have c2 : ¬ ((j : Int) < 0) := by omega
        simp only [g0, k0, c2, t5, hia, hld, ox, ov, HN, RW, RX, VOp.fresh, bxC, bsC, un, most, callsOf, seval, Int.reducePow, ↓reduceIte, Nat.reduceEqDiff, reduceCtorEq]
        refine (sFeat_pu g (f := o.f) rf ⟨rv, rfl, i2, i3, iv⟩).cl (.cons (.agg (.cons (.int _ _) (.cons (.int _ _) (.cons lx.fz .nil)))) (.cons (Fz.refl (by simp [AV.tolds, AV.told, iv.told tRing])) .nil)) ?_
        rintro _ rfl
        simp only [t1, t5, t7, w1, RX, VOp.fresh, bxC, bsC, un, most, callsOf, seval, Int.reducePow, ↓reduceIte, Nat.reduceEqDiff, reduceCtorEq]
        refine nxt _ h1 lv1 ?_ ?_ ?_ fun j hj => by simp only [sg_set]; repeat rw [if_neg (by omega)]
        · simp only [t1, sg_set, Nat.reduceEqDiff, ↓reduceIte]
        · simp only [t5, sg_set, Nat.reduceEqDiff, ↓reduceIte]
        · simp only [sg_set, Nat.reduceEqDiff, ↓reduceIte]
    · by_cases k1 : o.kind = 1
      · simp only [g0, k0, k1, t5, HN, RW, RX, VOp.fresh, bxC, bsC, un, most, callsOf, seval, Int.reducePow, ↓reduceIte, Nat.reduceEqDiff, reduceCtorEq]
        refine (lplace_pu g il o.id).cl (.cons lv1.fz (.cons (.int _ _) .nil)) ?_
        rintro at2 (⟨rfl, _⟩ | ⟨j, _, hj, ej⟩)
        · have c2 : ¬ (0 : Int) ≤ -1 := by decide
          simp only [c2, t1, t5, t7, w1, RX, VOp.fresh, bxC, bsC, un, most, callsOf, seval, Int.reducePow, ↓reduceIte, Nat.reduceEqDiff, reduceCtorEq]
          refine nxt _ h1 lv1 ?_ ?_ ?_ fun j hj => by simp only [sg_set]; repeat rw [if_neg (by omega)]
          · simp only [t1, sg_set, Nat.reduceEqDiff, ↓reduceIte]
          · simp only [t5, sg_set, Nat.reduceEqDiff, ↓reduceIte]
          · simp only [sg_set, Nat.reduceEqDiff, ↓reduceIte]
        · exact absurd ej (hd k1 _ (getD_mem.2 ⟨j, hj, rfl⟩))
      · simp only [g0, k0, k1, t1, t5, t7, w1, HN, RW, RX, VOp.fresh, bxC, bsC, un, most, callsOf, seval, Int.reducePow, ↓reduceIte, Nat.reduceEqDiff, reduceCtorEq]
        refine nxt _ h1 lv1 ?_ ?_ ?_ fun j hj => by simp only [sg_set]; repeat rw [if_neg (by omega)]
        · simp only [t1, sg_set, Nat.reduceEqDiff, ↓reduceIte]
        · simp only [t5, sg_set, Nat.reduceEqDiff, ↓reduceIte]
        · simp only [sg_set, Nat.reduceEqDiff, ↓reduceIte]
theorem rules2 (g : Pg P tab) {ops : List Op} {wo : AV} (hwo : IsL 112 ROp wo ops) {fs : List Feat} {w : AV} (hw : IsL 32 RFeat w fs) {l : List Feat} {va ta : AV} (il : IsL 32 RFeat ta l) (up : Up l) (hkeep : ∀ f ∈ fs, ¬ turnP ops f.id → f ∈ l) {h : Heap} (lv : Lv h (fun _ => True) va ta) (n : Nat) :
    ∀ (i : Nat) (s : T AV) (k : List Fr) (Q : Ex → T AV → Heap → Prop), i + n = fs.length → sg s 0 = w → sg s 1 = wo → sg s 5 = va → sg s 10 = .int .i64 i →
    (∀ s', (∀ j, j < 6 → sg s' j = sg s j) → Un P k Q (.exit 3) s' h) → Lp P b3_1 s h (Un P k Q) := by
  have hbd := hw.bound (by decide)
  induction n with
  | zero =>
    intro i s k Q hi t0 t1 t5 t10 hK
    refine g.lpe b3_1.eq_1 ?_
    have c1 : ¬ ((i : Int) < (fs.length : Int)) := by omega
    simp only [t0, t10, hw.len, c1, RX, VOp.fresh, bxC, bsC, un, most, callsOf, seval, Int.reducePow, ↓reduceIte, Nat.reduceEqDiff, reduceCtorEq]
    exact hK _ fun j hj => by simp only [sg_set]; repeat rw [if_neg (by omega)]
  | succ n ih =>
    intro i s k Q hi t0 t1 t5 t10 hK
    refine g.lpe b3_1.eq_1 ?_
    have c1 : (i : Int) < (fs.length : Int) := by omega
    have w1 : IntKind.i64.wrap ((i : Int) + 1) = ((i + 1 : Nat) : Int) := by rw [w64 (by omega) (by omega)]; push_cast; rfl
    obtain ⟨x1, r1, i4, i2, i3, _, g1⟩ := getFeat hw i (by omega)
    have hmem : fs.getD i feat0 ∈ fs := getD_mem.2 ⟨i, by omega, rfl⟩
    generalize fs.getD i feat0 = f at *
    have hk := hkeep f hmem
    have ox1 := isL_one i4
    have two := hwo.told tOp
    have nxt : ∀ (s' : T AV), sg s' 0 = w → sg s' 1 = wo → sg s' 5 = va → sg s' 10 = .int .i64 ((i + 1 : Nat) : Int) → (∀ j, j < 6 → sg s' j = sg s j) → Lp P b3_1 s' h (Un P k Q) := fun s' a1 a2 a3 a4 a5 =>
      ih (i + 1) s' k Q (by omega) a1 a2 a3 a4 fun s2 q2 => hK s2 fun j hj => (q2 j hj).trans (a5 j hj)
    clear ih
    simp only [t0, t5, t10, hw.len, c1, g1, RX, VOp.fresh, bxC, bsC, un, most, callsOf, seval, Int.reducePow, ↓reduceIte, Nat.reduceEqDiff, reduceCtorEq]
    refine (lplace_pu g il f.id).cl (.cons lv.fz (.cons (.int _ _) .nil)) ?_
    intro at1 hat1
    simp only [t0, t1, t10, g1, Bool.or_self, RX, VOp.fresh, bxC, bsC, un, most, callsOf, seval, Int.reducePow, ↓reduceIte, Nat.reduceEqDiff, reduceCtorEq]
    refine (turned_pu g hwo f.id).go (by simp [AV.tolds, AV.told, two]) ?_
    rintro _ ⟨b, rfl, hb⟩
    cases b with
    | true =>
      simp only [t0, t10, w1, RX, VOp.fresh, bxC, bsC, un, most, callsOf, seval, Int.reducePow, ↓reduceIte, Nat.reduceEqDiff, reduceCtorEq]
      refine nxt _ ?_ ?_ ?_ ?_ fun j hj => by simp only [sg_set]; repeat rw [if_neg (by omega)]
      · simp only [t0, sg_set, Nat.reduceEqDiff, ↓reduceIte]
      · simp only [t1, sg_set, Nat.reduceEqDiff, ↓reduceIte]
      · simp only [t5, sg_set, Nat.reduceEqDiff, ↓reduceIte]
      · simp only [sg_set, Nat.reduceEqDiff, ↓reduceIte]
    | false =>
      have hm := hk fun c => by have := hb.2 c; cases this
      rcases hat1 with ⟨_, hno⟩ | ⟨j, rfl, hj, ej⟩
      · exact absurd rfl (hno _ hm)
      · have eo := up.uniq hm hj ej
        obtain ⟨b, off, cap, x, rx, rfl, hbn, hia, hld, hld1, lx, rf, ox⟩ := live_look lv il hj
        rw [eo] at hld rf
        have c2 : ¬ ((j : Int) < 0) := by omega
        simp only [t0, t5, t10, c2, g1, hia, hld, ox, ox1, RX, VOp.fresh, bxC, bsC, un, most, callsOf, seval, Int.reducePow, ↓reduceIte, Nat.reduceEqDiff, reduceCtorEq]
        refine (sFeat_pu g (f := f) rf ⟨x1, rfl, i2, i3, i4⟩).cl (.cons (.agg (.cons (.int _ _) (.cons (.int _ _) (.cons lx.fz .nil)))) (.cons (Fz.refl (by simp [AV.tolds, AV.told, i4.told tRing])) .nil)) ?_
        rintro _ rfl
        simp only [t0, t10, w1, RX, VOp.fresh, bxC, bsC, un, most, callsOf, seval, Int.reducePow, ↓reduceIte, Nat.reduceEqDiff, reduceCtorEq]
        refine nxt _ ?_ ?_ ?_ ?_ fun j hj => by simp only [sg_set]; repeat rw [if_neg (by omega)]
        · simp only [t0, sg_set, Nat.reduceEqDiff, ↓reduceIte]
        · simp only [t1, sg_set, Nat.reduceEqDiff, ↓reduceIte]
        · simp only [t5, sg_set, Nat.reduceEqDiff, ↓reduceIte]
        · simp only [sg_set, Nat.reduceEqDiff, ↓reduceIte]
theorem live_len {h : Heap} {B : Nat → Prop} {v t : AV} {l : List Feat} (lv : Lv h B v t) (il : IsL 32 RFeat t l) (hh : Heap) : lnV hh v = .val (.int .i64 l.length) hh := by
  by_cases h0 : 0 < l.length
  · obtain ⟨b, off, cap, x, rv, rfl, _⟩ := live_look lv il h0
    rfl
  · have e : l = [] := List.eq_nil_of_length_eq_zero (by omega)
    subst e
    obtain ⟨D, f, _⟩ := lv
    rcases il.2 with ⟨rfl, _⟩ | ⟨c, rfl, hc⟩
    · cases f; rfl
    · cases hc
      cases f with
      | told => rfl
      | sl hl => simp at hl
      | sl0 => rfl
theorem rules3 (g : Pg P tab) {ops : List Op} {wo : AV} (hwo : IsL 112 ROp wo ops) {fs : List Feat} {w : AV} (hw : IsL 32 RFeat w fs) {l : List Feat} {va ta : AV} (il : IsL 32 RFeat ta l) (up : Up l) (hfrom : ∀ f ∈ l, turnP ops f.id ∨ ∃ f' ∈ fs, f'.id = f.id) {h : Heap} (lv : Lv h (fun _ => True) va ta) (n : Nat) :
    ∀ (i : Nat) (s : T AV) (k : List Fr) (Q : Ex → T AV → Heap → Prop), i + n = l.length → sg s 0 = w → sg s 1 = wo → sg s 5 = va → sg s 12 = .int .i64 i →
    (∀ s', Un P k Q (.exit 5) s' h) → Lp P b3_2 s h (Un P k Q) := by
  have hbd := il.bound (by decide)
  have hln := live_len lv il
  have two := hwo.told tOp
  have tw := hw.told tFeat
  induction n with
  | zero =>
    intro i s k Q hi t0 t1 t5 t12 hK
    refine g.lpe b3_2.eq_1 ?_
    have c1 : ¬ ((i : Int) < (l.length : Int)) := by omega
    simp only [t5, t12, hln, c1, RX, VOp.fresh, bxC, bsC, un, most, callsOf, seval, Int.reducePow, ↓reduceIte, Nat.reduceEqDiff, reduceCtorEq]
    exact hK _
  | succ n ih =>
    intro i s k Q hi t0 t1 t5 t12 hK
    refine g.lpe b3_2.eq_1 ?_
    have c1 : (i : Int) < (l.length : Int) := by omega
    have w1 : IntKind.i64.wrap ((i : Int) + 1) = ((i + 1 : Nat) : Int) := by rw [w64 (by omega) (by omega)]; push_cast; rfl
    obtain ⟨b, off, cap, x, rx, ev, hbn, hia, hld, hld1, lx, rf, ox⟩ := live_look lv il (i := i) (by omega)
    have hf := hfrom (l.getD i feat0) (getD_mem.2 ⟨i, by omega, rfl⟩)
    have hup : 0 < i → (l.getD (i - 1) feat0).id < (l.getD i feat0).id := fun h0 => up (i - 1) i (by omega) (by omega)
    have nxt : ∀ (s' : T AV), sg s' 0 = w → sg s' 1 = wo → sg s' 5 = va → sg s' 12 = .int .i64 ((i + 1 : Nat) : Int) → Lp P b3_2 s' h (Un P k Q) := fun s' a1 a2 a3 a4 => ih (i + 1) s' k Q (by omega) a1 a2 a3 a4 hK
    clear ih
    have tail : ∀ (x : Int), x = (l.getD i feat0).id → True := fun _ _ => trivial
    by_cases h0 : 0 < i
    · have c2 : (0 : Int) < (i : Int) := by omega
      have w2 : IntKind.i64.wrap ((i : Int) - 1) = ((i - 1 : Nat) : Int) := by rw [w64 (by omega) (by omega)]; omega
      obtain ⟨b', off', cap', x', rx', ev', hbn', hia', hld', hld1', _⟩ := live_look lv il (i := i - 1) (by omega)
      have c3 : ¬ (l.getD i feat0).id ≤ (l.getD (i - 1) feat0).id := by have := hup h0; omega
      generalize l.getD i feat0 = f at *
      generalize l.getD (i - 1) feat0 = f' at *
      simp only [t1, t5, t12, hln, c1, c2, w2, hia, hia', hld1, hld1', c3, Bool.or_self, RX, VOp.fresh, bxC, bsC, un, most, callsOf, seval, Int.reducePow, ↓reduceIte, Nat.reduceEqDiff, reduceCtorEq]
      refine (turned_pu g hwo f.id).go (by simp [AV.tolds, AV.told, two]) ?_
      rintro _ ⟨q, rfl, hq⟩
      cases q with
      | true =>
        simp only [t12, w1, RX, VOp.fresh, bxC, bsC, un, most, callsOf, seval, Int.reducePow, ↓reduceIte, Nat.reduceEqDiff, reduceCtorEq]
        refine nxt _ ?_ ?_ ?_ ?_
        · simp only [t0, sg_set, Nat.reduceEqDiff, ↓reduceIte]
        · simp only [t1, sg_set, Nat.reduceEqDiff, ↓reduceIte]
        · simp only [t5, sg_set, Nat.reduceEqDiff, ↓reduceIte]
        · simp only [sg_set, Nat.reduceEqDiff, ↓reduceIte]
      | false =>
        simp only [t0, t5, t12, hia, hld1, RX, VOp.fresh, bxC, bsC, un, most, callsOf, seval, Int.reducePow, ↓reduceIte, Nat.reduceEqDiff, reduceCtorEq]
        refine (lplace_pu g hw f.id).go (by simp [AV.tolds, AV.told, tw]) ?_
        rintro _ (⟨rfl, hno⟩ | ⟨j, rfl, hj, ej⟩)
        · rcases hf with hf | ⟨f2, hf2, e2⟩
          · have := hq.2 hf; cases this
          · exact absurd e2 (hno f2 hf2)
        · have c4 : ¬ ((j : Int) < 0) := by omega
          simp only [c4, t12, w1, RX, VOp.fresh, bxC, bsC, un, most, callsOf, seval, Int.reducePow, ↓reduceIte, Nat.reduceEqDiff, reduceCtorEq]
          refine nxt _ ?_ ?_ ?_ ?_
          · simp only [t0, sg_set, Nat.reduceEqDiff, ↓reduceIte]
          · simp only [t1, sg_set, Nat.reduceEqDiff, ↓reduceIte]
          · simp only [t5, sg_set, Nat.reduceEqDiff, ↓reduceIte]
          · simp only [sg_set, Nat.reduceEqDiff, ↓reduceIte]
    · have c2 : ¬ (0 : Int) < (i : Int) := by omega
      generalize l.getD i feat0 = f at *
      simp only [t1, t5, t12, hln, c1, c2, hia, hld1, Bool.or_self, RX, VOp.fresh, bxC, bsC, un, most, callsOf, seval, Int.reducePow, ↓reduceIte, Nat.reduceEqDiff, reduceCtorEq]
      refine (turned_pu g hwo f.id).go (by simp [AV.tolds, AV.told, two]) ?_
      rintro _ ⟨q, rfl, hq⟩
      cases q with
      | true =>
        simp only [t12, w1, RX, VOp.fresh, bxC, bsC, un, most, callsOf, seval, Int.reducePow, ↓reduceIte, Nat.reduceEqDiff, reduceCtorEq]
        refine nxt _ ?_ ?_ ?_ ?_
        · simp only [t0, sg_set, Nat.reduceEqDiff, ↓reduceIte]
        · simp only [t1, sg_set, Nat.reduceEqDiff, ↓reduceIte]
        · simp only [t5, sg_set, Nat.reduceEqDiff, ↓reduceIte]
        · simp only [sg_set, Nat.reduceEqDiff, ↓reduceIte]
      | false =>
        simp only [t0, t5, t12, hia, hld1, RX, VOp.fresh, bxC, bsC, un, most, callsOf, seval, Int.reducePow, ↓reduceIte, Nat.reduceEqDiff, reduceCtorEq]
        refine (lplace_pu g hw f.id).go (by simp [AV.tolds, AV.told, tw]) ?_
        rintro _ (⟨rfl, hno⟩ | ⟨j, rfl, hj, ej⟩)
        · rcases hf with hf | ⟨f2, hf2, e2⟩
          · have := hq.2 hf; cases this
          · exact absurd e2 (hno f2 hf2)
        · have c4 : ¬ ((j : Int) < 0) := by omega
          simp only [c4, t12, w1, RX, VOp.fresh, bxC, bsC, un, most, callsOf, seval, Int.reducePow, ↓reduceIte, Nat.reduceEqDiff, reduceCtorEq]
          refine nxt _ ?_ ?_ ?_ ?_
          · simp only [t0, sg_set, Nat.reduceEqDiff, ↓reduceIte]
          · simp only [t1, sg_set, Nat.reduceEqDiff, ↓reduceIte]
          · simp only [t5, sg_set, Nat.reduceEqDiff, ↓reduceIte]
          · simp only [sg_set, Nat.reduceEqDiff, ↓reduceIte]
theorem modelRules_pu (g : Pg P tab) (hins : InsF P 22 31) {fs : List Feat} {ops : List Op} {w wo : AV} (hw : IsL 32 RFeat w fs) (hwo : IsL 112 ROp wo ops) : Pu P 3 [w, wo] (fun v => v = .bool true) := by
  refine g.pu (vf := v3) rfl rfl ?_
  have tw := hw.told tFeat
  have two := hwo.told tOp
  simp only [v3, RX, VOp.fresh, bxC, bsC, un, most, callsOf, seval, Int.reducePow, ↓reduceIte, Nat.reduceEqDiff, reduceCtorEq]
  refine (awake24_pu g hins).go rfl ?_
  rintro _ rfl
  simp only [RX, VOp.fresh, bxC, bsC, un, most, callsOf, seval, Int.reducePow, ↓reduceIte, Nat.reduceEqDiff, reduceCtorEq]
  refine apply_any g hins hw hwo (Fzs.refl (by simp [AV.tolds, tw, two])) (fun h1 x1 no => ?_) fun va ta h1 u ok lva ila x1 => ?_
  · simp only [RX, VOp.fresh, bxC, bsC, un, most, callsOf, seval, Int.reducePow, ↓reduceIte, Nat.reduceEqDiff, reduceCtorEq]
    refine (num_pu g _).go rfl ?_
    rintro _ rfl
    simp only [RX, VOp.fresh, bxC, bsC, un, most, callsOf, seval, Int.reducePow, ↓reduceIte, Nat.reduceEqDiff, reduceCtorEq]
  · simp only [RX, VOp.fresh, bxC, bsC, un, most, callsOf, seval, Int.reducePow, ↓reduceIte, Nat.reduceEqDiff, reduceCtorEq]
    refine (num_pu g _).go rfl ?_
    rintro _ rfl
    simp only [RX, VOp.fresh, bxC, bsC, un, most, callsOf, seval, Int.reducePow, ↓reduceIte, Nat.reduceEqDiff, reduceCtorEq]
    have up := apF_up u.up ops
    have mm := fun f => mem_apF (f := f) (l := fs) ok.dist ok.putId
    have oid0 : ∀ o : Op, o.kind = 0 → opId o = o.f.id := fun o k => by unfold opId; rw [if_pos k]
    have oid1 : ∀ o : Op, o.kind = 1 → opId o = o.id := fun o k => by unfold opId; rw [if_neg (by omega)]
    refine rules1 g hwo ila up (fun o ho k => (mm _).2 (.inr ⟨o, ho, k, rfl⟩)) (fun o ho k f hf e => ?_) ops.length 0 _ h1 _ _ (by omega) (lva.weak fun _ _ _ => trivial) ?_ ?_ ?_ fun s2 h2 lv2 k2 => ?_
    · rcases (mm f).1 hf with ⟨_, h⟩ | ⟨o', ho', k', rfl⟩
      · exact h o ho (by rw [oid1 o k, e])
      · obtain ⟨i, hi, ei⟩ := (getD_mem (d := op0)).1 ho
        obtain ⟨j, hj, ej⟩ := (getD_mem (d := op0)).1 ho'
        have e1 : opId o = opId o' := by rw [oid1 o k, oid0 o' k', e]
        have hp := ok.putId o' ho' k'
        rcases Nat.lt_trichotomy i j with c | c | c
        · exact (ok.2.2 j hj).2.2 (by rw [ej, oid0 o' k']; exact hp) i c (by rw [ei, ej]; exact e1)
        · rw [c, ej] at ei
          rw [ei] at k'
          omega
        · exact (ok.2.2 i hi).2.2 (by rw [ei, e1, oid0 o' k']; exact hp) j c (by rw [ei, ej]; exact e1.symm)
    · simp only [sg_set, Nat.reduceEqDiff, ↓reduceIte]
    · simp only [sg_set, Nat.reduceEqDiff, ↓reduceIte]
    · simp only [sg_set, Nat.reduceEqDiff, ↓reduceIte]
      rfl
    have a0 : sg s2 0 = w := (k2 0 (by decide)).trans (by simp only [sg_set, Nat.reduceEqDiff, ↓reduceIte])
    have a1 : sg s2 1 = wo := (k2 1 (by decide)).trans (by simp only [sg_set, Nat.reduceEqDiff, ↓reduceIte])
    have a5 : sg s2 5 = va := (k2 5 (by decide)).trans (by simp only [sg_set, Nat.reduceEqDiff, ↓reduceIte])
    simp only [RX, VOp.fresh, bxC, bsC, un, most, callsOf, seval, Int.reducePow, ↓reduceIte, Nat.reduceEqDiff, reduceCtorEq]
    refine rules2 g hwo hw ila up (fun f hf hn => (mm f).2 (.inl ⟨hf, (turnP_out ok (by have := (u.ok f hf).1; omega)).1 hn⟩)) lv2 fs.length 0 _ _ _ (by omega) ?_ ?_ ?_ ?_ fun s3 k3 => ?_
    · simp only [a0, sg_set, Nat.reduceEqDiff, ↓reduceIte]
    · simp only [a1, sg_set, Nat.reduceEqDiff, ↓reduceIte]
    · simp only [a5, sg_set, Nat.reduceEqDiff, ↓reduceIte]
    · simp only [sg_set, Nat.reduceEqDiff, ↓reduceIte]
      rfl
    have b0 : sg s3 0 = w := (k3 0 (by decide)).trans (by simp only [a0, sg_set, Nat.reduceEqDiff, ↓reduceIte])
    have b1 : sg s3 1 = wo := (k3 1 (by decide)).trans (by simp only [a1, sg_set, Nat.reduceEqDiff, ↓reduceIte])
    have b5 : sg s3 5 = va := (k3 5 (by decide)).trans (by simp only [a5, sg_set, Nat.reduceEqDiff, ↓reduceIte])
    simp only [RX, VOp.fresh, bxC, bsC, un, most, callsOf, seval, Int.reducePow, ↓reduceIte, Nat.reduceEqDiff, reduceCtorEq]
    refine rules3 g hwo hw ila up (fun f hf => ?_) lv2 (apF fs ops).length 0 _ _ _ (by omega) ?_ ?_ ?_ ?_ fun s4 => ?_
    · rcases (mm f).1 hf with ⟨h, _⟩ | ⟨o, ho, k, rfl⟩
      · exact .inr ⟨f, h, rfl⟩
      · exact .inl ⟨o, ho, .inl ⟨k, rfl⟩⟩
    · simp only [b0, sg_set, Nat.reduceEqDiff, ↓reduceIte]
    · simp only [b1, sg_set, Nat.reduceEqDiff, ↓reduceIte]
    · simp only [b5, sg_set, Nat.reduceEqDiff, ↓reduceIte]
    · simp only [sg_set, Nat.reduceEqDiff, ↓reduceIte]
      rfl
    simp only [RX, VOp.fresh, bxC, bsC, un, most, callsOf, seval, Int.reducePow, ↓reduceIte, Nat.reduceEqDiff, reduceCtorEq]
end
end Go.Proofs.Ytpfpngmfooagiaa.VM
namespace Go.Proofs.Ytpfpngmfooagiaa.VM
theorem wFs {c : List AV} (h : Ws [.sl 40 shFeat] c) : ∃ w l, c = [w] ∧ IsL 32 RFeat w l := by
  cases h with | cons h t =>
    cases t
    obtain ⟨l, hl⟩ := h.isL wFeat
    exact ⟨_, l, rfl, Nat.le_trans (Nat.mul_le_mul_left _ (by decide)) hl.1, hl.2⟩
theorem wOps {c : List AV} (h : Ws [.sl 112 shOp] c) : ∃ w l, c = [w] ∧ IsL 112 ROp w l := by
  cases h with | cons h t =>
    cases t
    obtain ⟨l, hl⟩ := h.isL wOp
    exact ⟨_, l, rfl, hl⟩
end Go.Proofs.Ytpfpngmfooagiaa.VM
