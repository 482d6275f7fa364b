/- Small data of records and messages. No claim stands here. -/
import Derived.Test.YtinonmcnofjeeaaL11Rec
namespace Go.Proofs.Ytinonmcnofjeeaa.VM
set_option linter.unusedSimpArgs false
set_option linter.unusedVariables false
set_option linter.defProp false
set_option maxHeartbeats 1000000
attribute [local irreducible] Af Nx EvO Ev Un Gd Cd EvR EvQ EvC Nc Gc Lp EvM NxM AfM GdM EvMR EvMQ EvMD EvMC Nm Gm
/-- the sign of an answer -/
def numOf : AV → Bool
  | .tup [.str _, .int .i64 (.ofNat 0)] => true
  | _ => false
section
variable {P : Program}
theorem num_pu (g : Pg P tab) (n : Int) : Pu P 19 [.int .i64 n] (fun v => v = .int .i64 n) := by
  refine g.pu (vf := v19) rfl rfl ?_
  simp +contextual (maxSteps := 2000000) (disch := omega) only [v19, R0, R1, R2, R3, R4, R5, R6, R7, R8, R9, VOp.fresh, bxC, bsC, AV.cells, un, most, callsOf, List.contains_nil, List.contains_cons, beq_iff_eq, List.getElem?_cons_zero, List.getElem?_cons_succ, seval, Option.map_none, Int.reducePow, ↓reduceIte, Nat.reduceEqDiff, reduceCtorEq, and_self]
theorem numOf_eq {v : AV} (h : numOf v = true) : ∃ s, v = .tup [.str s, .int .i64 0] := by
  unfold numOf at h
  split at h
  · exact ⟨_, rfl⟩
  · cases h

/-! the data -/
def f5 : Feat := ⟨5, 0, [[⟨6, 7⟩]]⟩
def m0 : Mp := ⟨0, [], []⟩
abbrev ring5 : AV := .rs [.rs [.int .i64 6, .int .i64 7] 1] 1
theorem i64c {n : Int} (a : -1000000 ≤ n) (b : n ≤ 1000000) : I64 n := ⟨by omega, by omega⟩
theorem i0 : I64 0 := i64c (by decide) (by decide)
theorem i1 : I64 1 := i64c (by decide) (by decide)
theorem i5 : I64 5 := i64c (by decide) (by decide)
theorem i9 : I64 9 := i64c (by decide) (by decide)
theorem ring5_is : IsL 24 RRing ring5 [[⟨6, 7⟩]] := by
  have h1 : IsL 16 RPt (.rs [.int .i64 6, .int .i64 7] 1) [⟨6, 7⟩] := isL_rs (R := RPt) (l := [⟨6, 7⟩]) (c := [.int .i64 6, .int .i64 7]) (.cons (show RPt ⟨6, 7⟩ [.int .i64 6, .int .i64 7] from ⟨rfl, i64c (by decide) (by decide), i64c (by decide) (by decide)⟩) .nil) (by decide)
  exact isL_rs (R := RRing) (l := [[⟨6, 7⟩]]) (c := [.rs [.int .i64 6, .int .i64 7] 1]) (.cons (show RRing [⟨6, 7⟩] _ from ⟨_, rfl, h1⟩) .nil) (by decide)
theorem putOp {id : Int} (h : I64 id) : ROp ⟨0, f5, id, m0⟩ [.int .i64 0, .int .i64 5, .int .i64 0, ring5, .int .i64 id, .int .i64 0, .nils, .nils] :=
  ⟨_, _, _, rfl, i0, i5, i0, ring5_is, h, i0, isL_nil _ _, isL_nil _ _⟩
theorem delOp {id : Int} (h : I64 id) : ROp ⟨1, ⟨0, 0, []⟩, id, m0⟩ [.int .i64 1, .int .i64 0, .int .i64 0, .nils, .int .i64 id, .int .i64 0, .nils, .nils] :=
  ⟨_, _, _, rfl, i1, i0, i0, isL_nil _ _, h, i0, isL_nil _ _, isL_nil _ _⟩
theorem two_is {o o' : Op} {c c' : List AV} (h : ROp o c) (h' : ROp o' c') : IsL 112 ROp (.rs (c ++ (c' ++ [])) 2) [o, o'] := isL_rs (l := [o, o']) (.cons h (.cons h' .nil)) (show 2 * 112 ≤ reachBytes by decide)
abbrev opsC : AV := .rs [.int .i64 0, .int .i64 5, .int .i64 0, ring5, .int .i64 0, .int .i64 0, .nils, .nils, .int .i64 1, .int .i64 0, .int .i64 0, .nils, .int .i64 9, .int .i64 0, .nils, .nils] 2
def opsG : List Op := [⟨0, f5, 0, m0⟩, ⟨1, ⟨0, 0, []⟩, 9, m0⟩]
theorem opsC_is : IsL 112 ROp opsC opsG := two_is (putOp i0) (delOp i9)
theorem recC (kind node seq base : Int) (commit : Bool) (epoch : Int) {w : AV} {ops : List Op} (h : IsL 112 ROp w ops) : RRc ⟨kind, node, seq, base, commit, ⟨epoch, [], []⟩, ops⟩ [.int .i64 kind, .int .i64 node, .int .i64 seq, .int .i64 base, .bool commit, .int .i64 epoch, .nils, .nils, w] :=
  ⟨_, _, _, rfl, isL_nil _ _, isL_nil _ _, h⟩

theorem one1_is : IsL 8 RInt (.rs [.int .i64 0] 1) [0] := isL_rs (R := RInt) (l := [0]) (c := [.int .i64 0]) (.cons (show RInt 0 [.int .i64 0] from ⟨rfl, i0⟩) .nil) (show 1 * 8 ≤ reachBytes by decide)
theorem mapOp : ROp ⟨2, ⟨0, 0, []⟩, 0, ⟨1, [0], [0]⟩⟩ [.int .i64 2, .int .i64 0, .int .i64 0, .nils, .int .i64 0, .int .i64 1, .rs [.int .i64 0] 1, .rs [.int .i64 0] 1] :=
  ⟨_, _, _, rfl, (i64c (by decide) (by decide) : I64 2), i0, i0, isL_nil _ _, i0, i1, one1_is, one1_is⟩
theorem three_is : IsL 112 ROp (.rs [.int .i64 0, .int .i64 5, .int .i64 0, ring5, .int .i64 0, .int .i64 0, .nils, .nils, .int .i64 1, .int .i64 0, .int .i64 0, .nils, .int .i64 9, .int .i64 0, .nils, .nils, .int .i64 2, .int .i64 0, .int .i64 0, .nils, .int .i64 0, .int .i64 1, .rs [.int .i64 0] 1, .rs [.int .i64 0] 1] 3) [⟨0, f5, 0, m0⟩, ⟨1, ⟨0, 0, []⟩, 9, m0⟩, ⟨2, ⟨0, 0, []⟩, 0, ⟨1, [0], [0]⟩⟩] :=
  isL_rs (.cons (putOp i0) (.cons (delOp i9) (.cons mapOp .nil))) (show 3 * 112 ≤ reachBytes by decide)
theorem rep_is (n : Nat) (h : n ≤ 1000) : IsL 112 ROp (.rs (List.replicate n [.int .i64 0, .int .i64 0, .int .i64 0, .nils, .int .i64 0, .int .i64 0, .nils, .nils]).flatten n) (List.replicate n op0) := by
  have hc : ∀ n, Cat ROp (List.replicate n op0) (List.replicate n [.int .i64 0, .int .i64 0, .int .i64 0, .nils, .int .i64 0, .int .i64 0, .nils, .nils]).flatten := by
    intro n
    induction n with
    | zero => exact .nil
    | succ n ih =>
      rw [List.replicate_succ, List.replicate_succ, List.flatten_cons]
      exact .cons (show ROp op0 [.int .i64 0, .int .i64 0, .int .i64 0, .nils, .int .i64 0, .int .i64 0, .nils, .nils] from ⟨_, _, _, rfl, i0, i0, i0, isL_nil _ _, i0, i0, isL_nil _ _, isL_nil _ _⟩) ih
  have e : reachBytes = 140737488351232 := rfl
  have := isL_rs (hc n) (b := 112) (by rw [List.length_replicate, e]; omega)
  rwa [List.length_replicate] at this
theorem rep_told (n : Nat) : AV.tolds (List.replicate n [.int .i64 0, .int .i64 0, .int .i64 0, .nils, .int .i64 0, .int .i64 0, .nils, .nils]).flatten = true := by
  induction n with
  | zero => rfl
  | succ n ih => rw [List.replicate_succ, List.flatten_cons, Cat.told.tolds_append, ih]; rfl
theorem rep_len (n : Nat) : (List.replicate n ([.int .i64 0, .int .i64 0, .int .i64 0, .nils, .int .i64 0, .int .i64 0, .nils, .nils] : List AV)).flatten.length = n * 8 := by
  induction n with
  | zero => rfl
  | succ n ih => rw [List.replicate_succ, List.flatten_cons, List.length_append, ih]; simp; omega
theorem one15 {n : Nat} (h0 : 0 < n) (hn : n ≤ 1000) {h : Heap} {e : TypeId} {ver : Nat}
    (hg : h.get 5 = some (.cells (List.replicate n [.int .i64 0, .int .i64 0, .int .i64 0, .nils, .int .i64 0, .int .i64 0, .nils, .nils]).flatten e ver)) :
    Fz true h (.agg [.int .i64 1, .int .i64 1, .int .i64 2, .int .i64 3, .bool false, .int .i64 0, .nils, .nils, .sl 5 0 n n 8])
      (.agg [.int .i64 1, .int .i64 1, .int .i64 2, .int .i64 3, .bool false, .int .i64 0, .nils, .nils, .rs (List.replicate n [.int .i64 0, .int .i64 0, .int .i64 0, .nils, .int .i64 0, .int .i64 0, .nils, .nils]).flatten n]) := by
  refine .agg (.cons (.int _ _) (.cons (.int _ _) (.cons (.int _ _) (.cons (.int _ _) (.cons (.bool _) (.cons (.int _ _) (.cons .nils (.cons .nils (.cons ?_ .nil)))))))))
  refine .sl h0 hg (cs := (List.replicate n [.int .i64 0, .int .i64 0, .int .i64 0, .nils, .int .i64 0, .int .i64 0, .nils, .nils]).flatten) ?_ (Fzs.refl (rep_told n))
  have e := rep_len n
  rw [cut_eq, List.drop_zero, ← e, List.take_length, if_pos rfl]
theorem no_kind {r : Rc} (h : r.kind < 0 ∨ 4 < r.kind) : ¬ recOk r := by
  rintro (⟨k, _⟩ | ⟨k | k, _⟩ | ⟨k, _⟩ | ⟨k, _⟩) <;> omega
theorem no_one {r : Rc} (hk : r.kind = 1) (h : txOk r.node r.seq → -1 ≤ r.base → r.base ≤ 65535 → opsOk 8 r.ops → r.commit = false → ¬ mpZero r.m) : ¬ recOk r := by
  rintro (⟨k, _⟩ | ⟨_, a, b, c, d, e, f⟩ | ⟨k, _⟩ | ⟨k, _⟩)
  · omega
  · exact h a b c d e f
  · omega
  · omega

end
end Go.Proofs.Ytinonmcnofjeeaa.VM
