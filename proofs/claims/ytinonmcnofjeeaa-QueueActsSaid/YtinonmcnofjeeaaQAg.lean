/- Part of a proof: what stands for the program, and its walk. No condition. -/
import Derived.Below
import Derived.ChangeArms
import Derived.ChangeMaps5
import Derived.KernelRfl
import Derived.Laws.Cells
import Derived.Laws.IdiomCopy
import Derived.MapKept
import Derived.OrdersIn
import Derived.RangeFuncLeaves
import Derived.RangeFuncRecord
import Derived.SizedLaws
import Derived.WalkKit
import Derived.WalkLawsBesides
import GoSem.Claim
import Derived.Test.YtinonmcnofjeeaaQAf
set_option linter.unusedSimpArgs false
set_option linter.unusedVariables false
set_option linter.defProp false
set_option maxHeartbeats 1000000
namespace Go.Proofs.Ytinonmcnofjeeaa.VM
attribute [local irreducible] Af Nx EvO Ev Un Gd Cd EvR EvQ EvC Nc Gc Lp EvM NxM AfM GdM EvMR EvMQ EvMD EvMC Nm Gm
structure Ac where
  k : Int
  m : Ms
  at0 : Int
def RAct (x : Ac) (c : List AV) : Prop := ∃ a u, c = .int .i64 x.k :: (msC x.m a u ++ [.int .i64 x.at0]) ∧ IsL 112 ROp a x.m.ops ∧ IsL 40 RFeat u x.m.fs
theorem zAct (x : Ac) (c : List AV) (h : RAct x c) : c.length = 18 := by obtain ⟨a, u, rfl, _⟩ := h; rfl
abbrev z18 : List AV := [.int .i64 0, .int .i64 0, .int .i64 0, .int .i64 0, .int .i64 0, .int .i64 0, .int .i64 0, .bool false, .int .i64 0, .int .i64 0, .bool false, .int .i64 0, .int .i64 0, .int .i64 0, .int .i64 0, .nils, .nils, .int .i64 0]
section
variable {P : Program}
theorem acts_rounds (g : Pg P tab) {l : List Ac} {w : AV} (hw : IsL 176 RAct w l) {qb rb : Nat} {mo : Int} (n : Nat) : ∀ (i : Nat) (xs ys : List Mw) (D E : List Nat) (s : T AV) (h : Heap) (k : List Fr) (Q : Ex → T AV → Heap → Prop), i + n = 80 → AI g h qb rb mo xs ys D E → sg s 1 = w → sg s 5 = .ptr qb 0 → sg s 7 = .ptr rb 0 → sg s 9 = .int .i64 i → (∀ s' h', Un P k Q (.exit 0) s' h') → Lp P b10_0 s h (Un P k Q) := by
  have hbd := hw.bound (by decide)
  induction n with
  | zero =>
    intro i xs ys D E s h k Q hi ai t1 t5 t7 t9 hQ
    refine g.lpe b10_0.eq_1 ?_
    have c2 : ¬ ((i : Int) < 80) := by omega
    by_cases c1 : (i : Int) < (l.length : Int)
    · simp only [t1, t9, hw.len, c1, c2, RX, VOp.fresh, bxC, bsC, un, most, callsOf, seval, Int.reducePow, ↓reduceIte, Nat.reduceEqDiff, reduceCtorEq]
      exact hQ _ _
    · simp only [t1, t9, hw.len, c1, RX, VOp.fresh, bxC, bsC, un, most, callsOf, seval, Int.reducePow, ↓reduceIte, Nat.reduceEqDiff, reduceCtorEq]
      exact hQ _ _
  | succ n ih =>
    intro i xs ys D E s h k Q hi ai t1 t5 t7 t9 hQ
    have c2 : (i : Int) < 80 := by omega
    by_cases c1 : (i : Int) < (l.length : Int)
    · refine g.lpe (show b10_0 = .seq (match b10_0 with | .seq a _ => a | x => x) (.seq (.block 1 (.seq (match b10_0 with | .seq _ (.seq (.block _ (.seq a _)) _) => a | x => x) (.seq (.block 2 sw10) tail10))) (match b10_0 with | .seq _ (.seq _ a) => a | x => x)) from rfl) ?_
      have hS := @sw_send10 P g qb rb mo xs ys D E
      have hT := @sw_take10 P g qb rb mo xs ys D E
      have hC := @sw_copy10 P g qb rb mo xs ys D E
      have hL := @acts_tail P g qb rb mo
      generalize sw10 = SW at *
      generalize tail10 = TL at *
      obtain ⟨ci, r, hci, hat⟩ := hw.at zAct i (by omega)
      have w1 : IntKind.i64.wrap ((i : Int) + 1) = ((i + 1 : Nat) : Int) := by rw [w64 (by omega) (by omega)]; push_cast; rfl
      have lci := zAct _ _ hci
      have oci : ci.all AV.one = true := by
        obtain ⟨a, u, rfl, h1, h2⟩ := hci
        simp [msC, List.all_cons, one_int, one_bool, isL_one h1, isL_one h2]
      obtain ⟨F, hF⟩ : ∃ F, F = ci ++ r := ⟨_, rfl⟩
      have pF : part true F 0 18 = some (.agg ci) := by
        have : VM.cut F 0 18 = some ci := by rw [hF, cut_eq, List.drop_zero, List.take_left' lci, if_pos lci]
        simp only [part, this, if_true]
      rw [← hF] at hat
      simp only [b10_0, t1, t9, hw.len, c1, c2, hat, pF, lci, oci, List.append_nil, HN, RW, RX, VOp.fresh, bxC, bsC, un, most, callsOf, seval, Int.reducePow, ↓reduceIte, Nat.reduceEqDiff, reduceCtorEq]
      have x0 := Ext.new (h := h) (o := .cells z18 84 0) (o' := .cells ci 84 1)
      have n0 : ((h.mk' h.next (.cells z18 84 0)).put h.next (.cells ci 84 1)).next = h.next + 1 := new_next
      have g0 : ((h.mk' h.next (.cells z18 84 0)).put h.next (.cells ci 84 1)).get h.next = some (.cells ci 84 1) := by rw [Heap.get_put, if_pos rfl]
      generalize (h.mk' h.next (.cells z18 84 0)).put h.next (.cells ci 84 1) = h1 at *
      have a1 := ai.ext x0
      obtain ⟨a, u, hce, ia, iu⟩ := hci
      have hne : h.next ≠ qb ∧ h.next ∉ D := ⟨by have := ai.q.1; omega, fun c => by have := ai.q.lt _ c; omega⟩
      have fin : ∀ (s' : T AV) (h' : Heap) (xs' ys' : List Mw) (D' E' : List Nat), AI g h' qb rb mo xs' ys' D' E' → sg s' 1 = w → sg s' 5 = .ptr qb 0 → sg s' 7 = .ptr rb 0 → sg s' 9 = .int .i64 i → Ev P TL s' h' (Un P (.blk 1 :: .seq (.ops [⟨some 57, none, .mov (.t 9)⟩, ⟨some 58, none, .bin .add (.t 57) (.c (.int .i64 1))⟩, ⟨some 9, none, .mov (.t 58)⟩]) :: .lp b10_0 :: k) Q) := by
        intro s' h' xs' ys' D' E' a' k1 k5 k7 k9
        refine hL a' k5 k7 fun s2 h2 a2 ks => ?_
        have l1 := (ks 1 (by decide)).trans k1
        have l5 := (ks 5 (by decide)).trans k5
        have l7 := (ks 7 (by decide)).trans k7
        have l9 := (ks 9 (by decide)).trans k9
        simp only [l9, w1, RX, VOp.fresh, bxC, bsC, un, most, callsOf, seval, Int.reducePow, ↓reduceIte, Nat.reduceEqDiff, reduceCtorEq]
        refine ih (i + 1) xs' ys' D' E' _ h2 k Q (by omega) a2 ?_ ?_ ?_ ?_ hQ
        · simp only [l1, sg_set, Nat.reduceEqDiff, ↓reduceIte]
        · simp only [l5, sg_set, Nat.reduceEqDiff, ↓reduceIte]
        · simp only [l7, sg_set, Nat.reduceEqDiff, ↓reduceIte]
        · simp only [sg_set, Nat.reduceEqDiff, ↓reduceIte]
      by_cases hk : l[i].k < 4
      · refine hS a1 ?_ ?_ ⟨l[i].m, a, u, ia, iu⟩ hce g0 (by omega) ?_ hne hk fun s' h' xs' ys' D' E' a' ks => ?_
        · simp only [t5, sg_set, Nat.reduceEqDiff, ↓reduceIte]
        · simp only [t7, sg_set, Nat.reduceEqDiff, ↓reduceIte]
        · simp only [sg_set, Nat.reduceEqDiff, ↓reduceIte]
        · simp only [RX, VOp.fresh, bxC, bsC, un, most, callsOf, seval, Int.reducePow, ↓reduceIte, Nat.reduceEqDiff, reduceCtorEq]
          refine fin s' h' xs' ys' D' E' a' ?_ ?_ ?_ ?_
          · rw [ks 1 (by decide)]
            simp only [t1, sg_set, Nat.reduceEqDiff, ↓reduceIte]
          · rw [ks 5 (by decide)]
            simp only [t5, sg_set, Nat.reduceEqDiff, ↓reduceIte]
          · rw [ks 7 (by decide)]
            simp only [t7, sg_set, Nat.reduceEqDiff, ↓reduceIte]
          · rw [ks 9 (by decide)]
            simp only [t9, sg_set, Nat.reduceEqDiff, ↓reduceIte]
      by_cases hk6 : l[i].k < 6
      · refine hT a1 ?_ ?_ ⟨l[i].m, a, u, ia, iu⟩ hce g0 (by omega) ?_ hne hk hk6 fun s' h' xs' ys' D' E' a' ks => ?_
        · simp only [t5, sg_set, Nat.reduceEqDiff, ↓reduceIte]
        · simp only [t7, sg_set, Nat.reduceEqDiff, ↓reduceIte]
        · simp only [sg_set, Nat.reduceEqDiff, ↓reduceIte]
        · simp only [RX, VOp.fresh, bxC, bsC, un, most, callsOf, seval, Int.reducePow, ↓reduceIte, Nat.reduceEqDiff, reduceCtorEq]
          refine fin s' h' xs' ys' D' E' a' ?_ ?_ ?_ ?_
          · rw [ks 1 (by decide)]
            simp only [t1, sg_set, Nat.reduceEqDiff, ↓reduceIte]
          · rw [ks 5 (by decide)]
            simp only [t5, sg_set, Nat.reduceEqDiff, ↓reduceIte]
          · rw [ks 7 (by decide)]
            simp only [t7, sg_set, Nat.reduceEqDiff, ↓reduceIte]
          · rw [ks 9 (by decide)]
            simp only [t9, sg_set, Nat.reduceEqDiff, ↓reduceIte]
      · refine hC a1 ?_ ?_ ⟨l[i].m, a, u, ia, iu⟩ hce g0 (by omega) ?_ hne hk hk6 fun s' h' xs' ys' D' E' a' ks => ?_
        · simp only [t5, sg_set, Nat.reduceEqDiff, ↓reduceIte]
        · simp only [t7, sg_set, Nat.reduceEqDiff, ↓reduceIte]
        · simp only [sg_set, Nat.reduceEqDiff, ↓reduceIte]
        · simp only [RX, VOp.fresh, bxC, bsC, un, most, callsOf, seval, Int.reducePow, ↓reduceIte, Nat.reduceEqDiff, reduceCtorEq]
          refine fin s' h' xs' ys' D' E' a' ?_ ?_ ?_ ?_
          · rw [ks 1 (by decide)]
            simp only [t1, sg_set, Nat.reduceEqDiff, ↓reduceIte]
          · rw [ks 5 (by decide)]
            simp only [t5, sg_set, Nat.reduceEqDiff, ↓reduceIte]
          · rw [ks 7 (by decide)]
            simp only [t7, sg_set, Nat.reduceEqDiff, ↓reduceIte]
          · rw [ks 9 (by decide)]
            simp only [t9, sg_set, Nat.reduceEqDiff, ↓reduceIte]
    · refine g.lpe b10_0.eq_1 ?_
      simp only [t1, t9, hw.len, c1, RX, VOp.fresh, bxC, bsC, un, most, callsOf, seval, Int.reducePow, ↓reduceIte, Nat.reduceEqDiff, reduceCtorEq]
      exact hQ _ _
theorem queueActs_pu (g : Pg P tab) (mo : Int) {l : List Ac} {w : AV} (hw : IsL 176 RAct w l) : Pu P 10 [.int .i64 mo, w] (fun v => v = .bool true) := by
  refine g.pu (vf := v10) rfl rfl ?_
  simp only [v10, RX, VOp.fresh, bxC, bsC, un, most, callsOf, seval, Int.reducePow, ↓reduceIte, Nat.reduceEqDiff, reduceCtorEq]
  by_cases hm : 1 ≤ mo ∧ mo ≤ 64
  · refine (mK g).new_cl g (fun _ qb h1 q1 hq x1 => ?_) (fun c => absurd hm c)
    simp only [RX, VOp.fresh, bxC, bsC, un, most, callsOf, seval, Int.reducePow, ↓reduceIte, Nat.reduceEqDiff, reduceCtorEq]
    refine (mK g).rnew_cl g (fun _ rb h2 r2 hr x2 => ?_) (fun c => absurd hm c)
    simp only [RX, VOp.fresh, bxC, bsC, un, most, callsOf, seval, Int.reducePow, ↓reduceIte, Nat.reduceEqDiff, reduceCtorEq]
    refine (num_pu g _).go rfl ?_
    rintro _ rfl
    simp only [HE, RX, VOp.fresh, bxC, bsC, un, most, callsOf, seval, Int.reducePow, ↓reduceIte, Nat.reduceEqDiff, reduceCtorEq]
    have hqlt := q1.1
    refine acts_rounds g hw (qb := qb) (rb := rb) (mo := mo) 80 0 [] [] [] [] _ h2 _ _ (by omega) ⟨q1.ext x2, r2, rfl, fun x hx => by simp at hx, by omega, by simp, by simp, fun b hb => by simp at hb⟩ ?_ ?_ ?_ ?_ fun s' h' => ?_
    · simp only [sg_set, Nat.reduceEqDiff, ↓reduceIte]
    · simp only [sg_set, Nat.reduceEqDiff, ↓reduceIte]
    · simp only [sg_set, Nat.reduceEqDiff, ↓reduceIte]
    · simp only [sg_set, Nat.reduceEqDiff, ↓reduceIte]
      rfl
    simp only [RX, VOp.fresh, bxC, bsC, un, most, callsOf, seval, Int.reducePow, ↓reduceIte, Nat.reduceEqDiff, reduceCtorEq]
    refine (awake17_pu g).go rfl ?_
    rintro _ rfl
    simp only [RX, VOp.fresh, bxC, bsC, un, most, callsOf, seval, Int.reducePow, ↓reduceIte, Nat.reduceEqDiff, reduceCtorEq]
  · refine (mK g).new_cl g (fun c => absurd c hm) (fun _ => ?_)
    simp only [RX, VOp.fresh, bxC, bsC, un, most, callsOf, seval, Int.reducePow, ↓reduceIte, Nat.reduceEqDiff, reduceCtorEq]
    refine (mK g).rnew_cl g (fun c => absurd c hm) (fun _ => ?_)
    simp only [RX, VOp.fresh, bxC, bsC, un, most, callsOf, seval, Int.reducePow, ↓reduceIte, Nat.reduceEqDiff, reduceCtorEq]
    refine (num_pu g _).go rfl ?_
    rintro _ rfl
    simp only [HE, RX, VOp.fresh, bxC, bsC, un, most, callsOf, seval, Int.reducePow, ↓reduceIte, Nat.reduceEqDiff, reduceCtorEq]
    refine (awake17_pu g).go rfl ?_
    rintro _ rfl
    simp only [RX, VOp.fresh, bxC, bsC, un, most, callsOf, seval, Int.reducePow, ↓reduceIte, Nat.reduceEqDiff, reduceCtorEq]
end
theorem wAct (c : List AV) (h : Ws [.int .i64, .int .i64, .int .i64, .int .i64, .int .i64, .int .i64, .int .i64, .bool, .int .i64, .int .i64, .bool, .int .i64, .int .i64, .int .i64, .int .i64, .sl 112 shOp, .sl 40 shFeat, .int .i64] c) : ∃ a, RAct a c := by
  cases h with | cons h0 t => cases t with | cons h1 t => cases t with | cons h2 t => cases t with | cons h3 t => cases t with | cons h4 t => cases t with | cons h5 t => cases t with | cons h6 t => cases t with | cons h7 t => cases t with | cons h8 t => cases t with | cons h9 t => cases t with | cons h10 t => cases t with | cons h11 t => cases t with | cons h12 t => cases t with | cons h13 t => cases t with | cons h14 t => cases t with | cons h15 t => cases t with | cons h16 t => cases t with | cons h17 t =>
    cases t; cases h0 with | int _ n0 w0 => cases h1 with | int _ n1 w1 => cases h2 with | int _ n2 w2 => cases h3 with | int _ n3 w3 => cases h4 with | int _ n4 w4 => cases h5 with | int _ n5 w5 => cases h6 with | int _ n6 w6 => cases h7 with | bool b7 => cases h8 with | int _ n8 w8 => cases h9 with | int _ n9 w9 => cases h10 with | bool b10 => cases h11 with | int _ n11 w11 => cases h12 with | int _ n12 w12 => cases h13 with | int _ n13 w13 => cases h14 with | int _ n14 w14 => cases h17 with | int _ n17 w17 =>
      obtain ⟨l15, e15⟩ := h15.isL wOp
      obtain ⟨l16, e16⟩ := h16.isL wFeat
      exact ⟨⟨n0, ⟨n1, n2, n3, n4, n5, n6, b7, n8, n9, b10, ⟨n11, n12, n13, n14⟩, l15, l16⟩, n17⟩, _, _, rfl, e15, e16⟩
theorem wActs {c : List AV} (h : Ws [.sl 176 [.int .i64, .int .i64, .int .i64, .int .i64, .int .i64, .int .i64, .int .i64, .bool, .int .i64, .int .i64, .bool, .int .i64, .int .i64, .int .i64, .int .i64, .sl 112 shOp, .sl 40 shFeat, .int .i64]] c) : ∃ w l, c = [w] ∧ IsL 176 RAct w l := by
  cases h with | cons h t =>
    cases t
    obtain ⟨l, hl⟩ := h.isL wAct
    exact ⟨_, l, rfl, hl⟩
end Go.Proofs.Ytinonmcnofjeeaa.VM
