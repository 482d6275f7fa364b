/- Part of a proof: what stands for the program, and its walk. No condition. -/
import Derived.Below
import Derived.ChangeArms
import Derived.ChangeMaps5
import Derived.Laws.Cells
import Derived.Laws.IdiomCopy
import Derived.MapKept
import Derived.Orders
import Derived.Shelf.Spec.SlicesInsertGrow
import Derived.SizedLaws
import Derived.WalkKit
import Derived.WalkLawsBesides
import GoSem.Claim
import Derived.Test.YthmkenkjfmbkiaaMCb
set_option linter.unusedSimpArgs false
set_option linter.unusedVariables false
set_option linter.defProp false
set_option maxHeartbeats 1000000
namespace Go.Proofs.Ythmkenkjfmbkiaa.VM
open Go.RowKit Go.Shelf
section
variable {P : Program} {φ φ' : Env} {w w' : World} {H H1 H2 : Heap}
/-- two memories that hold the same cells under the same names -/
def SameH (H1 H2 : Heap) : Prop := H2.next = H1.next ∧ ∀ c, H2.get c = H1.get c ∨ ∃ l e v e' v', H1.get c = some (.cells l e v) ∧ H2.get c = some (.cells l e' v')
theorem SameH.live (s : SameH H1 H2) (c : Nat) : live (H2.get c) = live (H1.get c) ∧ (H2.get c = none ↔ H1.get c = none) := by
  rcases s.2 c with e | ⟨l, e, v, e', v', g1, g2⟩
  · rw [e]; exact ⟨rfl, Iff.rfl⟩
  · rw [g1, g2]; exact ⟨rfl, by simp⟩
theorem HR.congr (hr : HR φ w H1) (s : SameH H1 H2) : HR φ w H2 := by
  refine ⟨fun c => ?_, hr.lt, fun b b' p p' h1 h2 => hr.inj b b' p p' (by rw [← (s.live b).1]; exact h1) (by rw [← (s.live b').1]; exact h2), fun b hb => ((s.live b).2).2 (hr.next b (by rw [← s.1]; exact hb))⟩
  have := hr.blk c
  rcases s.2 c with e | ⟨l, e, v, e', v', g1, g2⟩
  · rw [e]; exact this
  · rw [g1] at this; rw [g2]; exact this
theorem UpdH.congr (u : UpdH φ w H φ' w' H1) (s : SameH H1 H2) : UpdH φ w H φ' w' H2 :=
  { toUpd := u.toUpd
    keepL := u.keepL
    deadL := fun b h1 h2 => by
      obtain ⟨a, c, d⟩ := u.deadL b h1 h2
      exact ⟨fun e => a ((s.live b).2.1 e), by rw [(s.live b).1]; exact c, d⟩
    newL := fun b B o h1 h2 => u.newL b B o (by rw [← (s.live b).1]; exact h1) h2
    stay := fun b h1 e => u.stay b h1 ((s.live b).2.1 e) }
theorem Calls.ret {f : Nat} {us : Array Value} {u : Value} (e : Calls P f us w fun e w1 => e = .returned u ∧ w1 = w') {v : AV} (hv : VR φ' w' v u) (hr : HR φ' w' H2) (hu : UpdH φ w H φ' w' H2) :
    Calls P f us w fun e w' => ∃ φ' u, e = .returned u ∧ VR φ' w' v u ∧ HR φ' w' H2 ∧ UpdH φ w H φ' w' H2 :=
  Calls.mono e (by rintro e w1 ⟨rfl, rfl⟩; exact ⟨φ', u, rfl, hv, hr, hu⟩)
theorem VRs.zeros : ∀ n : Nat, VRs φ w (List.replicate n (.int .i64 0)) (List.replicate n (Value.int .i64 0))
  | 0 => by simpa using VRs.nil
  | n + 1 => by rw [List.replicate_succ, List.replicate_succ]; exact .cons (.int _ _) (VRs.zeros n)
theorem SameH.put2 {H0 : Heap} {nb e v e' v' : Nat} {X Y : Blk} {l : List AV} : SameH (((H0.mk' nb X).put nb Y).put nb (.cells l e v)) (H0.mk' nb (.cells l e' v')) := by
  refine ⟨by rw [put_next, put_next, mk_next, mk_next], fun d => ?_⟩
  by_cases hd : d = nb
  · subst hd
    exact .inr ⟨_, _, _, _, _, by rw [Heap.get_put, if_pos rfl], by rw [Heap.get_mk, if_pos rfl]⟩
  · exact .inl (by rw [Heap.get_put, if_neg hd, Heap.get_put, if_neg hd, Heap.get_mk, if_neg hd, Heap.get_mk, if_neg hd])
theorem ins_list {α : Type} {cs : List α} {x : α} {i : Nat} (hi : i < cs.length) : (cs.take (i + 1) ++ cs.drop i).take i ++ [x] ++ (cs.take (i + 1) ++ cs.drop i).drop (i + 1) = cs.take i ++ x :: cs.drop i := by
  have h1 : (cs.take (i + 1)).length = i + 1 := by rw [List.length_take]; omega
  rw [List.take_append_of_le_length (by omega), List.take_take, Nat.min_eq_left (by omega), List.drop_left' h1, List.append_assoc]
  rfl
theorem ins_list2 {α : Type} {cs zs : List α} {x : α} {i : Nat} (hi : i ≤ cs.length) (hz : zs.length = cs.length + 1 - i) : ((cs.take i ++ zs).take i ++ [x] ++ (cs.take i ++ zs).drop (i + 1)).take (i + 1) ++ cs.drop i ++ ((cs.take i ++ zs).take i ++ [x] ++ (cs.take i ++ zs).drop (i + 1)).drop (i + 1 + (cs.drop i).length) = cs.take i ++ x :: cs.drop i := by
  have h1 : (cs.take i).length = i := by rw [List.length_take]; omega
  have h2 : (cs.take i ++ zs).take i = cs.take i := List.take_left' h1
  rw [h2]
  have h3 : (cs.take i ++ [x]).length = i + 1 := by rw [List.length_append, h1]; rfl
  rw [List.take_left' h3]
  have h4 : (cs.take i ++ [x] ++ (cs.take i ++ zs).drop (i + 1)).drop (i + 1 + (cs.drop i).length) = [] := by
    apply List.drop_of_length_le
    simp only [List.length_append, List.length_drop, h1, hz, List.length_singleton]
    omega
  rw [h4, List.append_nil, List.append_assoc]
  rfl
theorem zc_int (k : Nat) : Builtin.zeroCells (Value.int .i64 0).cells k = (List.replicate k (Value.int .i64 0)).toArray := by
  apply Array.ext'
  simp [Builtin.zeroCells, Value.cells]
  apply List.ext_getElem
  · simp
  · intro i h1 h2; simp [Nat.mod_one]
theorem insert_ok {ρ : Ren} (L : Lays2.n21 P ρ) {b n cap i vb : Nat} {cs : List AV} {e e2 ver ver2 : Nat} {x : AV} (hg : H.get b = some (.cells cs e ver)) (hl : cs.length = n) (ho : cs.all AV.one = true) (hx : x.one = true) (hi : i ≤ n) (hgv : H.get vb = some (.cells [x] e2 ver2)) (hne : vb ≠ b) (hsm : n < 1000000) (hz0 : ∀ a, x = a → True) :
    OK P (ρ.f 21) [.sl b 0 n cap 1, .int .i64 i, .sl vb 0 1 1 1] H (.sl H.next 0 (n + 1) (n + 1) 1) ((H.put b .dead).mk' H.next (.cells (cs.take i ++ x :: cs.drop i) (ρ.t 3) 0)) := by
  refine ⟨⟨_, L.f21, rfl, fun e => by rw [show (Body2.n21 ρ).name = "slices.Insert[[]int,int]" from rfl] at e; exact absurd e (by decide)⟩, fun φ w us hr hus => ?_⟩
  obtain ⟨B, o, e', N, q1, q2, q3, q4, q5⟩ := hr.cells hg
  obtain ⟨B2, o2, e2', N2, p1, p2, p3, p4, p5⟩ := hr.cells hgv
  have hBB : B2 ≠ B := fun e => hne (hr.inj vb b _ _ (by rw [hgv]; rfl) (by rw [hg]; rfl) p1 q1 e)
  cases us with | mk us =>
  simp only at hus
  cases hus with | cons h1 t => cases t with | cons h2 t => cases t with | cons h3 t =>
  cases t
  cases h2
  obtain ⟨vs, v1, v2⟩ := p3.vals
  obtain ⟨us, u1, u2⟩ := q3.vals
  have vl : vs.length = 1 := by rw [← v1.length]; rfl
  have ul : us.length = n := by rw [← u1.length]; exact hl
  have oc := u1.one ho
  have ov := v1.one (by simp [hx])
  have hnx := hr.next H.next (Nat.le_refl _)
  have hlive : ∃ y, H.get b = some y := ⟨_, hg⟩
  cases h3 with
  | sl hb3 hc3 hl3 hs3 hr3 =>
    rename_i vB vo vc vN vE
    rw [p1] at hb3
    cases hb3
    rw [p2] at hs3
    cases hs3
    simp only [Nat.add_zero] at *
    have hnext : (H.put b .dead).next = H.next := rfl
    have hk : ∀ c, c ≠ b → (H.put b .dead).get c = H.get c := fun c hc => by rw [Heap.get_put, if_neg hc]
    have hbn : b ≠ H.next := fun e => by rw [e, hnx] at hg; cases hg
    have hnx2 : (H.put b .dead).get H.next = none := by rw [hk _ (Ne.symm hbn)]; exact hnx
    have endgrow : ∀ (base : Option Addr) (c : Nat), i = n → n ≤ c → c < n + 1 → (base = none → n = 0) → (∀ a, base = some a → ∀ j v, us[j]? = some v → w.cell? (a.add j) = some v) →
        Calls P (ρ.f 21) #[.slice base n c, .int .i64 (i : Int), .slice (some ⟨B2, o2, none⟩) 1 vc] w (fun e w' => ∃ φ' u, e = .returned u ∧ VR φ' w' (.sl H.next 0 (n + 1) (n + 1) 1) u ∧ HR φ' w' ((H.put b .dead).mk' H.next (.cells (cs.take i ++ x :: cs.drop i) (ρ.t 3) 0)) ∧ UpdH φ w H φ' w' ((H.put b .dead).mk' H.next (.cells (cs.take i ++ x :: cs.drop i) (ρ.t 3) 0))) := by
      intro base c hin h1 h2 h3 h4
      subst hin
      have C := Any2.slices_Insert_int_end_grow L base i c B2 o2 1 vc us vs w (by decide) h1 h2 (by omega) ul vl h3 h4 v2 ov
      have hs := (hr_drew hr)
      have hk1 := kill_ok hs hlive
      have hφ : φ H.next = none := by have := hr.blk H.next; rw [hnx] at this; exact this
      have hl' : VRs φ w.drew (cs.take i ++ x :: cs.drop i) (us ++ vs) := by
        rw [List.take_of_length_le (by omega), List.drop_of_length_le (by omega)]
        exact (u1.upd upd_drew).append (v1.upd upd_drew)
      have ea : (us ++ vs).toArray ++ Builtin.zeroCells (Value.int .i64 0).cells (grownCap w (i + 1) c (ρ.t 3) - (i + 1)) = (us ++ vs ++ (Builtin.zeroCells (Value.int .i64 0).cells (grownCap w (i + 1) c (ρ.t 3) - (i + 1))).toList).toArray := by simp
      rw [ea] at C
      have hcap : i + 1 ≤ grownCap w (i + 1) c (ρ.t 3) := grownCap_ge _ _ _ _
      refine Calls.ret C ?_ (hr_alloc hk1 hnx2 (br_new' (w := w.drew) hl' hφ (ρ.t 3) (ρ.t 3) 0)) (((updH_drew H).trans (updH_kill hlive)).trans (updH_alloc hk1 hnx2 _ _))
      refine .sl (o := 0) (at_self _ _) hcap (Nat.le_refl _) (shape_new _ _) ⟨?_, ?_⟩
      · rw [zc_int]
        simp [ul, vl]; omega
      · have := grownCap_le_maxLen w (i + 1) c (ρ.t 3) (by unfold maxLen; omega)
        unfold maxLen at this; omega
    cases h1 with
    | sl hb1 hc1 hl1 hs1 hr1 =>
      rename_i oB oo c oN oE
      rw [q1] at hb1
      cases hb1
      rw [q2] at hs1
      cases hs1
      have hcs : ∀ j v, us[j]? = some v → w.cell? ⟨B, o + j, none⟩ = some v := u2
      have hcell : ∀ j, j < N → (w.cell? ⟨B, j, none⟩).isSome = true := fun j hj => cell_some q2 hj
      by_cases hroom : n + 1 ≤ c
      · by_cases hin : i = n
        · subst hin
          have C := Any2.slices_Insert_int_end_room L B o i c B2 o2 1 vc vs w (by decide) hroom hr1.2 vl (fun j hj => hcell _ (by omega)) (fun j hj => q4 _ (by omega)) v2 ov
          obtain ⟨r1, r2⟩ := regrow (e0 := e') (o := o) (off := 0) hr hg q1 q2 (old := cs) (new := [x]) (us := vs) (at_ := o + i) q3 (by omega) v1 (by simp; omega) (ρ.t 3)
          rw [show cs.take i ++ x :: cs.drop i = cs ++ [x] by rw [List.take_of_length_le (by omega), List.drop_of_length_le (by omega)]]
          refine Calls.ret C ?_ r1 r2
          exact VR.sl (o := o) (off := 0) (at_self _ _) hroom (Nat.le_refl _) (r2.shape _ _ q2) ⟨by omega, hr1.2⟩
        · have hlt : i < n := by omega
          have C := Any2.slices_Insert_int_shift L B o n c i B2 o2 1 vc us vs w hlt (by decide) hroom hr1.2 hBB ul vl hcs (fun j hj => hcell _ (by omega)) (fun j hj => q4 _ (by omega)) v2 oc ov _ _ _ _ p2 q2 (by omega) (p4 _ (by simp at p5; omega)) (p4 _ (Nat.le_refl _))
          have hrd := hr_drew hr
          obtain ⟨r1, r2⟩ := regrow (e0 := e') (o := o) (off := 0) hrd hg q1 ((upd_drew (φ := φ) (w := w)).shape _ _ q2) (old := cs.take (i + 1)) (new := cs.drop i) (us := us.drop i) (at_ := o + (i + 1)) ((q3.upd upd_drew rfl).take (i + 1)) (by rw [List.length_take]; omega) ((u1.upd upd_drew).drop i) (by rw [List.length_drop]; omega) (ρ.t 3)
          have u2' := (updH_drew H).trans r2
          have g1 : ((H.put b .dead).mk' H.next (.cells (cs.take (i + 1) ++ cs.drop i) (ρ.t 3) 0)).get H.next = some (.cells (cs.take (i + 1) ++ cs.drop i) (ρ.t 3) 0) := by rw [Heap.get_mk, if_pos rfl]
          have ll : (cs.take (i + 1) ++ cs.drop i).length = n + 1 := by rw [List.length_append, List.length_take, List.length_drop]; omega
          have hw : writeAt ((H.put b .dead).mk' H.next (.cells (cs.take (i + 1) ++ cs.drop i) (ρ.t 3) 0)) H.next i [x] = some (((H.put b .dead).mk' H.next (.cells (cs.take (i + 1) ++ cs.drop i) (ρ.t 3) 0)).put H.next (.cells (cs.take i ++ x :: cs.drop i) (ρ.t 3) 1)) := by
            rw [writeAt_go, g1, wrB_some, if_pos ⟨by simp only [List.length_singleton]; omega, by simp [hx]⟩, List.length_singleton, ins_list (by omega)]
          obtain ⟨w1, _, _⟩ := hr_write r1 (at_self _ _) hw (v1.upd u2'.toUpd)
          have uw := updH_write (w := w.drew.setCells B (o + (i + 1)) (us.drop i)) (at_ := o + i) (us := vs) (at_self (φ := φ) H.next (B, o + 0)) hw
          have sm : SameH (((H.put b .dead).mk' H.next (.cells (cs.take (i + 1) ++ cs.drop i) (ρ.t 3) 0)).put H.next (.cells (cs.take i ++ x :: cs.drop i) (ρ.t 3) 1)) ((H.put b .dead).mk' H.next (.cells (cs.take i ++ x :: cs.drop i) (ρ.t 3) 0)) := by
            refine ⟨by rw [put_next, mk_next, mk_next], fun d => ?_⟩
            by_cases hd : d = H.next
            · subst hd
              exact .inr ⟨_, _, _, _, _, by rw [Heap.get_put, if_pos rfl], by rw [Heap.get_mk, if_pos rfl]⟩
            · exact .inl (by rw [Heap.get_put, if_neg hd, Heap.get_mk, if_neg hd, Heap.get_mk, if_neg hd])
          refine Calls.ret C ?_ (w1.congr sm) ((u2'.trans uw).congr sm)
          exact VR.sl (o := o) (off := 0) (at_self _ _) hroom (Nat.le_refl _) (uw.shape _ _ (r2.shape _ _ ((upd_drew (φ := φ) (w := w)).shape _ _ q2))) ⟨by omega, hr1.2⟩
      · by_cases hin : i = n
        · exact endgrow (some ⟨B, o, none⟩) c hin (by omega) (by omega) (fun c => by cases c) (fun a ha j v hj => by cases ha; rw [add_none]; exact hcs j v hj)
        · have hlt : i < n := by omega
          have C := Any2.slices_Insert_int_grow L B o n c i B2 o2 1 vc us vs w hlt (by decide) (by omega) (by omega) (by omega) ul vl hcs v2 oc ov
          have hk1 := kill_ok hr hlive
          have hφ : φ H.next = none := by have := hr.blk H.next; rw [hnx] at this; exact this
          have hZ : VRs φ w (cs.take i ++ List.replicate (n + 1 - i) (AV.int .i64 0)) (us.take i ++ List.replicate (n + 1 - i) (Value.int .i64 0)) := (u1.take i).append (VRs.zeros _)
          have ea : (us.take i).toArray ++ Builtin.zeroCells (Value.int .i64 0).cells (n + 1 - i) ++ Builtin.zeroCells (Value.int .i64 0).cells (grownCap w (n + 1) c (ρ.t 3) - (n + 1)) = (us.take i ++ List.replicate (n + 1 - i) (Value.int .i64 0) ++ List.replicate (grownCap w (n + 1) c (ρ.t 3) - (n + 1)) (Value.int .i64 0)).toArray := by rw [zc_int, zc_int]; simp
          rw [ea] at C
          have a1 := hr_alloc hk1 hnx2 (br_new' (w := w) (rest := List.replicate (grownCap w (n + 1) c (ρ.t 3) - (n + 1)) (Value.int .i64 0)) hZ hφ (ρ.t 3) (ρ.t 3) 0)
          have b1 := (updH_kill (φ := φ) (w := w) hlive).trans (updH_alloc hk1 hnx2 (.cells (us.take i ++ List.replicate (n + 1 - i) (Value.int .i64 0) ++ List.replicate (grownCap w (n + 1) c (ρ.t 3) - (n + 1)) (Value.int .i64 0)).toArray (ρ.t 3)) (.cells (cs.take i ++ List.replicate (n + 1 - i) (AV.int .i64 0)) (ρ.t 3) 0))
          have a2 := hr_drew a1
          have b2 := b1.trans (updH_drew _)
          have Zl : (cs.take i ++ List.replicate (n + 1 - i) (AV.int .i64 0)).length = n + 1 := by rw [List.length_append, List.length_take, List.length_replicate]; omega
          have g1 : ((H.put b .dead).mk' (H.put b .dead).next (.cells (cs.take i ++ List.replicate (n + 1 - i) (AV.int .i64 0)) (ρ.t 3) 0)).get H.next = some (.cells (cs.take i ++ List.replicate (n + 1 - i) (AV.int .i64 0)) (ρ.t 3) 0) := by rw [hnext, Heap.get_mk, if_pos rfl]
          have hw1 := writeAt_go (h := (H.put b .dead).mk' (H.put b .dead).next (.cells (cs.take i ++ List.replicate (n + 1 - i) (AV.int .i64 0)) (ρ.t 3) 0)) (b := H.next) (off := i) (vs := [x])
          rw [g1, wrB_some, if_pos ⟨by simp only [List.length_singleton]; omega, by simp [hx]⟩, List.length_singleton] at hw1
          obtain ⟨a3, _, _⟩ := hr_write (b := H.next) a2 (at_self (φ := φ) H.next (w.heap.size, 0)) hw1 (v1.upd b2.toUpd)
          have b3 := b2.trans (updH_write (b := H.next) (at_ := i) (us := vs) (at_self (φ := φ) H.next (w.heap.size, 0)) hw1)
          have a4 := hr_drew a3
          have b4 := b3.trans (updH_drew _)
          have g2 : (((H.put b .dead).mk' (H.put b .dead).next (.cells (cs.take i ++ List.replicate (n + 1 - i) (AV.int .i64 0)) (ρ.t 3) 0)).put H.next (.cells ((cs.take i ++ List.replicate (n + 1 - i) (AV.int .i64 0)).take i ++ [x] ++ (cs.take i ++ List.replicate (n + 1 - i) (AV.int .i64 0)).drop (i + 1)) (ρ.t 3) (0 + 1))).get H.next = some (.cells ((cs.take i ++ List.replicate (n + 1 - i) (AV.int .i64 0)).take i ++ [x] ++ (cs.take i ++ List.replicate (n + 1 - i) (AV.int .i64 0)).drop (i + 1)) (ρ.t 3) (0 + 1)) := by rw [Heap.get_put, if_pos rfl]
          have l2 : ((cs.take i ++ List.replicate (n + 1 - i) (AV.int .i64 0)).take i ++ [x] ++ (cs.take i ++ List.replicate (n + 1 - i) (AV.int .i64 0)).drop (i + 1)).length = n + 1 := by
            simp only [List.length_append, List.length_take, List.length_drop, List.length_singleton, List.length_replicate]; omega
          have hw2 := writeAt_go (h := ((H.put b .dead).mk' (H.put b .dead).next (.cells (cs.take i ++ List.replicate (n + 1 - i) (AV.int .i64 0)) (ρ.t 3) 0)).put H.next (.cells ((cs.take i ++ List.replicate (n + 1 - i) (AV.int .i64 0)).take i ++ [x] ++ (cs.take i ++ List.replicate (n + 1 - i) (AV.int .i64 0)).drop (i + 1)) (ρ.t 3) (0 + 1))) (b := H.next) (off := i + 1) (vs := cs.drop i)
          have od : (cs.drop i).all AV.one = true := List.all_eq_true.2 fun y hy => List.all_eq_true.1 ho y (List.mem_of_mem_drop hy)
          rw [g2, wrB_some, if_pos ⟨by rw [List.length_drop]; omega, od⟩, ins_list2 (by omega) (by rw [List.length_replicate]; omega)] at hw2
          have b4u := b4.toUpd
          obtain ⟨a5, _, _⟩ := hr_write (b := H.next) a4 (at_self (φ := φ) H.next (w.heap.size, 0)) hw2 ((u1.drop i).upd (by simpa using b4u))
          have b5 := b4.trans (updH_write (b := H.next) (at_ := i + 1) (us := us.drop i) (at_self (φ := φ) H.next (w.heap.size, 0)) hw2)
          simp only [Nat.zero_add] at a5 b5
          have s1 := shape_new (w := w) (us.take i ++ List.replicate (n + 1 - i) (Value.int .i64 0) ++ List.replicate (grownCap w (n + 1) c (ρ.t 3) - (n + 1)) (Value.int .i64 0)).toArray (ρ.t 3)
          have sh : ∀ {W : World} {q : Nat × TypeId × Nat} (k : Nat) (z : List Value), W.shape? w.heap.size = some q.2 → (W.drew.setCells w.heap.size k z).shape? w.heap.size = some q.2 := fun {W q} k z h => (upd_setCells (φ := φ.at H.next (w.heap.size, 0)) (b := H.next) (at_self _ _) k z).shape _ _ ((upd_drew (φ := φ) (w := W)).shape _ _ h)
          have s3 := sh (q := (0, _)) (i + 1) (us.drop i) (sh (q := (0, _)) i vs s1)
          refine Calls.ret (H2 := (H.put b .dead).mk' H.next (.cells (cs.take i ++ x :: cs.drop i) (ρ.t 3) 0)) C ?_ (a5.congr (SameH.put2 (l := cs.take i ++ x :: cs.drop i))) (b5.congr (SameH.put2 (l := cs.take i ++ x :: cs.drop i)))
          refine VR.sl (o := 0) (off := 0) (at_self _ _) (grownCap_ge _ _ _ _) (Nat.le_refl _) s3 ⟨?_, ?_⟩
          · simp [ul]; have := grownCap_ge w (n + 1) c (ρ.t 3); omega
          · have := grownCap_le_maxLen w (n + 1) c (ρ.t 3) (by unfold maxLen; omega)
            unfold maxLen at this; omega
    | sl0 a =>
      have hi0 : i = 0 := by omega
      subst hi0
      refine endgrow (some a) 0 rfl (Nat.le_refl _) (by omega) (fun c => by cases c) (fun a' ha j v hj => ?_)
      have : us = [] := List.eq_nil_of_length_eq_zero ul
      rw [this] at hj
      simp at hj
end
end Go.Proofs.Ythmkenkjfmbkiaa.VM
namespace Go.Proofs.Ythmkenkjfmbkiaa.VM
/-- furlong/furlonglaw7.MapChanges -/
def v7 : VFun := ⟨4, [(.tmp 8)], (.seq (.ops [⟨(some 4), none, .box 24 (.t 0)⟩, ⟨(some 8), none, .mov (.c (.bool false))⟩])
 (.seq (.seq (.ops [⟨(some 29), none, .call 31 []⟩, ⟨(some 30), none, .un .not (.t 29)⟩])
 (.cond (.t 30) (.seq (.ops [⟨(some 8), none, .mov (.c (.bool false))⟩])
 .ret) .skip))
 (.seq (.ops [⟨(some 31), none, .mov (.t 1)⟩, ⟨(some 32), none, .bin .and (.t 31) (.c (.int .i64 4294967295))⟩, ⟨(some 33), none, .mov (.t 3)⟩, ⟨(some 34), none, .bin .and (.t 33) (.c (.int .i64 4294967295))⟩, ⟨(some 9), none, .mov (.t 32)⟩, ⟨(some 10), none, .mov (.t 34)⟩])
 (.seq (.ops [⟨(some 36), none, .load true 3 (.t 4)⟩, ⟨(some 37), none, .mov (.t 9)⟩, ⟨(some 38), none, .build [(.int .i64 0), (.int .i64 0), (.int .i64 0)] [(0, 1, (.c (.int .i64 0))), (1, 1, (.t 37))]⟩, ⟨(some 39), none, .call 32 [(.t 36), (.c (.int .i64 8)), (.t 38)]⟩, ⟨(some 35), none, .mov (.t 39)⟩, ⟨(some 40), none, .extract (.t 35) 0⟩, ⟨(some 41), none, .extract (.t 35) 1⟩, ⟨(some 11), none, .alloc [(.int .i64 0), .nils, .nils] 24⟩, ⟨none, none, .store 3 (.t 11) (.t 40)⟩, ⟨(some 12), none, .mov (.t 41)⟩])
 (.seq (.seq (.ops [⟨(some 42), none, .mov (.t 12)⟩, ⟨(some 43), none, .call 17 [(.t 42)]⟩, ⟨(some 44), none, .bin .neq (.t 43) (.c (.int .i64 0))⟩])
 (.cond (.t 44) (.seq (.ops [⟨(some 45), none, .faddr 0 (.t 11)⟩, ⟨(some 46), none, .load false 1 (.t 45)⟩, ⟨(some 47), none, .bin .eql (.t 46) (.c (.int .i64 0))⟩, ⟨(some 8), none, .mov (.t 47)⟩])
 .ret) .skip))
 (.seq (.ops [⟨(some 49), none, .load true 3 (.t 4)⟩, ⟨(some 50), none, .mov (.t 10)⟩, ⟨(some 51), none, .call 33 [(.t 49), (.t 50)]⟩, ⟨(some 48), none, .mov (.t 51)⟩, ⟨(some 52), none, .extract (.t 48) 0⟩, ⟨(some 53), none, .extract (.t 48) 1⟩, ⟨(some 13), none, .mov (.t 52)⟩, ⟨(some 14), none, .mov (.t 53)⟩])
 (.seq (.ops [⟨(some 55), none, .load true 3 (.t 11)⟩, ⟨(some 56), none, .mov (.t 10)⟩, ⟨(some 57), none, .call 33 [(.t 55), (.t 56)]⟩, ⟨(some 54), none, .mov (.t 57)⟩, ⟨(some 58), none, .extract (.t 54) 0⟩, ⟨(some 59), none, .extract (.t 54) 1⟩, ⟨(some 15), none, .mov (.t 58)⟩, ⟨(some 16), none, .mov (.t 59)⟩])
 (.seq (.seq (.ops [⟨(some 60), none, .mov (.t 14)⟩, ⟨(some 61), none, .call 17 [(.t 60)]⟩, ⟨(some 62), none, .bin .neq (.t 61) (.c (.int .i64 0))⟩, ⟨(some 63), none, .mov (.t 62)⟩, ⟨(some 64), (some (63, false)), .mov (.t 16)⟩, ⟨(some 65), (some (63, false)), .call 17 [(.t 64)]⟩, ⟨(some 66), (some (63, false)), .bin .neq (.t 65) (.c (.int .i64 0))⟩, ⟨(some 67), none, .pick (.t 63) (.c (.bool true)) (.t 66)⟩, ⟨(some 68), none, .mov (.t 67)⟩, ⟨(some 69), (some (68, false)), .mov (.t 13)⟩, ⟨(some 70), (some (68, false)), .mov (.t 15)⟩, ⟨(some 71), (some (68, false)), .bin .neq (.t 69) (.t 70)⟩, ⟨(some 72), none, .pick (.t 68) (.c (.bool true)) (.t 71)⟩, ⟨(some 73), none, .mov (.t 72)⟩, ⟨(some 74), (some (73, false)), .faddr 0 (.t 11)⟩, ⟨(some 75), (some (73, false)), .load false 1 (.t 74)⟩, ⟨(some 76), (some (73, false)), .faddr 0 (.t 4)⟩, ⟨(some 77), (some (73, false)), .load false 1 (.t 76)⟩, ⟨(some 78), (some (73, false)), .bin .add (.t 77) (.c (.int .i64 1))⟩, ⟨(some 79), (some (73, false)), .bin .neq (.t 75) (.t 78)⟩, ⟨(some 80), none, .pick (.t 73) (.c (.bool true)) (.t 79)⟩, ⟨(some 81), none, .mov (.t 80)⟩, ⟨(some 82), (some (81, false)), .faddr 1 (.t 11)⟩, ⟨(some 83), (some (81, false)), .load false 1 (.t 82)⟩, ⟨(some 84), (some (81, false)), .bi (.len 1) [(.t 83)]⟩, ⟨(some 85), (some (81, false)), .faddr 1 (.t 4)⟩, ⟨(some 86), (some (81, false)), .load false 1 (.t 85)⟩, ⟨(some 87), (some (81, false)), .bi (.len 1) [(.t 86)]⟩, ⟨(some 88), (some (81, false)), .bin .add (.t 87) (.c (.int .i64 1))⟩, ⟨(some 89), (some (81, false)), .bin .neq (.t 84) (.t 88)⟩, ⟨(some 90), none, .pick (.t 81) (.c (.bool true)) (.t 89)⟩])
 (.cond (.t 90) (.seq (.ops [⟨(some 8), none, .mov (.c (.bool false))⟩])
 .ret) .skip))
 (.seq (.ops [⟨(some 91), none, .mov (.t 9)⟩, ⟨(some 92), none, .bin .sub (.t 91) (.c (.int .i64 1))⟩, ⟨(some 17), none, .mov (.t 92)⟩])
 (.seq (.seq (.ops [⟨(some 93), none, .mov (.t 17)⟩, ⟨(some 94), none, .bin .lss (.t 93) (.c (.int .i64 0))⟩])
 (.cond (.t 94) (.seq (.ops [⟨(some 8), none, .mov (.c (.bool false))⟩])
 .ret) .skip))
 (.seq (.ops [⟨(some 96), none, .load true 3 (.t 11)⟩, ⟨(some 97), none, .mov (.t 17)⟩, ⟨(some 98), none, .build [(.int .i64 0), (.int .i64 0), (.int .i64 0)] [(0, 1, (.c (.int .i64 2))), (1, 1, (.t 97))]⟩, ⟨(some 99), none, .call 32 [(.t 96), (.c (.int .i64 8)), (.t 98)]⟩, ⟨(some 95), none, .mov (.t 99)⟩, ⟨(some 100), none, .extract (.t 95) 0⟩, ⟨(some 101), none, .extract (.t 95) 1⟩, ⟨(some 18), none, .alloc [(.int .i64 0), .nils, .nils] 24⟩, ⟨none, none, .store 3 (.t 18) (.t 100)⟩, ⟨(some 19), none, .mov (.t 101)⟩])
 (.seq (.seq (.ops [⟨(some 102), none, .mov (.t 19)⟩, ⟨(some 103), none, .call 17 [(.t 102)]⟩, ⟨(some 104), none, .bin .eql (.t 103) (.c (.int .i64 701))⟩])
 (.cond (.t 104) (.seq (.ops [⟨(some 105), none, .faddr 0 (.t 11)⟩, ⟨(some 106), none, .load false 1 (.t 105)⟩, ⟨(some 107), none, .bin .eql (.t 106) (.c (.int .i64 65535))⟩, ⟨(some 8), none, .mov (.t 107)⟩])
 .ret) .skip))
 (.seq (.ops [⟨(some 108), none, .mov (.t 2)⟩, ⟨(some 109), none, .conv (.int .u64) (.t 108)⟩, ⟨(some 110), none, .bin .rem (.t 109) (.c (.int .u64 8))⟩, ⟨(some 111), none, .conv (.int .i64) (.t 110)⟩, ⟨(some 20), none, .mov (.t 111)⟩])
 (.seq (.ops [⟨(some 113), none, .load true 3 (.t 11)⟩, ⟨(some 114), none, .mov (.t 9)⟩, ⟨(some 115), none, .mov (.t 20)⟩, ⟨(some 116), none, .build [(.int .i64 0), (.int .i64 0), (.int .i64 0)] [(0, 1, (.c (.int .i64 1))), (1, 1, (.t 114)), (2, 1, (.t 115))]⟩, ⟨(some 117), none, .call 32 [(.t 113), (.c (.int .i64 8)), (.t 116)]⟩, ⟨(some 112), none, .mov (.t 117)⟩, ⟨(some 118), none, .extract (.t 112) 0⟩, ⟨(some 119), none, .extract (.t 112) 1⟩, ⟨(some 21), none, .alloc [(.int .i64 0), .nils, .nils] 24⟩, ⟨none, none, .store 3 (.t 21) (.t 118)⟩, ⟨(some 22), none, .mov (.t 119)⟩])
 (.seq (.ops [⟨(some 121), none, .load true 3 (.t 21)⟩, ⟨(some 122), none, .mov (.t 9)⟩, ⟨(some 123), none, .call 33 [(.t 121), (.t 122)]⟩, ⟨(some 120), none, .mov (.t 123)⟩, ⟨(some 124), none, .extract (.t 120) 0⟩, ⟨(some 125), none, .extract (.t 120) 1⟩, ⟨(some 23), none, .mov (.t 124)⟩, ⟨(some 24), none, .mov (.t 125)⟩])
 (.seq (.ops [⟨(some 127), none, .load true 3 (.t 21)⟩, ⟨(some 128), none, .mov (.t 17)⟩, ⟨(some 129), none, .call 33 [(.t 127), (.t 128)]⟩, ⟨(some 126), none, .mov (.t 129)⟩, ⟨(some 130), none, .extract (.t 126) 0⟩, ⟨(some 131), none, .extract (.t 126) 1⟩, ⟨(some 25), none, .mov (.t 130)⟩, ⟨(some 26), none, .mov (.t 131)⟩])
 (.seq (.ops [⟨(some 133), none, .load true 3 (.t 4)⟩, ⟨(some 134), none, .mov (.t 17)⟩, ⟨(some 135), none, .call 33 [(.t 133), (.t 134)]⟩, ⟨(some 132), none, .mov (.t 135)⟩, ⟨(some 136), none, .extract (.t 132) 0⟩, ⟨(some 137), none, .extract (.t 132) 1⟩, ⟨(some 27), none, .mov (.t 136)⟩, ⟨(some 28), none, .mov (.t 137)⟩])
 (.seq (.ops [⟨(some 138), none, .mov (.t 19)⟩, ⟨(some 139), none, .call 17 [(.t 138)]⟩, ⟨(some 140), none, .bin .eql (.t 139) (.c (.int .i64 0))⟩, ⟨(some 141), none, .mov (.t 140)⟩, ⟨(some 142), (some (141, true)), .faddr 0 (.t 18)⟩, ⟨(some 143), (some (141, true)), .load false 1 (.t 142)⟩, ⟨(some 144), (some (141, true)), .faddr 0 (.t 4)⟩, ⟨(some 145), (some (141, true)), .load false 1 (.t 144)⟩, ⟨(some 146), (some (141, true)), .bin .add (.t 145) (.c (.int .i64 2))⟩, ⟨(some 147), (some (141, true)), .bin .eql (.t 143) (.t 146)⟩, ⟨(some 148), none, .pick (.t 141) (.t 147) (.c (.bool false))⟩, ⟨(some 149), none, .mov (.t 148)⟩, ⟨(some 150), (some (149, true)), .faddr 1 (.t 18)⟩, ⟨(some 151), (some (149, true)), .load false 1 (.t 150)⟩, ⟨(some 152), (some (149, true)), .faddr 1 (.t 4)⟩, ⟨(some 153), (some (149, true)), .load false 1 (.t 152)⟩, ⟨(some 154), (some (149, true)), .call 30 [(.t 151), (.t 153)]⟩, ⟨(some 155), none, .pick (.t 149) (.t 154) (.c (.bool false))⟩, ⟨(some 156), none, .mov (.t 155)⟩, ⟨(some 157), (some (156, true)), .faddr 2 (.t 18)⟩, ⟨(some 158), (some (156, true)), .load false 1 (.t 157)⟩, ⟨(some 159), (some (156, true)), .faddr 2 (.t 4)⟩, ⟨(some 160), (some (156, true)), .load false 1 (.t 159)⟩, ⟨(some 161), (some (156, true)), .call 30 [(.t 158), (.t 160)]⟩, ⟨(some 162), none, .pick (.t 156) (.t 161) (.c (.bool false))⟩, ⟨(some 163), none, .mov (.t 162)⟩, ⟨(some 164), (some (163, true)), .mov (.t 22)⟩, ⟨(some 165), (some (163, true)), .call 17 [(.t 164)]⟩, ⟨(some 166), (some (163, true)), .bin .eql (.t 165) (.c (.int .i64 0))⟩, ⟨(some 167), none, .pick (.t 163) (.t 166) (.c (.bool false))⟩, ⟨(some 168), none, .mov (.t 167)⟩, ⟨(some 169), (some (168, true)), .mov (.t 24)⟩, ⟨(some 170), (some (168, true)), .call 17 [(.t 169)]⟩, ⟨(some 171), (some (168, true)), .bin .eql (.t 170) (.c (.int .i64 0))⟩, ⟨(some 172), none, .pick (.t 168) (.t 171) (.c (.bool false))⟩, ⟨(some 173), none, .mov (.t 172)⟩, ⟨(some 174), (some (173, true)), .mov (.t 23)⟩, ⟨(some 175), (some (173, true)), .mov (.t 20)⟩, ⟨(some 176), (some (173, true)), .bin .eql (.t 174) (.t 175)⟩, ⟨(some 177), none, .pick (.t 173) (.t 176) (.c (.bool false))⟩, ⟨(some 178), none, .mov (.t 177)⟩, ⟨(some 179), (some (178, true)), .mov (.t 26)⟩, ⟨(some 180), (some (178, true)), .call 17 [(.t 179)]⟩, ⟨(some 181), (some (178, true)), .bin .eql (.t 180) (.c (.int .i64 0))⟩, ⟨(some 182), none, .pick (.t 178) (.t 181) (.c (.bool false))⟩, ⟨(some 183), none, .mov (.t 182)⟩, ⟨(some 184), (some (183, true)), .mov (.t 28)⟩, ⟨(some 185), (some (183, true)), .call 17 [(.t 184)]⟩, ⟨(some 186), (some (183, true)), .bin .eql (.t 185) (.c (.int .i64 0))⟩, ⟨(some 187), none, .pick (.t 183) (.t 186) (.c (.bool false))⟩, ⟨(some 188), none, .mov (.t 187)⟩, ⟨(some 189), (some (188, true)), .mov (.t 25)⟩, ⟨(some 190), (some (188, true)), .mov (.t 27)⟩, ⟨(some 191), (some (188, true)), .bin .eql (.t 189) (.t 190)⟩, ⟨(some 192), none, .pick (.t 188) (.t 191) (.c (.bool false))⟩, ⟨(some 8), none, .mov (.t 192)⟩])
 .ret))))))))))))))))))⟩
/-- furlong/furlonglaw0.Num -/
def v17 : VFun := ⟨1, [(.tmp 2)], (.seq (.ops [⟨(some 2), none, .mov (.c (.int .i64 0))⟩])
 (.seq (.ops [⟨(some 3), none, .mov (.t 0)⟩, ⟨(some 2), none, .mov (.t 3)⟩])
 .ret))⟩
/-- furlong/furlonglaw0.SameMap -/
def v19 : VFun := ⟨2, [(.tmp 4)], (.seq (.ops [⟨(some 2), none, .box 24 (.t 0)⟩, ⟨(some 3), none, .box 24 (.t 1)⟩, ⟨(some 4), none, .mov (.c (.bool false))⟩])
 (.seq (.ops [⟨(some 5), none, .faddr 0 (.t 2)⟩, ⟨(some 6), none, .load false 1 (.t 5)⟩, ⟨(some 7), none, .faddr 0 (.t 3)⟩, ⟨(some 8), none, .load false 1 (.t 7)⟩, ⟨(some 9), none, .bin .eql (.t 6) (.t 8)⟩, ⟨(some 10), none, .mov (.t 9)⟩, ⟨(some 11), (some (10, true)), .faddr 1 (.t 2)⟩, ⟨(some 12), (some (10, true)), .load false 1 (.t 11)⟩, ⟨(some 13), (some (10, true)), .faddr 1 (.t 3)⟩, ⟨(some 14), (some (10, true)), .load false 1 (.t 13)⟩, ⟨(some 15), (some (10, true)), .call 30 [(.t 12), (.t 14)]⟩, ⟨(some 16), none, .pick (.t 10) (.t 15) (.c (.bool false))⟩, ⟨(some 17), none, .mov (.t 16)⟩, ⟨(some 18), (some (17, true)), .faddr 2 (.t 2)⟩, ⟨(some 19), (some (17, true)), .load false 1 (.t 18)⟩, ⟨(some 20), (some (17, true)), .faddr 2 (.t 3)⟩, ⟨(some 21), (some (17, true)), .load false 1 (.t 20)⟩, ⟨(some 22), (some (17, true)), .call 30 [(.t 19), (.t 21)]⟩, ⟨(some 23), none, .pick (.t 17) (.t 22) (.c (.bool false))⟩, ⟨(some 4), none, .mov (.t 23)⟩])
 .ret))⟩
def b30_0 : VCode := (.seq (.seq (.ops [⟨(some 11), none, .mov (.t 5)⟩, ⟨(some 12), none, .mov (.t 0)⟩, ⟨(some 13), none, .bi (.len 1) [(.t 12)]⟩, ⟨(some 14), none, .bin .lss (.t 11) (.t 13)⟩])
 (.cond (.t 14) .skip (.exit 0)))
 (.seq (.block 1 (.seq (.drawn [⟨(some 17), none, .mov (.t 0)⟩, ⟨(some 18), none, .mov (.t 5)⟩, ⟨(some 19), none, .iaddr 1 none (.t 17) (.t 18)⟩, ⟨(some 20), none, .load false 1 (.t 19)⟩, ⟨(some 21), none, .mov (.t 1)⟩, ⟨(some 22), none, .mov (.t 5)⟩, ⟨(some 23), none, .iaddr 1 none (.t 21) (.t 22)⟩, ⟨(some 24), none, .load false 1 (.t 23)⟩, ⟨(some 25), none, .bin .neq (.t 20) (.t 24)⟩] [])
 (.cond (.t 25) (.seq (.ops [⟨(some 4), none, .mov (.c (.bool false))⟩])
 .ret) .skip)))
 (.ops [⟨(some 15), none, .mov (.t 5)⟩, ⟨(some 16), none, .bin .add (.t 15) (.c (.int .i64 1))⟩, ⟨(some 5), none, .mov (.t 16)⟩])))
/-- furlong/furlonglaw0.SameInts -/
def v30 : VFun := ⟨2, [(.tmp 4)], (.seq (.ops [⟨(some 4), none, .mov (.c (.bool false))⟩])
 (.seq (.seq (.ops [⟨(some 6), none, .mov (.t 0)⟩, ⟨(some 7), none, .bi (.len 1) [(.t 6)]⟩, ⟨(some 8), none, .mov (.t 1)⟩, ⟨(some 9), none, .bi (.len 1) [(.t 8)]⟩, ⟨(some 10), none, .bin .neq (.t 7) (.t 9)⟩])
 (.cond (.t 10) (.seq (.ops [⟨(some 4), none, .mov (.c (.bool false))⟩])
 .ret) .skip))
 (.seq (.seq (.ops [⟨(some 5), none, .mov (.c (.int .i64 0))⟩])
 (.block 0 (.loop b30_0)))
 (.seq (.ops [⟨(some 4), none, .mov (.c (.bool true))⟩])
 .ret))))⟩
/-- furlong/furlonglaw7.awake -/
def v31 : VFun := ⟨0, [(.tmp 0)], (.seq (.ops [⟨(some 0), none, .mov (.c (.bool false))⟩])
 (.seq (.ops [⟨(some 18), none, .call 34 [(.c (.int .i64 2))]⟩, ⟨(some 17), none, .mov (.t 18)⟩, ⟨(some 19), none, .extract (.t 17) 0⟩, ⟨(some 20), none, .extract (.t 17) 1⟩, ⟨(some 1), none, .alloc [(.int .i64 0), .nils, .nils] 24⟩, ⟨none, none, .store 3 (.t 1) (.t 19)⟩, ⟨(some 2), none, .mov (.t 20)⟩])
 (.seq (.ops [⟨(some 22), none, .load true 3 (.t 1)⟩, ⟨(some 23), none, .call 33 [(.t 22), (.c (.int .i64 2147483648))]⟩, ⟨(some 21), none, .mov (.t 23)⟩, ⟨(some 24), none, .extract (.t 21) 0⟩, ⟨(some 25), none, .extract (.t 21) 1⟩, ⟨(some 3), none, .mov (.t 24)⟩, ⟨(some 4), none, .mov (.t 25)⟩])
 (.seq (.ops [⟨(some 27), none, .load true 3 (.t 1)⟩, ⟨(some 28), none, .build [(.int .i64 0), (.int .i64 0)] [(0, 1, (.c (.int .i64 5))), (1, 1, (.c (.int .i64 6)))]⟩, ⟨(some 29), none, .bslice [(.int .i64 0), (.int .i64 0)] 104 1 [(0, 2, (.t 28))]⟩, ⟨(some 30), none, .call 39 [(.t 27), (.t 29)]⟩, ⟨(some 26), none, .mov (.t 30)⟩, ⟨(some 31), none, .extract (.t 26) 0⟩, ⟨(some 32), none, .extract (.t 26) 1⟩, ⟨(some 5), none, .mov (.t 31)⟩, ⟨(some 6), none, .mov (.t 32)⟩])
 (.seq (.ops [⟨(some 34), none, .load true 3 (.t 1)⟩, ⟨(some 35), none, .build [(.int .i64 0), (.int .i64 0), (.int .i64 0)] [(0, 1, (.c (.int .i64 0))), (1, 1, (.c (.int .i64 9)))]⟩, ⟨(some 36), none, .call 32 [(.t 34), (.c (.int .i64 2)), (.t 35)]⟩, ⟨(some 33), none, .mov (.t 36)⟩, ⟨(some 37), none, .extract (.t 33) 0⟩, ⟨(some 38), none, .extract (.t 33) 1⟩, ⟨(some 7), none, .alloc [(.int .i64 0), .nils, .nils] 24⟩, ⟨none, none, .store 3 (.t 7) (.t 37)⟩, ⟨(some 8), none, .mov (.t 38)⟩])
 (.seq (.ops [⟨(some 40), none, .load true 3 (.t 7)⟩, ⟨(some 41), none, .build [(.int .i64 0), (.int .i64 0), (.int .i64 0)] [(0, 1, (.c (.int .i64 1))), (1, 1, (.c (.int .i64 10))), (2, 1, (.c (.int .i64 1)))]⟩, ⟨(some 42), none, .call 32 [(.t 40), (.c (.int .i64 2)), (.t 41)]⟩, ⟨(some 39), none, .mov (.t 42)⟩, ⟨(some 43), none, .extract (.t 39) 0⟩, ⟨(some 44), none, .extract (.t 39) 1⟩, ⟨(some 9), none, .alloc [(.int .i64 0), .nils, .nils] 24⟩, ⟨none, none, .store 3 (.t 9) (.t 43)⟩, ⟨(some 10), none, .mov (.t 44)⟩])
 (.seq (.ops [⟨(some 46), none, .load true 3 (.t 9)⟩, ⟨(some 47), none, .build [(.int .i64 0), (.int .i64 0), (.int .i64 0)] [(0, 1, (.c (.int .i64 2))), (1, 1, (.c (.int .i64 9)))]⟩, ⟨(some 48), none, .call 32 [(.t 46), (.c (.int .i64 2)), (.t 47)]⟩, ⟨(some 45), none, .mov (.t 48)⟩, ⟨(some 49), none, .extract (.t 45) 0⟩, ⟨(some 50), none, .extract (.t 45) 1⟩, ⟨(some 11), none, .alloc [(.int .i64 0), .nils, .nils] 24⟩, ⟨none, none, .store 3 (.t 11) (.t 49)⟩, ⟨(some 12), none, .mov (.t 50)⟩])
 (.seq (.ops [⟨(some 52), none, .load true 3 (.t 1)⟩, ⟨(some 53), none, .build [(.int .i64 0), (.int .i64 0), (.int .i64 0)] [(0, 1, (.c (.int .i64 1))), (2, 1, (.c (.int .i64 2)))]⟩, ⟨(some 54), none, .call 32 [(.t 52), (.c (.int .i64 2)), (.t 53)]⟩, ⟨(some 51), none, .mov (.t 54)⟩, ⟨(some 55), none, .extract (.t 51) 0⟩, ⟨(some 56), none, .extract (.t 51) 1⟩, ⟨(some 13), none, .alloc [(.int .i64 0), .nils, .nils] 24⟩, ⟨none, none, .store 3 (.t 13) (.t 55)⟩, ⟨(some 14), none, .mov (.t 56)⟩])
 (.seq (.ops [⟨(some 58), none, .call 34 [(.c (.int .i64 0))]⟩, ⟨(some 57), none, .mov (.t 58)⟩, ⟨(some 59), none, .extract (.t 57) 0⟩, ⟨(some 60), none, .extract (.t 57) 1⟩, ⟨(some 15), none, .alloc [(.int .i64 0), .nils, .nils] 24⟩, ⟨none, none, .store 3 (.t 15) (.t 59)⟩, ⟨(some 16), none, .mov (.t 60)⟩])
 (.seq (.ops [⟨(some 61), none, .load true 3 (.t 1)⟩, ⟨(some 62), none, .bslice [(.int .i64 0)] 3 2 [(0, 1, (.c (.int .i64 0))), (1, 1, (.c (.int .i64 2147483648)))]⟩, ⟨(some 63), none, .bslice [(.int .i64 0)] 3 2 [(0, 1, (.c (.int .i64 0))), (1, 1, (.c (.int .i64 1)))]⟩, ⟨(some 64), none, .build [(.int .i64 0), .nils, .nils] [(0, 1, (.c (.int .i64 1))), (1, 1, (.t 62)), (2, 1, (.t 63))]⟩, ⟨(some 65), none, .call 19 [(.t 61), (.t 64)]⟩, ⟨(some 66), none, .mov (.t 65)⟩, ⟨(some 67), (some (66, true)), .mov (.t 2)⟩, ⟨(some 68), (some (66, true)), .call 17 [(.t 67)]⟩, ⟨(some 69), (some (66, true)), .bin .eql (.t 68) (.c (.int .i64 0))⟩, ⟨(some 70), none, .pick (.t 66) (.t 69) (.c (.bool false))⟩, ⟨(some 71), none, .mov (.t 70)⟩, ⟨(some 72), (some (71, true)), .mov (.t 3)⟩, ⟨(some 73), (some (71, true)), .bin .eql (.t 72) (.c (.int .i64 1))⟩, ⟨(some 74), none, .pick (.t 71) (.t 73) (.c (.bool false))⟩, ⟨(some 75), none, .mov (.t 74)⟩, ⟨(some 76), (some (75, true)), .mov (.t 4)⟩, ⟨(some 77), (some (75, true)), .call 17 [(.t 76)]⟩, ⟨(some 78), (some (75, true)), .bin .eql (.t 77) (.c (.int .i64 0))⟩, ⟨(some 79), none, .pick (.t 75) (.t 78) (.c (.bool false))⟩, ⟨(some 80), none, .mov (.t 79)⟩, ⟨(some 81), (some (80, true)), .mov (.t 5)⟩, ⟨(some 82), (some (80, true)), .bslice [(.int .i64 0)] 3 1 [(0, 1, (.c (.int .i64 0)))]⟩, ⟨(some 83), (some (80, true)), .call 30 [(.t 81), (.t 82)]⟩, ⟨(some 84), none, .pick (.t 80) (.t 83) (.c (.bool false))⟩, ⟨(some 85), none, .mov (.t 84)⟩, ⟨(some 86), (some (85, true)), .mov (.t 6)⟩, ⟨(some 87), (some (85, true)), .call 17 [(.t 86)]⟩, ⟨(some 88), (some (85, true)), .bin .eql (.t 87) (.c (.int .i64 0))⟩, ⟨(some 89), none, .pick (.t 85) (.t 88) (.c (.bool false))⟩, ⟨(some 90), none, .mov (.t 89)⟩, ⟨(some 91), (some (90, true)), .load true 3 (.t 7)⟩, ⟨(some 92), (some (90, true)), .bslice [(.int .i64 0)] 3 3 [(0, 1, (.c (.int .i64 0))), (1, 1, (.c (.int .i64 9))), (2, 1, (.c (.int .i64 2147483648)))]⟩, ⟨(some 93), (some (90, true)), .bslice [(.int .i64 0)] 3 3 [(0, 1, (.c (.int .i64 0))), (1, 1, (.c (.int .i64 0))), (2, 1, (.c (.int .i64 1)))]⟩, ⟨(some 94), (some (90, true)), .build [(.int .i64 0), .nils, .nils] [(0, 1, (.c (.int .i64 2))), (1, 1, (.t 92)), (2, 1, (.t 93))]⟩, ⟨(some 95), (some (90, true)), .call 19 [(.t 91), (.t 94)]⟩, ⟨(some 96), none, .pick (.t 90) (.t 95) (.c (.bool false))⟩, ⟨(some 97), none, .mov (.t 96)⟩, ⟨(some 98), (some (97, true)), .mov (.t 8)⟩, ⟨(some 99), (some (97, true)), .call 17 [(.t 98)]⟩, ⟨(some 100), (some (97, true)), .bin .eql (.t 99) (.c (.int .i64 0))⟩, ⟨(some 101), none, .pick (.t 97) (.t 100) (.c (.bool false))⟩, ⟨(some 102), none, .mov (.t 101)⟩, ⟨(some 103), (some (102, true)), .faddr 2 (.t 9)⟩, ⟨(some 104), (some (102, true)), .load false 1 (.t 103)⟩, ⟨(some 105), (some (102, true)), .bi (.len 1) [(.t 104)]⟩, ⟨(some 106), (some (102, true)), .bin .eql (.t 105) (.c (.int .i64 3))⟩, ⟨(some 107), none, .pick (.t 102) (.t 106) (.c (.bool false))⟩, ⟨(some 108), none, .mov (.t 107)⟩, ⟨(some 109), (some (108, true)), .faddr 2 (.t 9)⟩, ⟨(some 110), (some (108, true)), .load false 1 (.t 109)⟩, ⟨(some 111), (some (108, true)), .iaddr 1 none (.t 110) (.c (.int .i64 1))⟩, ⟨(some 112), (some (108, true)), .load false 1 (.t 111)⟩, ⟨(some 113), (some (108, true)), .bin .eql (.t 112) (.c (.int .i64 1))⟩, ⟨(some 114), none, .pick (.t 108) (.t 113) (.c (.bool false))⟩, ⟨(some 115), none, .mov (.t 114)⟩, ⟨(some 116), (some (115, true)), .mov (.t 10)⟩, ⟨(some 117), (some (115, true)), .call 17 [(.t 116)]⟩, ⟨(some 118), (some (115, true)), .bin .eql (.t 117) (.c (.int .i64 0))⟩, ⟨(some 119), none, .pick (.t 115) (.t 118) (.c (.bool false))⟩, ⟨(some 120), none, .mov (.t 119)⟩, ⟨(some 121), (some (120, true)), .load true 3 (.t 11)⟩, ⟨(some 122), (some (120, true)), .bslice [(.int .i64 0)] 3 2 [(0, 1, (.c (.int .i64 0))), (1, 1, (.c (.int .i64 9)))]⟩, ⟨(some 123), (some (120, true)), .bslice [(.int .i64 0)] 3 2 [(0, 1, (.c (.int .i64 0))), (1, 1, (.c (.int .i64 1)))]⟩, ⟨(some 124), (some (120, true)), .build [(.int .i64 0), .nils, .nils] [(0, 1, (.c (.int .i64 4))), (1, 1, (.t 122)), (2, 1, (.t 123))]⟩, ⟨(some 125), (some (120, true)), .call 19 [(.t 121), (.t 124)]⟩, ⟨(some 126), none, .pick (.t 120) (.t 125) (.c (.bool false))⟩, ⟨(some 127), none, .mov (.t 126)⟩, ⟨(some 128), (some (127, true)), .mov (.t 12)⟩, ⟨(some 129), (some (127, true)), .call 17 [(.t 128)]⟩, ⟨(some 130), (some (127, true)), .bin .eql (.t 129) (.c (.int .i64 0))⟩, ⟨(some 131), none, .pick (.t 127) (.t 130) (.c (.bool false))⟩, ⟨(some 132), none, .mov (.t 131)⟩, ⟨(some 133), (some (132, true)), .mov (.t 14)⟩, ⟨(some 134), (some (132, true)), .call 17 [(.t 133)]⟩, ⟨(some 135), (some (132, true)), .bin .eql (.t 134) (.c (.int .i64 700))⟩, ⟨(some 136), none, .pick (.t 132) (.t 135) (.c (.bool false))⟩, ⟨(some 137), none, .mov (.t 136)⟩, ⟨(some 138), (some (137, true)), .mov (.t 16)⟩, ⟨(some 139), (some (137, true)), .call 17 [(.t 138)]⟩, ⟨(some 140), (some (137, true)), .bin .eql (.t 139) (.c (.int .i64 700))⟩, ⟨(some 141), none, .pick (.t 137) (.t 140) (.c (.bool false))⟩, ⟨(some 142), none, .mov (.t 141)⟩, ⟨(some 143), (some (142, true)), .load true 3 (.t 1)⟩, ⟨(some 144), (some (142, true)), .call 35 [(.t 143), (.c (.int .i64 2))]⟩, ⟨(some 145), none, .pick (.t 142) (.t 144) (.c (.bool false))⟩, ⟨(some 146), none, .mov (.t 145)⟩, ⟨(some 147), (some (146, true)), .load true 3 (.t 1)⟩, ⟨(some 148), (some (146, true)), .call 35 [(.t 147), (.c (.int .i64 1))]⟩, ⟨(some 149), (some (146, true)), .un .not (.t 148)⟩, ⟨(some 150), none, .pick (.t 146) (.t 149) (.c (.bool false))⟩, ⟨(some 0), none, .mov (.t 150)⟩])
 .ret))))))))))⟩
/-- furlong/smap.Change -/
def v32 : VFun := ⟨3, [(.cell 6 true 3), (.tmp 7)], (.seq (.ops [⟨(some 3), none, .box 24 (.t 0)⟩, ⟨(some 5), none, .box 26 (.t 2)⟩, ⟨(some 6), none, .alloc [(.int .i64 0), .nils, .nils] 24⟩, ⟨(some 7), none, .mov (.c (.int .i64 0))⟩])
 (.seq (.block 0 (.seq (.ops [⟨(some 11), none, .load true 3 (.t 3)⟩, ⟨(some 12), none, .mov (.t 1)⟩, ⟨(some 13), none, .call 35 [(.t 11), (.t 12)]⟩, ⟨(some 14), none, .un .not (.t 13)⟩, ⟨(some 15), none, .mov (.t 14)⟩, ⟨(some 16), (some (15, false)), .faddr 0 (.t 5)⟩, ⟨(some 17), (some (15, false)), .load false 1 (.t 16)⟩, ⟨(some 18), (some (15, false)), .bin .lss (.t 17) (.c (.int .i64 0))⟩, ⟨(some 19), none, .pick (.t 15) (.c (.bool true)) (.t 18)⟩, ⟨(some 20), none, .mov (.t 19)⟩, ⟨(some 21), (some (20, false)), .faddr 0 (.t 5)⟩, ⟨(some 22), (some (20, false)), .load false 1 (.t 21)⟩, ⟨(some 23), (some (20, false)), .bin .gtr (.t 22) (.c (.int .i64 2))⟩, ⟨(some 24), none, .pick (.t 20) (.c (.bool true)) (.t 23)⟩, ⟨(some 25), none, .mov (.t 24)⟩, ⟨(some 26), (some (25, false)), .faddr 1 (.t 5)⟩, ⟨(some 27), (some (25, false)), .load false 1 (.t 26)⟩, ⟨(some 28), (some (25, false)), .bin .lss (.t 27) (.c (.int .i64 0))⟩, ⟨(some 29), none, .pick (.t 25) (.c (.bool true)) (.t 28)⟩, ⟨(some 30), none, .mov (.t 29)⟩, ⟨(some 31), (some (30, false)), .faddr 1 (.t 5)⟩, ⟨(some 32), (some (30, false)), .load false 1 (.t 31)⟩, ⟨(some 33), (some (30, false)), .bin .geq (.t 32) (.c (.int .i64 4294967296))⟩, ⟨(some 34), none, .pick (.t 30) (.c (.bool true)) (.t 33)⟩, ⟨(some 10), none, .mov (.t 34)⟩])
 (.cond (.t 10) (.seq (.ops [⟨(some 35), none, .build [(.int .i64 0), .nils, .nils] []⟩, ⟨none, none, .store 3 (.t 6) (.t 35)⟩, ⟨(some 7), none, .mov (.c (.int .i64 700))⟩])
 .ret) (.seq (.ops [⟨(some 37), none, .faddr 0 (.t 3)⟩, ⟨(some 38), none, .load false 1 (.t 37)⟩, ⟨(some 39), none, .bin .eql (.t 38) (.c (.int .i64 65535))⟩, ⟨(some 36), none, .mov (.t 39)⟩])
 (.cond (.t 36) (.seq (.ops [⟨(some 40), none, .build [(.int .i64 0), .nils, .nils] []⟩, ⟨none, none, .store 3 (.t 6) (.t 40)⟩, ⟨(some 7), none, .mov (.c (.int .i64 701))⟩])
 .ret) .skip)))))
 (.seq (.ops [⟨(some 41), none, .faddr 1 (.t 5)⟩, ⟨(some 42), none, .load false 1 (.t 41)⟩, ⟨(some 43), none, .call 58 [(.t 3), (.t 42)]⟩, ⟨(some 8), none, .mov (.t 43)⟩])
 (.seq (.ops [⟨(some 44), none, .load true 3 (.t 3)⟩, ⟨(some 45), none, .call 59 [(.t 44)]⟩, ⟨(some 9), none, .alloc [(.int .i64 0), .nils, .nils] 24⟩, ⟨none, none, .store 3 (.t 9) (.t 45)⟩])
 (.seq (.ops [⟨(some 46), none, .faddr 0 (.t 9)⟩, ⟨(some 47), none, .load false 1 (.t 46)⟩, ⟨(some 48), none, .bin .add (.t 47) (.c (.int .i64 1))⟩, ⟨(some 49), none, .faddr 0 (.t 9)⟩, ⟨none, none, .store 1 (.t 49) (.t 48)⟩])
 (.seq (.seq (.ops [⟨(some 50), none, .faddr 0 (.t 5)⟩, ⟨(some 51), none, .load false 1 (.t 50)⟩])
 (.block 1 (.seq (.ops [⟨(some 76), none, .bin .eql (.t 51) (.c (.int .i64 0))⟩, ⟨(some 75), none, .mov (.t 76)⟩])
 (.cond (.t 75) (.seq (.ops [⟨(some 77), none, .faddr 1 (.t 9)⟩, ⟨(some 78), none, .load false 1 (.t 77)⟩, ⟨(some 79), none, .mov (.t 8)⟩, ⟨(some 80), none, .bin .add (.t 79) (.c (.int .i64 1))⟩, ⟨(some 81), none, .faddr 1 (.t 5)⟩, ⟨(some 82), none, .load false 1 (.t 81)⟩, ⟨(some 83), none, .bslice [(.int .i64 0)] 3 1 [(0, 1, (.t 82))]⟩, ⟨(some 84), none, .call 60 [(.t 78), (.t 80), (.t 83)]⟩, ⟨(some 85), none, .faddr 1 (.t 9)⟩, ⟨none, none, .store 1 (.t 85) (.t 84)⟩])
 (.drawn [⟨(some 86), none, .faddr 2 (.t 9)⟩, ⟨(some 87), none, .load false 1 (.t 86)⟩, ⟨(some 88), none, .mov (.t 8)⟩, ⟨(some 89), none, .bin .add (.t 88) (.c (.int .i64 1))⟩, ⟨(some 90), none, .faddr 2 (.t 3)⟩, ⟨(some 91), none, .load false 1 (.t 90)⟩, ⟨(some 92), none, .mov (.t 8)⟩, ⟨(some 93), none, .iaddr 1 none (.t 91) (.t 92)⟩, ⟨(some 94), none, .load false 1 (.t 93)⟩, ⟨(some 95), none, .bslice [(.int .i64 0)] 3 1 [(0, 1, (.t 94))]⟩, ⟨(some 96), none, .call 60 [(.t 87), (.t 89), (.t 95)]⟩, ⟨(some 97), none, .faddr 2 (.t 9)⟩, ⟨none, none, .store 1 (.t 97) (.t 96)⟩] [(1, [10])])) (.seq (.ops [⟨(some 99), none, .bin .eql (.t 51) (.c (.int .i64 1))⟩, ⟨(some 98), none, .mov (.t 99)⟩])
 (.cond (.t 98) (.ops [⟨(some 100), none, .faddr 2 (.t 9)⟩, ⟨(some 101), none, .load false 1 (.t 100)⟩, ⟨(some 102), none, .mov (.t 8)⟩, ⟨(some 103), none, .faddr 2 (.t 5)⟩, ⟨(some 104), none, .load false 1 (.t 103)⟩, ⟨(some 105), none, .iaddr 1 none (.t 101) (.t 102)⟩, ⟨none, none, .store 1 (.t 105) (.t 104)⟩]) (.seq (.seq (.ops [⟨(some 52), none, .mov (.t 8)⟩, ⟨(some 53), none, .bin .add (.t 52) (.c (.int .i64 1))⟩, ⟨(some 54), none, .faddr 1 (.t 3)⟩, ⟨(some 55), none, .load false 1 (.t 54)⟩, ⟨(some 56), none, .bi (.len 1) [(.t 55)]⟩, ⟨(some 57), none, .bin .eql (.t 53) (.t 56)⟩])
 (.cond (.t 57) (.seq (.ops [⟨(some 58), none, .build [(.int .i64 0), .nils, .nils] []⟩, ⟨none, none, .store 3 (.t 6) (.t 58)⟩, ⟨(some 7), none, .mov (.c (.int .i64 700))⟩])
 .ret) .skip))
 (.seq (.ops [⟨(some 59), none, .faddr 1 (.t 9)⟩, ⟨(some 60), none, .load false 1 (.t 59)⟩, ⟨(some 61), none, .mov (.t 8)⟩, ⟨(some 62), none, .bin .add (.t 61) (.c (.int .i64 1))⟩, ⟨(some 63), none, .mov (.t 8)⟩, ⟨(some 64), none, .bin .add (.t 63) (.c (.int .i64 2))⟩, ⟨(some 65), none, .call 61 [(.t 60), (.t 62), (.t 64)]⟩, ⟨(some 66), none, .faddr 1 (.t 9)⟩, ⟨none, none, .store 1 (.t 66) (.t 65)⟩])
 (.ops [⟨(some 67), none, .faddr 2 (.t 9)⟩, ⟨(some 68), none, .load false 1 (.t 67)⟩, ⟨(some 69), none, .mov (.t 8)⟩, ⟨(some 70), none, .bin .add (.t 69) (.c (.int .i64 1))⟩, ⟨(some 71), none, .mov (.t 8)⟩, ⟨(some 72), none, .bin .add (.t 71) (.c (.int .i64 2))⟩, ⟨(some 73), none, .call 61 [(.t 68), (.t 70), (.t 72)]⟩, ⟨(some 74), none, .faddr 2 (.t 9)⟩, ⟨none, none, .store 1 (.t 74) (.t 73)⟩])))))))))
 (.seq (.seq (.ops [⟨(some 106), none, .load true 3 (.t 9)⟩, ⟨(some 107), none, .mov (.t 1)⟩, ⟨(some 108), none, .call 35 [(.t 106), (.t 107)]⟩, ⟨(some 109), none, .un .not (.t 108)⟩])
 (.cond (.t 109) (.seq (.ops [⟨(some 110), none, .build [(.int .i64 0), .nils, .nils] []⟩, ⟨none, none, .store 3 (.t 6) (.t 110)⟩, ⟨(some 7), none, .mov (.c (.int .i64 700))⟩])
 .ret) .skip))
 (.seq (.ops [⟨(some 111), none, .load true 3 (.t 9)⟩, ⟨none, none, .store 3 (.t 6) (.t 111)⟩, ⟨(some 7), none, .mov (.c (.int .i64 0))⟩])
 .ret))))))))⟩
/-- furlong/smap.Owner -/
def v33 : VFun := ⟨2, [(.tmp 4), (.tmp 5)], (.seq (.ops [⟨(some 2), none, .box 24 (.t 0)⟩, ⟨(some 4), none, .mov (.c (.int .i64 0))⟩, ⟨(some 5), none, .mov (.c (.int .i64 0))⟩])
 (.seq (.seq (.ops [⟨(some 6), none, .load true 3 (.t 2)⟩, ⟨(some 7), none, .call 35 [(.t 6), (.c (.int .i64 8))]⟩, ⟨(some 8), none, .un .not (.t 7)⟩, ⟨(some 9), none, .mov (.t 8)⟩, ⟨(some 10), (some (9, false)), .mov (.t 1)⟩, ⟨(some 11), (some (9, false)), .bin .lss (.t 10) (.c (.int .i64 0))⟩, ⟨(some 12), none, .pick (.t 9) (.c (.bool true)) (.t 11)⟩, ⟨(some 13), none, .mov (.t 12)⟩, ⟨(some 14), (some (13, false)), .mov (.t 1)⟩, ⟨(some 15), (some (13, false)), .bin .geq (.t 14) (.c (.int .i64 4294967296))⟩, ⟨(some 16), none, .pick (.t 13) (.c (.bool true)) (.t 15)⟩])
 (.cond (.t 16) (.seq (.ops [⟨(some 4), none, .mov (.c (.int .i64 0))⟩, ⟨(some 5), none, .mov (.c (.int .i64 700))⟩])
 .ret) .skip))
 (.seq (.drawn [⟨(some 17), none, .faddr 2 (.t 2)⟩, ⟨(some 18), none, .load false 1 (.t 17)⟩, ⟨(some 19), none, .mov (.t 1)⟩, ⟨(some 20), none, .call 58 [(.t 2), (.t 19)]⟩, ⟨(some 21), none, .iaddr 1 none (.t 18) (.t 20)⟩, ⟨(some 22), none, .load false 1 (.t 21)⟩, ⟨(some 4), none, .mov (.t 22)⟩, ⟨(some 5), none, .mov (.c (.int .i64 0))⟩] [(1, [4])])
 .ret)))⟩
def b34_0 : VCode := (.seq (.ops [⟨(some 16), none, .bin .lss (.t 15) (.t 14)⟩])
 (.seq (.cond (.t 16) .skip (.exit 0))
 (.seq (.block 1 (.seq (.ops [⟨(some 17), none, .mov (.t 15)⟩, ⟨(some 5), none, .mov (.t 17)⟩])
 (.seq (.drawn [⟨(some 18), none, .faddr 1 (.t 4)⟩, ⟨(some 19), none, .load false 1 (.t 18)⟩, ⟨(some 20), none, .mov (.t 5)⟩, ⟨(some 21), none, .bin .mul (.t 20) (.c (.int .i64 4294967296))⟩, ⟨(some 22), none, .mov (.t 0)⟩, ⟨(some 23), none, .bin .quo (.t 21) (.t 22)⟩, ⟨(some 24), none, .bslice [(.int .i64 0)] 3 1 [(0, 1, (.t 23))]⟩, ⟨(some 25), none, .bi (.append 1 8 3) [(.t 19), (.t 24)]⟩, ⟨(some 26), none, .faddr 1 (.t 4)⟩, ⟨none, none, .store 1 (.t 26) (.t 25)⟩] [(1, [7])])
 (.ops [⟨(some 27), none, .faddr 2 (.t 4)⟩, ⟨(some 28), none, .load false 1 (.t 27)⟩, ⟨(some 29), none, .mov (.t 5)⟩, ⟨(some 30), none, .bslice [(.int .i64 0)] 3 1 [(0, 1, (.t 29))]⟩, ⟨(some 31), none, .bi (.append 1 8 3) [(.t 28), (.t 30)]⟩, ⟨(some 32), none, .faddr 2 (.t 4)⟩, ⟨none, none, .store 1 (.t 32) (.t 31)⟩]))))
 (.ops [⟨(some 33), none, .bin .add (.t 15) (.c (.int .i64 1))⟩, ⟨(some 15), none, .mov (.t 33)⟩]))))
/-- furlong/smap.First -/
def v34 : VFun := ⟨1, [(.cell 2 true 3), (.tmp 3)], (.seq (.ops [⟨(some 2), none, .alloc [(.int .i64 0), .nils, .nils] 24⟩, ⟨(some 3), none, .mov (.c (.int .i64 0))⟩])
 (.seq (.seq (.ops [⟨(some 6), none, .mov (.t 0)⟩, ⟨(some 7), none, .bin .lss (.t 6) (.c (.int .i64 1))⟩, ⟨(some 8), none, .mov (.t 7)⟩, ⟨(some 9), (some (8, false)), .mov (.t 0)⟩, ⟨(some 10), (some (8, false)), .bin .gtr (.t 9) (.c (.int .i64 8))⟩, ⟨(some 11), none, .pick (.t 8) (.c (.bool true)) (.t 10)⟩])
 (.cond (.t 11) (.seq (.ops [⟨(some 12), none, .build [(.int .i64 0), .nils, .nils] []⟩, ⟨none, none, .store 3 (.t 2) (.t 12)⟩, ⟨(some 3), none, .mov (.c (.int .i64 700))⟩])
 .ret) .skip))
 (.seq (.ops [⟨(some 13), none, .build [(.int .i64 0), .nils, .nils] [(0, 1, (.c (.int .i64 1)))]⟩, ⟨(some 4), none, .alloc [(.int .i64 0), .nils, .nils] 24⟩, ⟨none, none, .store 3 (.t 4) (.t 13)⟩])
 (.seq (.seq (.ops [⟨(some 14), none, .mov (.t 0)⟩, ⟨(some 15), none, .mov (.c (.int .i64 0))⟩])
 (.block 0 (.loop b34_0)))
 (.seq (.ops [⟨(some 34), none, .load true 3 (.t 4)⟩, ⟨none, none, .store 3 (.t 2) (.t 34)⟩, ⟨(some 3), none, .mov (.c (.int .i64 0))⟩])
 .ret)))))⟩
def b35_0 : VCode := (.seq (.ops [⟨(some 55), none, .bin .lss (.t 54) (.t 53)⟩])
 (.seq (.cond (.t 55) .skip (.exit 0))
 (.seq (.block 1 (.seq (.ops [⟨(some 56), none, .mov (.t 54)⟩, ⟨(some 57), none, .iaddr 1 none (.t 52) (.t 54)⟩, ⟨(some 58), none, .load false 1 (.t 57)⟩, ⟨(some 5), none, .mov (.t 56)⟩, ⟨(some 6), none, .mov (.t 58)⟩])
 (.seq (.ops [⟨(some 59), none, .mov (.t 6)⟩, ⟨(some 60), none, .bin .geq (.t 59) (.c (.int .i64 4294967296))⟩, ⟨(some 61), none, .mov (.t 60)⟩, ⟨(some 62), (some (61, false)), .mov (.t 5)⟩, ⟨(some 63), (some (61, false)), .bin .gtr (.t 62) (.c (.int .i64 0))⟩, ⟨(some 64), (some (61, false)), .mov (.t 63)⟩, ⟨(some 65), (some (64, true)), .mov (.t 6)⟩, ⟨(some 66), (some (64, true)), .faddr 1 (.t 2)⟩, ⟨(some 67), (some (64, true)), .load false 1 (.t 66)⟩, ⟨(some 68), (some (64, true)), .mov (.t 5)⟩, ⟨(some 69), (some (64, true)), .bin .sub (.t 68) (.c (.int .i64 1))⟩, ⟨(some 70), (some (64, true)), .iaddr 1 none (.t 67) (.t 69)⟩, ⟨(some 71), (some (64, true)), .load false 1 (.t 70)⟩, ⟨(some 72), (some (64, true)), .bin .leq (.t 65) (.t 71)⟩, ⟨(some 73), (some (61, false)), .pick (.t 64) (.t 72) (.c (.bool false))⟩, ⟨(some 74), none, .pick (.t 61) (.c (.bool true)) (.t 73)⟩, ⟨(some 75), none, .mov (.t 74)⟩, ⟨(some 76), (some (75, false)), .faddr 2 (.t 2)⟩, ⟨(some 77), (some (75, false)), .load false 1 (.t 76)⟩, ⟨(some 78), (some (75, false)), .mov (.t 5)⟩, ⟨(some 79), (some (75, false)), .iaddr 1 none (.t 77) (.t 78)⟩, ⟨(some 80), (some (75, false)), .load false 1 (.t 79)⟩, ⟨(some 81), (some (75, false)), .bin .lss (.t 80) (.c (.int .i64 0))⟩, ⟨(some 82), none, .pick (.t 75) (.c (.bool true)) (.t 81)⟩, ⟨(some 83), none, .mov (.t 82)⟩, ⟨(some 84), (some (83, false)), .faddr 2 (.t 2)⟩, ⟨(some 85), (some (83, false)), .load false 1 (.t 84)⟩, ⟨(some 86), (some (83, false)), .mov (.t 5)⟩, ⟨(some 87), (some (83, false)), .iaddr 1 none (.t 85) (.t 86)⟩, ⟨(some 88), (some (83, false)), .load false 1 (.t 87)⟩, ⟨(some 89), (some (83, false)), .mov (.t 1)⟩, ⟨(some 90), (some (83, false)), .bin .geq (.t 88) (.t 89)⟩, ⟨(some 91), none, .pick (.t 83) (.c (.bool true)) (.t 90)⟩])
 (.cond (.t 91) (.seq (.ops [⟨(some 4), none, .mov (.c (.bool false))⟩])
 .ret) .skip))))
 (.ops [⟨(some 92), none, .bin .add (.t 54) (.c (.int .i64 1))⟩, ⟨(some 54), none, .mov (.t 92)⟩]))))
/-- furlong/smap.May -/
def v35 : VFun := ⟨2, [(.tmp 4)], (.seq (.ops [⟨(some 2), none, .box 24 (.t 0)⟩, ⟨(some 4), none, .mov (.c (.bool false))⟩])
 (.seq (.seq (.ops [⟨(some 7), none, .mov (.t 1)⟩, ⟨(some 8), none, .bin .lss (.t 7) (.c (.int .i64 1))⟩, ⟨(some 9), none, .mov (.t 8)⟩, ⟨(some 10), (some (9, false)), .mov (.t 1)⟩, ⟨(some 11), (some (9, false)), .bin .gtr (.t 10) (.c (.int .i64 8))⟩, ⟨(some 12), none, .pick (.t 9) (.c (.bool true)) (.t 11)⟩, ⟨(some 13), none, .mov (.t 12)⟩, ⟨(some 14), (some (13, false)), .faddr 0 (.t 2)⟩, ⟨(some 15), (some (13, false)), .load false 1 (.t 14)⟩, ⟨(some 16), (some (13, false)), .bin .lss (.t 15) (.c (.int .i64 1))⟩, ⟨(some 17), none, .pick (.t 13) (.c (.bool true)) (.t 16)⟩, ⟨(some 18), none, .mov (.t 17)⟩, ⟨(some 19), (some (18, false)), .faddr 0 (.t 2)⟩, ⟨(some 20), (some (18, false)), .load false 1 (.t 19)⟩, ⟨(some 21), (some (18, false)), .bin .gtr (.t 20) (.c (.int .i64 65535))⟩, ⟨(some 22), none, .pick (.t 18) (.c (.bool true)) (.t 21)⟩, ⟨(some 23), none, .mov (.t 22)⟩, ⟨(some 24), (some (23, false)), .faddr 1 (.t 2)⟩, ⟨(some 25), (some (23, false)), .load false 1 (.t 24)⟩, ⟨(some 26), (some (23, false)), .bi (.len 1) [(.t 25)]⟩, ⟨(some 27), (some (23, false)), .bin .lss (.t 26) (.c (.int .i64 1))⟩, ⟨(some 28), none, .pick (.t 23) (.c (.bool true)) (.t 27)⟩, ⟨(some 29), none, .mov (.t 28)⟩, ⟨(some 30), (some (29, false)), .faddr 1 (.t 2)⟩, ⟨(some 31), (some (29, false)), .load false 1 (.t 30)⟩, ⟨(some 32), (some (29, false)), .bi (.len 1) [(.t 31)]⟩, ⟨(some 33), (some (29, false)), .bin .gtr (.t 32) (.c (.int .i64 32))⟩, ⟨(some 34), none, .pick (.t 29) (.c (.bool true)) (.t 33)⟩, ⟨(some 35), none, .mov (.t 34)⟩, ⟨(some 36), (some (35, false)), .faddr 2 (.t 2)⟩, ⟨(some 37), (some (35, false)), .load false 1 (.t 36)⟩, ⟨(some 38), (some (35, false)), .bi (.len 1) [(.t 37)]⟩, ⟨(some 39), (some (35, false)), .faddr 1 (.t 2)⟩, ⟨(some 40), (some (35, false)), .load false 1 (.t 39)⟩, ⟨(some 41), (some (35, false)), .bi (.len 1) [(.t 40)]⟩, ⟨(some 42), (some (35, false)), .bin .neq (.t 38) (.t 41)⟩, ⟨(some 43), none, .pick (.t 35) (.c (.bool true)) (.t 42)⟩, ⟨(some 44), none, .mov (.t 43)⟩, ⟨(some 45), (some (44, false)), .faddr 1 (.t 2)⟩, ⟨(some 46), (some (44, false)), .load false 1 (.t 45)⟩, ⟨(some 47), (some (44, false)), .iaddr 1 none (.t 46) (.c (.int .i64 0))⟩, ⟨(some 48), (some (44, false)), .load false 1 (.t 47)⟩, ⟨(some 49), (some (44, false)), .bin .neq (.t 48) (.c (.int .i64 0))⟩, ⟨(some 50), none, .pick (.t 44) (.c (.bool true)) (.t 49)⟩])
 (.cond (.t 50) (.seq (.ops [⟨(some 4), none, .mov (.c (.bool false))⟩])
 .ret) .skip))
 (.seq (.seq (.ops [⟨(some 51), none, .faddr 1 (.t 2)⟩, ⟨(some 52), none, .load false 1 (.t 51)⟩, ⟨(some 53), none, .bi (.len 1) [(.t 52)]⟩, ⟨(some 54), none, .mov (.c (.int .i64 0))⟩])
 (.block 0 (.loop b35_0)))
 (.seq (.ops [⟨(some 4), none, .mov (.c (.bool true))⟩])
 .ret))))⟩
def b39_0 : VCode := (.seq (.ops [⟨(some 20), none, .bin .lss (.t 19) (.t 18)⟩])
 (.seq (.cond (.t 20) .skip (.exit 0))
 (.seq (.block 1 (.seq (.ops [⟨(some 21), none, .iaddr 2 none (.t 17) (.t 19)⟩, ⟨(some 22), none, .load true 2 (.t 21)⟩, ⟨(some 8), none, .alloc [(.int .i64 0), (.int .i64 0)] 104⟩, ⟨none, none, .store 2 (.t 8) (.t 22)⟩])
 (.drawn [⟨(some 23), none, .mov (.t 6)⟩, ⟨(some 24), none, .faddr 2 (.t 2)⟩, ⟨(some 25), none, .load false 1 (.t 24)⟩, ⟨(some 26), none, .faddr 0 (.t 8)⟩, ⟨(some 27), none, .load false 1 (.t 26)⟩, ⟨(some 28), none, .call 58 [(.t 2), (.t 27)]⟩, ⟨(some 29), none, .faddr 1 (.t 8)⟩, ⟨(some 30), none, .load false 1 (.t 29)⟩, ⟨(some 31), none, .bin .sub (.t 30) (.c (.int .i64 1))⟩, ⟨(some 32), none, .call 58 [(.t 2), (.t 31)]⟩, ⟨(some 33), none, .bin .add (.t 32) (.c (.int .i64 1))⟩, ⟨(some 34), none, .slice 1 (.t 25) (some (.t 28)) (some (.t 33)) none⟩, ⟨(some 35), none, .bi (.append 1 8 3) [(.t 23), (.t 34)]⟩, ⟨(some 6), none, .mov (.t 35)⟩] [(2, [6, 10]), (7, [0])])))
 (.ops [⟨(some 36), none, .bin .add (.t 19) (.c (.int .i64 1))⟩, ⟨(some 19), none, .mov (.t 36)⟩]))))
/-- furlong/smap.Owners -/
def v39 : VFun := ⟨2, [(.tmp 4), (.tmp 5)], (.seq (.ops [⟨(some 2), none, .box 24 (.t 0)⟩, ⟨(some 4), none, .mov (.c .nils)⟩, ⟨(some 5), none, .mov (.c (.int .i64 0))⟩])
 (.seq (.seq (.ops [⟨(some 9), none, .load true 3 (.t 2)⟩, ⟨(some 10), none, .call 35 [(.t 9), (.c (.int .i64 8))]⟩, ⟨(some 11), none, .un .not (.t 10)⟩, ⟨(some 12), none, .mov (.t 11)⟩, ⟨(some 13), (some (12, false)), .mov (.t 1)⟩, ⟨(some 14), (some (12, false)), .call 63 [(.t 13)]⟩, ⟨(some 15), (some (12, false)), .un .not (.t 14)⟩, ⟨(some 16), none, .pick (.t 12) (.c (.bool true)) (.t 15)⟩])
 (.cond (.t 16) (.seq (.ops [⟨(some 4), none, .mov (.c .nils)⟩, ⟨(some 5), none, .mov (.c (.int .i64 700))⟩])
 .ret) .skip))
 (.seq (.ops [⟨(some 6), none, .mov (.c .nils)⟩])
 (.seq (.seq (.ops [⟨(some 17), none, .mov (.t 1)⟩, ⟨(some 18), none, .bi (.len 1) [(.t 17)]⟩, ⟨(some 19), none, .mov (.c (.int .i64 0))⟩])
 (.block 0 (.loop b39_0)))
 (.seq (.ops [⟨(some 37), none, .mov (.t 6)⟩, ⟨(some 38), none, .call 64 [(.t 37)]⟩])
 (.seq (.ops [⟨(some 39), none, .mov (.t 6)⟩, ⟨(some 40), none, .call 65 [(.t 39)]⟩, ⟨(some 4), none, .mov (.t 40)⟩, ⟨(some 5), none, .mov (.c (.int .i64 0))⟩])
 .ret))))))⟩
/-- furlong/smap.at -/
def v58 : VFun := ⟨2, [(.tmp 4)], (.seq (.ops [⟨(some 4), none, .mov (.c (.int .i64 0))⟩])
 (.seq (.ops [⟨(some 8), none, .mov (.t 0)⟩, ⟨(some 9), none, .nilck (.t 8)⟩, ⟨(some 10), none, .faddr 1 (.t 9)⟩, ⟨(some 11), none, .load false 1 (.t 10)⟩, ⟨(some 12), none, .mov (.t 1)⟩, ⟨(some 13), none, .call 82 [(.t 11), (.t 12)]⟩, ⟨(some 7), none, .mov (.t 13)⟩, ⟨(some 14), none, .extract (.t 7) 0⟩, ⟨(some 15), none, .extract (.t 7) 1⟩, ⟨(some 5), none, .mov (.t 14)⟩, ⟨(some 6), none, .mov (.t 15)⟩])
 (.seq (.seq (.ops [⟨(some 16), none, .mov (.t 6)⟩, ⟨(some 17), none, .un .not (.t 16)⟩])
 (.cond (.t 17) (.ops [⟨(some 18), none, .mov (.t 5)⟩, ⟨(some 19), none, .bin .sub (.t 18) (.c (.int .i64 1))⟩, ⟨(some 5), none, .mov (.t 19)⟩]) .skip))
 (.seq (.ops [⟨(some 20), none, .mov (.t 5)⟩, ⟨(some 4), none, .mov (.t 20)⟩])
 .ret))))⟩
/-- furlong/smap.Copy -/
def v59 : VFun := ⟨1, [(.cell 2 true 3)], (.seq (.ops [⟨(some 1), none, .box 24 (.t 0)⟩, ⟨(some 2), none, .alloc [(.int .i64 0), .nils, .nils] 24⟩])
 (.seq (.drawn [⟨(some 3), none, .faddr 1 (.t 1)⟩, ⟨(some 4), none, .load false 1 (.t 3)⟩, ⟨(some 5), none, .call 83 [(.t 4)]⟩, ⟨(some 6), none, .faddr 2 (.t 1)⟩, ⟨(some 7), none, .load false 1 (.t 6)⟩, ⟨(some 8), none, .call 83 [(.t 7)]⟩, ⟨(some 9), none, .faddr 1 (.t 1)⟩, ⟨none, none, .store 1 (.t 9) (.t 5)⟩, ⟨(some 10), none, .faddr 2 (.t 1)⟩, ⟨none, none, .store 1 (.t 10) (.t 8)⟩] [(4, [0])])
 (.seq (.ops [⟨(some 11), none, .load true 3 (.t 1)⟩, ⟨none, none, .store 3 (.t 2) (.t 11)⟩])
 .ret)))⟩
/-- slices.Insert[[]int,int] -/
def v60 : VFun := ⟨3, [(.tmp 6)], (.seq (.ops [⟨(some 6), none, .mov (.c .nils)⟩])
 (.seq (.ops [⟨(some 10), none, .mov (.t 0)⟩, ⟨(some 11), none, .mov (.t 1)⟩, ⟨(some 12), none, .slice 1 (.t 10) (some (.t 11)) none none⟩])
 (.seq (.ops [⟨(some 13), none, .mov (.t 2)⟩, ⟨(some 14), none, .bi (.len 1) [(.t 13)]⟩, ⟨(some 7), none, .mov (.t 14)⟩])
 (.seq (.seq (.ops [⟨(some 15), none, .mov (.t 7)⟩, ⟨(some 16), none, .bin .eql (.t 15) (.c (.int .i64 0))⟩])
 (.cond (.t 16) (.seq (.ops [⟨(some 17), none, .mov (.t 0)⟩, ⟨(some 6), none, .mov (.t 17)⟩])
 .ret) .skip))
 (.seq (.ops [⟨(some 18), none, .mov (.t 0)⟩, ⟨(some 19), none, .bi (.len 1) [(.t 18)]⟩, ⟨(some 8), none, .mov (.t 19)⟩])
 (.seq (.seq (.ops [⟨(some 20), none, .mov (.t 1)⟩, ⟨(some 21), none, .mov (.t 8)⟩, ⟨(some 22), none, .bin .eql (.t 20) (.t 21)⟩])
 (.cond (.t 22) (.seq (.ops [⟨(some 23), none, .mov (.t 0)⟩, ⟨(some 24), none, .mov (.t 2)⟩, ⟨(some 25), none, .bi (.append 1 8 3) [(.t 23), (.t 24)]⟩, ⟨(some 6), none, .mov (.t 25)⟩])
 .ret) .skip))
 (.seq (.seq (.ops [⟨(some 26), none, .mov (.t 8)⟩, ⟨(some 27), none, .mov (.t 7)⟩, ⟨(some 28), none, .bin .add (.t 26) (.t 27)⟩, ⟨(some 29), none, .mov (.t 0)⟩, ⟨(some 30), none, .bad⟩, ⟨(some 31), none, .bin .gtr (.t 28) (.t 30)⟩])
 (.cond (.t 31) (.seq (.ops [⟨(some 32), none, .mov (.t 0)⟩, ⟨(some 33), none, .mov (.t 1)⟩, ⟨(some 34), none, .slice 1 (.t 32) none (some (.t 33)) none⟩, ⟨(some 35), none, .mov (.t 8)⟩, ⟨(some 36), none, .mov (.t 7)⟩, ⟨(some 37), none, .bin .add (.t 35) (.t 36)⟩, ⟨(some 38), none, .mov (.t 1)⟩, ⟨(some 39), none, .bin .sub (.t 37) (.t 38)⟩, ⟨(some 40), none, .bad⟩, ⟨(some 9), none, .mov (.t 40)⟩])
 (.seq (.ops [⟨(some 41), none, .mov (.t 9)⟩, ⟨(some 42), none, .mov (.t 1)⟩, ⟨(some 43), none, .slice 1 (.t 41) (some (.t 42)) none none⟩, ⟨(some 44), none, .mov (.t 2)⟩, ⟨(some 45), none, .bi (.copy 1) [(.t 43), (.t 44)]⟩])
 (.seq (.drawn [⟨(some 46), none, .mov (.t 9)⟩, ⟨(some 47), none, .mov (.t 1)⟩, ⟨(some 48), none, .mov (.t 7)⟩, ⟨(some 49), none, .bin .add (.t 47) (.t 48)⟩, ⟨(some 50), none, .slice 1 (.t 46) (some (.t 49)) none none⟩, ⟨(some 51), none, .mov (.t 0)⟩, ⟨(some 52), none, .mov (.t 1)⟩, ⟨(some 53), none, .slice 1 (.t 51) (some (.t 52)) none none⟩, ⟨(some 54), none, .bi (.copy 1) [(.t 50), (.t 53)]⟩] [])
 (.seq (.ops [⟨(some 55), none, .mov (.t 9)⟩, ⟨(some 6), none, .mov (.t 55)⟩])
 .ret)))) .skip))
 (.seq (.ops [⟨(some 56), none, .mov (.t 0)⟩, ⟨(some 57), none, .mov (.t 8)⟩, ⟨(some 58), none, .mov (.t 7)⟩, ⟨(some 59), none, .bin .add (.t 57) (.t 58)⟩, ⟨(some 60), none, .slice 1 (.t 56) none (some (.t 59)) none⟩, ⟨(some 0), none, .mov (.t 60)⟩])
 (.seq (.seq (.ops [⟨(some 61), none, .mov (.t 2)⟩, ⟨(some 62), none, .mov (.t 0)⟩, ⟨(some 63), none, .mov (.t 1)⟩, ⟨(some 64), none, .mov (.t 7)⟩, ⟨(some 65), none, .bin .add (.t 63) (.t 64)⟩, ⟨(some 66), none, .slice 1 (.t 62) (some (.t 65)) none none⟩, ⟨(some 67), none, .bad⟩, ⟨(some 68), none, .un .not (.t 67)⟩])
 (.cond (.t 68) (.seq (.drawn [⟨(some 69), none, .mov (.t 0)⟩, ⟨(some 70), none, .mov (.t 1)⟩, ⟨(some 71), none, .mov (.t 7)⟩, ⟨(some 72), none, .bin .add (.t 70) (.t 71)⟩, ⟨(some 73), none, .slice 1 (.t 69) (some (.t 72)) none none⟩, ⟨(some 74), none, .mov (.t 0)⟩, ⟨(some 75), none, .mov (.t 1)⟩, ⟨(some 76), none, .slice 1 (.t 74) (some (.t 75)) none none⟩, ⟨(some 77), none, .bi (.copy 1) [(.t 73), (.t 76)]⟩] [])
 (.seq (.ops [⟨(some 78), none, .mov (.t 0)⟩, ⟨(some 79), none, .mov (.t 1)⟩, ⟨(some 80), none, .slice 1 (.t 78) (some (.t 79)) none none⟩, ⟨(some 81), none, .mov (.t 2)⟩, ⟨(some 82), none, .bi (.copy 1) [(.t 80), (.t 81)]⟩])
 (.seq (.ops [⟨(some 83), none, .mov (.t 0)⟩, ⟨(some 6), none, .mov (.t 83)⟩])
 .ret))) .skip))
 (.seq (.ops [⟨(some 84), none, .mov (.t 0)⟩, ⟨(some 85), none, .mov (.t 8)⟩, ⟨(some 86), none, .slice 1 (.t 84) (some (.t 85)) none none⟩, ⟨(some 87), none, .mov (.t 2)⟩, ⟨(some 88), none, .bi (.copy 1) [(.t 86), (.t 87)]⟩])
 (.seq (.ops [⟨(some 89), none, .mov (.t 0)⟩, ⟨(some 90), none, .mov (.t 1)⟩, ⟨(some 91), none, .slice 1 (.t 89) (some (.t 90)) none none⟩, ⟨(some 92), none, .mov (.t 7)⟩, ⟨(some 93), none, .call 85 [(.t 91), (.t 92)]⟩])
 (.seq (.ops [⟨(some 94), none, .mov (.t 0)⟩, ⟨(some 6), none, .mov (.t 94)⟩])
 .ret))))))))))))⟩
/-- slices.Delete[[]int,int] -/
def v61 : VFun := ⟨3, [(.tmp 6)], (.seq (.ops [⟨(some 6), none, .mov (.c .nils)⟩])
 (.seq (.ops [⟨(some 8), none, .mov (.t 0)⟩, ⟨(some 9), none, .mov (.t 1)⟩, ⟨(some 10), none, .mov (.t 2)⟩, ⟨(some 11), none, .mov (.t 0)⟩, ⟨(some 12), none, .bi (.len 1) [(.t 11)]⟩, ⟨(some 13), none, .slice 1 (.t 8) (some (.t 9)) (some (.t 10)) (some (.t 12))⟩])
 (.seq (.seq (.ops [⟨(some 14), none, .mov (.t 1)⟩, ⟨(some 15), none, .mov (.t 2)⟩, ⟨(some 16), none, .bin .eql (.t 14) (.t 15)⟩])
 (.cond (.t 16) (.seq (.ops [⟨(some 17), none, .mov (.t 0)⟩, ⟨(some 6), none, .mov (.t 17)⟩])
 .ret) .skip))
 (.seq (.ops [⟨(some 18), none, .mov (.t 0)⟩, ⟨(some 19), none, .bi (.len 1) [(.t 18)]⟩, ⟨(some 7), none, .mov (.t 19)⟩])
 (.seq (.drawn [⟨(some 20), none, .mov (.t 0)⟩, ⟨(some 21), none, .mov (.t 1)⟩, ⟨(some 22), none, .slice 1 (.t 20) none (some (.t 21)) none⟩, ⟨(some 23), none, .mov (.t 0)⟩, ⟨(some 24), none, .mov (.t 2)⟩, ⟨(some 25), none, .slice 1 (.t 23) (some (.t 24)) none none⟩, ⟨(some 26), none, .bi (.append 1 8 3) [(.t 22), (.t 25)]⟩, ⟨(some 0), none, .mov (.t 26)⟩] [])
 (.seq (.ops [⟨(some 27), none, .mov (.t 0)⟩, ⟨(some 28), none, .mov (.t 0)⟩, ⟨(some 29), none, .bi (.len 1) [(.t 28)]⟩, ⟨(some 30), none, .mov (.t 7)⟩, ⟨(some 31), none, .slice 1 (.t 27) (some (.t 29)) (some (.t 30)) none⟩, ⟨none, none, .bi (.clearS [(.int .i64 0)]) [(.t 31)]⟩])
 (.seq (.ops [⟨(some 32), none, .mov (.t 0)⟩, ⟨(some 6), none, .mov (.t 32)⟩])
 .ret)))))))⟩
def b63_0 : VCode := (.seq (.ops [⟨(some 8), none, .bin .lss (.t 7) (.t 6)⟩])
 (.seq (.cond (.t 8) .skip (.exit 0))
 (.seq (.block 1 (.seq (.ops [⟨(some 9), none, .mov (.t 7)⟩, ⟨(some 10), none, .iaddr 2 none (.t 5) (.t 7)⟩, ⟨(some 11), none, .load true 2 (.t 10)⟩, ⟨(some 4), none, .alloc [(.int .i64 0), (.int .i64 0)] 104⟩, ⟨(some 3), none, .mov (.t 9)⟩, ⟨none, none, .store 2 (.t 4) (.t 11)⟩])
 (.seq (.drawn [⟨(some 12), none, .faddr 0 (.t 4)⟩, ⟨(some 13), none, .load false 1 (.t 12)⟩, ⟨(some 14), none, .bin .lss (.t 13) (.c (.int .i64 0))⟩, ⟨(some 15), none, .mov (.t 14)⟩, ⟨(some 16), (some (15, false)), .faddr 0 (.t 4)⟩, ⟨(some 17), (some (15, false)), .load false 1 (.t 16)⟩, ⟨(some 18), (some (15, false)), .faddr 1 (.t 4)⟩, ⟨(some 19), (some (15, false)), .load false 1 (.t 18)⟩, ⟨(some 20), (some (15, false)), .bin .geq (.t 17) (.t 19)⟩, ⟨(some 21), none, .pick (.t 15) (.c (.bool true)) (.t 20)⟩, ⟨(some 22), none, .mov (.t 21)⟩, ⟨(some 23), (some (22, false)), .faddr 1 (.t 4)⟩, ⟨(some 24), (some (22, false)), .load false 1 (.t 23)⟩, ⟨(some 25), (some (22, false)), .bin .gtr (.t 24) (.c (.int .i64 4294967296))⟩, ⟨(some 26), none, .pick (.t 22) (.c (.bool true)) (.t 25)⟩, ⟨(some 27), none, .mov (.t 26)⟩, ⟨(some 28), (some (27, false)), .mov (.t 3)⟩, ⟨(some 29), (some (27, false)), .bin .gtr (.t 28) (.c (.int .i64 0))⟩, ⟨(some 30), (some (27, false)), .mov (.t 29)⟩, ⟨(some 31), (some (30, true)), .faddr 0 (.t 4)⟩, ⟨(some 32), (some (30, true)), .load false 1 (.t 31)⟩, ⟨(some 33), (some (30, true)), .mov (.t 0)⟩, ⟨(some 34), (some (30, true)), .mov (.t 3)⟩, ⟨(some 35), (some (30, true)), .bin .sub (.t 34) (.c (.int .i64 1))⟩, ⟨(some 36), (some (30, true)), .iaddr 2 none (.t 33) (.t 35)⟩, ⟨(some 37), (some (30, true)), .faddr 1 (.t 36)⟩, ⟨(some 38), (some (30, true)), .load false 1 (.t 37)⟩, ⟨(some 39), (some (30, true)), .bin .leq (.t 32) (.t 38)⟩, ⟨(some 40), (some (27, false)), .pick (.t 30) (.t 39) (.c (.bool false))⟩, ⟨(some 41), none, .pick (.t 27) (.c (.bool true)) (.t 40)⟩] [])
 (.cond (.t 41) (.seq (.ops [⟨(some 2), none, .mov (.c (.bool false))⟩])
 .ret) .skip))))
 (.ops [⟨(some 42), none, .bin .add (.t 7) (.c (.int .i64 1))⟩, ⟨(some 7), none, .mov (.t 42)⟩]))))
/-- furlong/cover.May -/
def v63 : VFun := ⟨1, [(.tmp 2)], (.seq (.ops [⟨(some 2), none, .mov (.c (.bool false))⟩])
 (.seq (.seq (.ops [⟨(some 5), none, .mov (.t 0)⟩, ⟨(some 6), none, .bi (.len 1) [(.t 5)]⟩, ⟨(some 7), none, .mov (.c (.int .i64 0))⟩])
 (.block 0 (.loop b63_0)))
 (.seq (.ops [⟨(some 2), none, .mov (.c (.bool true))⟩])
 .ret)))⟩
/-- slices.Sort[[]int,int] -/
def v64 : VFun := ⟨1, [], (.seq (.ops [⟨(some 3), none, .mov (.t 0)⟩, ⟨(some 4), none, .bi (.len 1) [(.t 3)]⟩, ⟨(some 2), none, .mov (.t 4)⟩])
 (.ops [⟨(some 5), none, .mov (.t 0)⟩, ⟨(some 6), none, .mov (.t 2)⟩, ⟨(some 7), none, .mov (.t 2)⟩, ⟨(some 8), none, .conv (.int .u64) (.t 7)⟩, ⟨(some 9), none, .call 87 [(.t 8)]⟩, ⟨(some 10), none, .call 86 [(.t 5), (.c (.int .i64 0)), (.t 6), (.t 9)]⟩]))⟩
def b65_0 : VCode := (.seq (.seq (.ops [⟨(some 29), none, .mov (.t 5)⟩, ⟨(some 30), none, .mov (.t 4)⟩, ⟨(some 31), none, .bi (.len 1) [(.t 30)]⟩, ⟨(some 32), none, .bin .lss (.t 29) (.t 31)⟩])
 (.cond (.t 32) .skip (.exit 2)))
 (.seq (.block 3 (.seq (.drawn [⟨(some 35), none, .mov (.t 4)⟩, ⟨(some 36), none, .mov (.t 5)⟩, ⟨(some 37), none, .iaddr 1 none (.t 35) (.t 36)⟩, ⟨(some 38), none, .load false 1 (.t 37)⟩, ⟨(some 39), none, .mov (.t 4)⟩, ⟨(some 40), none, .mov (.t 5)⟩, ⟨(some 41), none, .bin .sub (.t 40) (.c (.int .i64 1))⟩, ⟨(some 42), none, .iaddr 1 none (.t 39) (.t 41)⟩, ⟨(some 43), none, .load false 1 (.t 42)⟩, ⟨(some 44), none, .bin .neq (.t 38) (.t 43)⟩] [])
 (.cond (.t 44) (.seq (.ops [⟨(some 45), none, .mov (.t 0)⟩, ⟨(some 46), none, .mov (.t 3)⟩, ⟨(some 47), none, .mov (.t 4)⟩, ⟨(some 48), none, .mov (.t 5)⟩, ⟨(some 49), none, .iaddr 1 none (.t 47) (.t 48)⟩, ⟨(some 50), none, .load false 1 (.t 49)⟩, ⟨(some 51), none, .iaddr 1 none (.t 45) (.t 46)⟩, ⟨none, none, .store 1 (.t 51) (.t 50)⟩])
 (.ops [⟨(some 52), none, .mov (.t 3)⟩, ⟨(some 53), none, .bin .add (.t 52) (.c (.int .i64 1))⟩, ⟨(some 3), none, .mov (.t 53)⟩])) .skip)))
 (.ops [⟨(some 33), none, .mov (.t 5)⟩, ⟨(some 34), none, .bin .add (.t 33) (.c (.int .i64 1))⟩, ⟨(some 5), none, .mov (.t 34)⟩])))
def b65_1 : VCode := (.seq (.seq (.ops [⟨(some 10), none, .mov (.t 3)⟩, ⟨(some 11), none, .mov (.t 0)⟩, ⟨(some 12), none, .bi (.len 1) [(.t 11)]⟩, ⟨(some 13), none, .bin .lss (.t 10) (.t 12)⟩])
 (.cond (.t 13) .skip (.exit 0)))
 (.seq (.block 1 (.seq (.drawn [⟨(some 16), none, .mov (.t 0)⟩, ⟨(some 17), none, .mov (.t 3)⟩, ⟨(some 18), none, .iaddr 1 none (.t 16) (.t 17)⟩, ⟨(some 19), none, .load false 1 (.t 18)⟩, ⟨(some 20), none, .mov (.t 0)⟩, ⟨(some 21), none, .mov (.t 3)⟩, ⟨(some 22), none, .bin .sub (.t 21) (.c (.int .i64 1))⟩, ⟨(some 23), none, .iaddr 1 none (.t 20) (.t 22)⟩, ⟨(some 24), none, .load false 1 (.t 23)⟩, ⟨(some 25), none, .bin .eql (.t 19) (.t 24)⟩] [])
 (.cond (.t 25) (.seq (.ops [⟨(some 26), none, .mov (.t 0)⟩, ⟨(some 27), none, .mov (.t 3)⟩, ⟨(some 28), none, .slice 1 (.t 26) (some (.t 27)) none none⟩, ⟨(some 4), none, .mov (.t 28)⟩])
 (.seq (.seq (.ops [⟨(some 5), none, .mov (.c (.int .i64 1))⟩])
 (.block 2 (.loop b65_0)))
 (.seq (.ops [⟨(some 54), none, .mov (.t 0)⟩, ⟨(some 55), none, .mov (.t 3)⟩, ⟨(some 56), none, .slice 1 (.t 54) (some (.t 55)) none none⟩, ⟨none, none, .bi (.clearS [(.int .i64 0)]) [(.t 56)]⟩])
 (.seq (.ops [⟨(some 57), none, .mov (.t 0)⟩, ⟨(some 58), none, .mov (.t 3)⟩, ⟨(some 59), none, .slice 1 (.t 57) none (some (.t 58)) none⟩, ⟨(some 2), none, .mov (.t 59)⟩])
 .ret)))) .skip)))
 (.ops [⟨(some 14), none, .mov (.t 3)⟩, ⟨(some 15), none, .bin .add (.t 14) (.c (.int .i64 1))⟩, ⟨(some 3), none, .mov (.t 15)⟩])))
/-- slices.Compact[[]int,int] -/
def v65 : VFun := ⟨1, [(.tmp 2)], (.seq (.ops [⟨(some 2), none, .mov (.c .nils)⟩])
 (.seq (.seq (.ops [⟨(some 6), none, .mov (.t 0)⟩, ⟨(some 7), none, .bi (.len 1) [(.t 6)]⟩, ⟨(some 8), none, .bin .lss (.t 7) (.c (.int .i64 2))⟩])
 (.cond (.t 8) (.seq (.ops [⟨(some 9), none, .mov (.t 0)⟩, ⟨(some 2), none, .mov (.t 9)⟩])
 .ret) .skip))
 (.seq (.seq (.ops [⟨(some 3), none, .mov (.c (.int .i64 1))⟩])
 (.block 0 (.loop b65_1)))
 (.seq (.ops [⟨(some 60), none, .mov (.t 0)⟩, ⟨(some 2), none, .mov (.t 60)⟩])
 .ret))))⟩
def b82_0 : VCode := (.seq (.seq (.ops [⟨(some 13), none, .mov (.t 7)⟩, ⟨(some 14), none, .mov (.t 8)⟩, ⟨(some 15), none, .bin .lss (.t 13) (.t 14)⟩])
 (.cond (.t 15) .skip (.exit 0)))
 (.block 1 (.seq (.ops [⟨(some 16), none, .mov (.t 7)⟩, ⟨(some 17), none, .mov (.t 8)⟩, ⟨(some 18), none, .bin .add (.t 16) (.t 17)⟩, ⟨(some 19), none, .conv (.int .u64) (.t 18)⟩, ⟨(some 20), none, .bin .shr (.t 19) (.c (.int .u64 1))⟩, ⟨(some 21), none, .conv (.int .i64) (.t 20)⟩, ⟨(some 9), none, .mov (.t 21)⟩])
 (.seq (.ops [⟨(some 22), none, .mov (.t 0)⟩, ⟨(some 23), none, .mov (.t 9)⟩, ⟨(some 24), none, .iaddr 1 none (.t 22) (.t 23)⟩, ⟨(some 25), none, .load false 1 (.t 24)⟩, ⟨(some 26), none, .mov (.t 1)⟩, ⟨(some 27), none, .call 101 [(.t 25), (.t 26)]⟩])
 (.cond (.t 27) (.ops [⟨(some 28), none, .mov (.t 9)⟩, ⟨(some 29), none, .bin .add (.t 28) (.c (.int .i64 1))⟩, ⟨(some 7), none, .mov (.t 29)⟩]) (.ops [⟨(some 30), none, .mov (.t 9)⟩, ⟨(some 8), none, .mov (.t 30)⟩]))))))
/-- slices.BinarySearch[[]int,int] -/
def v82 : VFun := ⟨2, [(.tmp 4), (.tmp 5)], (.seq (.ops [⟨(some 4), none, .mov (.c (.int .i64 0))⟩, ⟨(some 5), none, .mov (.c (.bool false))⟩])
 (.seq (.ops [⟨(some 10), none, .mov (.t 0)⟩, ⟨(some 11), none, .bi (.len 1) [(.t 10)]⟩, ⟨(some 6), none, .mov (.t 11)⟩])
 (.seq (.ops [⟨(some 12), none, .mov (.t 6)⟩, ⟨(some 7), none, .mov (.c (.int .i64 0))⟩, ⟨(some 8), none, .mov (.t 12)⟩])
 (.seq (.block 0 (.loop b82_0))
 (.seq (.ops [⟨(some 31), none, .mov (.t 7)⟩, ⟨(some 32), none, .mov (.t 7)⟩, ⟨(some 33), none, .mov (.t 6)⟩, ⟨(some 34), none, .bin .lss (.t 32) (.t 33)⟩, ⟨(some 35), none, .mov (.t 34)⟩, ⟨(some 36), (some (35, true)), .mov (.t 0)⟩, ⟨(some 37), (some (35, true)), .mov (.t 7)⟩, ⟨(some 38), (some (35, true)), .iaddr 1 none (.t 36) (.t 37)⟩, ⟨(some 39), (some (35, true)), .load false 1 (.t 38)⟩, ⟨(some 40), (some (35, true)), .mov (.t 1)⟩, ⟨(some 41), (some (35, true)), .bin .eql (.t 39) (.t 40)⟩, ⟨(some 42), (some (35, true)), .mov (.t 41)⟩, ⟨(some 43), (some (42, false)), .mov (.t 0)⟩, ⟨(some 44), (some (42, false)), .mov (.t 7)⟩, ⟨(some 45), (some (42, false)), .iaddr 1 none (.t 43) (.t 44)⟩, ⟨(some 46), (some (42, false)), .load false 1 (.t 45)⟩, ⟨(some 47), (some (42, false)), .call 102 [(.t 46)]⟩, ⟨(some 48), (some (42, false)), .mov (.t 47)⟩, ⟨(some 49), (some (48, true)), .mov (.t 1)⟩, ⟨(some 50), (some (48, true)), .call 102 [(.t 49)]⟩, ⟨(some 51), (some (42, false)), .pick (.t 48) (.t 50) (.c (.bool false))⟩, ⟨(some 52), (some (35, true)), .pick (.t 42) (.c (.bool true)) (.t 51)⟩, ⟨(some 53), none, .pick (.t 35) (.t 52) (.c (.bool false))⟩, ⟨(some 4), none, .mov (.t 31)⟩, ⟨(some 5), none, .mov (.t 53)⟩])
 .ret)))))⟩
/-- slices.Clone[[]int,int] -/
def v83 : VFun := ⟨1, [(.tmp 2)], (.seq (.ops [⟨(some 2), none, .mov (.c .nils)⟩])
 (.seq (.seq (.ops [⟨(some 3), none, .mov (.t 0)⟩, ⟨(some 4), none, .eqs .sl false (.t 3) (.c .nils)⟩])
 (.cond (.t 4) (.seq (.ops [⟨(some 2), none, .mov (.c .nils)⟩])
 .ret) .skip))
 (.seq (.ops [⟨(some 5), none, .bslice [(.int .i64 0)] 3 0 []⟩, ⟨(some 6), none, .mov (.t 0)⟩, ⟨(some 7), none, .bi (.append 1 8 3) [(.t 5), (.t 6)]⟩, ⟨(some 2), none, .mov (.t 7)⟩])
 .ret)))⟩
/-- slices.rotateRight[int] -/
def v85 : VFun := ⟨2, [], (.ops [⟨(some 4), none, .mov (.t 0)⟩, ⟨(some 5), none, .mov (.t 0)⟩, ⟨(some 6), none, .bi (.len 1) [(.t 5)]⟩, ⟨(some 7), none, .mov (.t 1)⟩, ⟨(some 8), none, .bin .sub (.t 6) (.t 7)⟩, ⟨(some 9), none, .call 103 [(.t 4), (.t 8)]⟩])⟩
def b86_0 : VCode := (.block 1 (.seq (.ops [⟨(some 19), none, .mov (.t 2)⟩, ⟨(some 20), none, .mov (.t 1)⟩, ⟨(some 21), none, .bin .sub (.t 19) (.t 20)⟩, ⟨(some 10), none, .mov (.t 21)⟩])
 (.seq (.seq (.ops [⟨(some 22), none, .mov (.t 10)⟩, ⟨(some 23), none, .bin .leq (.t 22) (.c (.int .i64 12))⟩])
 (.cond (.t 23) (.seq (.ops [⟨(some 24), none, .mov (.t 0)⟩, ⟨(some 25), none, .mov (.t 1)⟩, ⟨(some 26), none, .mov (.t 2)⟩, ⟨(some 27), none, .call 104 [(.t 24), (.t 25), (.t 26)]⟩])
 .ret) .skip))
 (.seq (.seq (.ops [⟨(some 28), none, .mov (.t 3)⟩, ⟨(some 29), none, .bin .eql (.t 28) (.c (.int .i64 0))⟩])
 (.cond (.t 29) (.seq (.ops [⟨(some 30), none, .mov (.t 0)⟩, ⟨(some 31), none, .mov (.t 1)⟩, ⟨(some 32), none, .mov (.t 2)⟩, ⟨(some 33), none, .call 105 [(.t 30), (.t 31), (.t 32)]⟩])
 .ret) .skip))
 (.seq (.seq (.ops [⟨(some 34), none, .mov (.t 8)⟩, ⟨(some 35), none, .un .not (.t 34)⟩])
 (.cond (.t 35) (.seq (.ops [⟨(some 36), none, .mov (.t 0)⟩, ⟨(some 37), none, .mov (.t 1)⟩, ⟨(some 38), none, .mov (.t 2)⟩, ⟨(some 39), none, .call 106 [(.t 36), (.t 37), (.t 38)]⟩])
 (.ops [⟨(some 40), none, .mov (.t 3)⟩, ⟨(some 41), none, .bin .sub (.t 40) (.c (.int .i64 1))⟩, ⟨(some 3), none, .mov (.t 41)⟩])) .skip))
 (.seq (.ops [⟨(some 43), none, .mov (.t 0)⟩, ⟨(some 44), none, .mov (.t 1)⟩, ⟨(some 45), none, .mov (.t 2)⟩, ⟨(some 46), none, .call 107 [(.t 43), (.t 44), (.t 45)]⟩, ⟨(some 42), none, .mov (.t 46)⟩, ⟨(some 47), none, .extract (.t 42) 0⟩, ⟨(some 48), none, .extract (.t 42) 1⟩, ⟨(some 11), none, .mov (.t 47)⟩, ⟨(some 12), none, .mov (.t 48)⟩])
 (.seq (.seq (.ops [⟨(some 49), none, .mov (.t 12)⟩, ⟨(some 50), none, .bin .eql (.t 49) (.c (.int .i64 2))⟩])
 (.cond (.t 50) (.seq (.ops [⟨(some 51), none, .mov (.t 0)⟩, ⟨(some 52), none, .mov (.t 1)⟩, ⟨(some 53), none, .mov (.t 2)⟩, ⟨(some 54), none, .call 108 [(.t 51), (.t 52), (.t 53)]⟩])
 (.seq (.ops [⟨(some 55), none, .mov (.t 2)⟩, ⟨(some 56), none, .bin .sub (.t 55) (.c (.int .i64 1))⟩, ⟨(some 57), none, .mov (.t 11)⟩, ⟨(some 58), none, .mov (.t 1)⟩, ⟨(some 59), none, .bin .sub (.t 57) (.t 58)⟩, ⟨(some 60), none, .bin .sub (.t 56) (.t 59)⟩, ⟨(some 11), none, .mov (.t 60)⟩])
 (.ops [⟨(some 12), none, .mov (.c (.int .i64 1))⟩]))) .skip))
 (.seq (.seq (.ops [⟨(some 61), none, .mov (.t 8)⟩, ⟨(some 62), none, .mov (.t 61)⟩, ⟨(some 63), (some (62, true)), .mov (.t 9)⟩, ⟨(some 64), none, .pick (.t 62) (.t 63) (.c (.bool false))⟩, ⟨(some 65), none, .mov (.t 64)⟩, ⟨(some 66), (some (65, true)), .mov (.t 12)⟩, ⟨(some 67), (some (65, true)), .bin .eql (.t 66) (.c (.int .i64 1))⟩, ⟨(some 68), none, .pick (.t 65) (.t 67) (.c (.bool false))⟩])
 (.cond (.t 68) (.seq (.ops [⟨(some 69), none, .mov (.t 0)⟩, ⟨(some 70), none, .mov (.t 1)⟩, ⟨(some 71), none, .mov (.t 2)⟩, ⟨(some 72), none, .call 109 [(.t 69), (.t 70), (.t 71)]⟩])
 (.cond (.t 72) .ret .skip)) .skip))
 (.seq (.seq (.drawn [⟨(some 73), none, .mov (.t 1)⟩, ⟨(some 74), none, .bin .gtr (.t 73) (.c (.int .i64 0))⟩, ⟨(some 75), none, .mov (.t 74)⟩, ⟨(some 76), (some (75, true)), .mov (.t 0)⟩, ⟨(some 77), (some (75, true)), .mov (.t 1)⟩, ⟨(some 78), (some (75, true)), .bin .sub (.t 77) (.c (.int .i64 1))⟩, ⟨(some 79), (some (75, true)), .iaddr 1 none (.t 76) (.t 78)⟩, ⟨(some 80), (some (75, true)), .load false 1 (.t 79)⟩, ⟨(some 81), (some (75, true)), .mov (.t 0)⟩, ⟨(some 82), (some (75, true)), .mov (.t 11)⟩, ⟨(some 83), (some (75, true)), .iaddr 1 none (.t 81) (.t 82)⟩, ⟨(some 84), (some (75, true)), .load false 1 (.t 83)⟩, ⟨(some 85), (some (75, true)), .call 101 [(.t 80), (.t 84)]⟩, ⟨(some 86), (some (75, true)), .un .not (.t 85)⟩, ⟨(some 87), none, .pick (.t 75) (.t 86) (.c (.bool false))⟩] [])
 (.cond (.t 87) (.seq (.ops [⟨(some 88), none, .mov (.t 0)⟩, ⟨(some 89), none, .mov (.t 1)⟩, ⟨(some 90), none, .mov (.t 2)⟩, ⟨(some 91), none, .mov (.t 11)⟩, ⟨(some 92), none, .call 110 [(.t 88), (.t 89), (.t 90), (.t 91)]⟩, ⟨(some 13), none, .mov (.t 92)⟩])
 (.seq (.ops [⟨(some 93), none, .mov (.t 13)⟩, ⟨(some 1), none, .mov (.t 93)⟩])
 (.exit 1))) .skip))
 (.seq (.ops [⟨(some 95), none, .mov (.t 0)⟩, ⟨(some 96), none, .mov (.t 1)⟩, ⟨(some 97), none, .mov (.t 2)⟩, ⟨(some 98), none, .mov (.t 11)⟩, ⟨(some 99), none, .call 111 [(.t 95), (.t 96), (.t 97), (.t 98)]⟩, ⟨(some 94), none, .mov (.t 99)⟩, ⟨(some 100), none, .extract (.t 94) 0⟩, ⟨(some 101), none, .extract (.t 94) 1⟩, ⟨(some 14), none, .mov (.t 100)⟩, ⟨(some 15), none, .mov (.t 101)⟩])
 (.seq (.ops [⟨(some 102), none, .mov (.t 15)⟩, ⟨(some 9), none, .mov (.t 102)⟩])
 (.seq (.ops [⟨(some 103), none, .mov (.t 14)⟩, ⟨(some 104), none, .mov (.t 1)⟩, ⟨(some 105), none, .bin .sub (.t 103) (.t 104)⟩, ⟨(some 106), none, .mov (.t 2)⟩, ⟨(some 107), none, .mov (.t 14)⟩, ⟨(some 108), none, .bin .sub (.t 106) (.t 107)⟩, ⟨(some 16), none, .mov (.t 105)⟩, ⟨(some 17), none, .mov (.t 108)⟩])
 (.seq (.ops [⟨(some 109), none, .mov (.t 10)⟩, ⟨(some 110), none, .bin .quo (.t 109) (.c (.int .i64 8))⟩, ⟨(some 18), none, .mov (.t 110)⟩])
 (.seq (.ops [⟨(some 111), none, .mov (.t 16)⟩, ⟨(some 112), none, .mov (.t 17)⟩, ⟨(some 113), none, .bin .lss (.t 111) (.t 112)⟩])
 (.cond (.t 113) (.seq (.ops [⟨(some 114), none, .mov (.t 16)⟩, ⟨(some 115), none, .mov (.t 18)⟩, ⟨(some 116), none, .bin .geq (.t 114) (.t 115)⟩, ⟨(some 8), none, .mov (.t 116)⟩])
 (.seq (.ops [⟨(some 117), none, .mov (.t 0)⟩, ⟨(some 118), none, .mov (.t 1)⟩, ⟨(some 119), none, .mov (.t 14)⟩, ⟨(some 120), none, .mov (.t 3)⟩, ⟨(some 121), none, .call 86 [(.t 117), (.t 118), (.t 119), (.t 120)]⟩])
 (.ops [⟨(some 122), none, .mov (.t 14)⟩, ⟨(some 123), none, .bin .add (.t 122) (.c (.int .i64 1))⟩, ⟨(some 1), none, .mov (.t 123)⟩]))) (.seq (.ops [⟨(some 124), none, .mov (.t 17)⟩, ⟨(some 125), none, .mov (.t 18)⟩, ⟨(some 126), none, .bin .geq (.t 124) (.t 125)⟩, ⟨(some 8), none, .mov (.t 126)⟩])
 (.seq (.ops [⟨(some 127), none, .mov (.t 0)⟩, ⟨(some 128), none, .mov (.t 14)⟩, ⟨(some 129), none, .bin .add (.t 128) (.c (.int .i64 1))⟩, ⟨(some 130), none, .mov (.t 2)⟩, ⟨(some 131), none, .mov (.t 3)⟩, ⟨(some 132), none, .call 86 [(.t 127), (.t 129), (.t 130), (.t 131)]⟩])
 (.ops [⟨(some 133), none, .mov (.t 14)⟩, ⟨(some 2), none, .mov (.t 133)⟩]))))))))))))))))))
/-- slices.pdqsortOrdered[int] -/
def v86 : VFun := ⟨4, [], (.seq (.ops [⟨(some 8), none, .mov (.c (.bool true))⟩])
 (.seq (.ops [⟨(some 9), none, .mov (.c (.bool true))⟩])
 (.block 0 (.loop b86_0))))⟩
/-- math/bits.Len -/
def v87 : VFun := ⟨1, [(.tmp 2)], (.seq (.ops [⟨(some 2), none, .mov (.c (.int .i64 0))⟩])
 (.seq (.cond (.c (.bool false)) (.seq (.ops [⟨(some 3), none, .mov (.t 0)⟩, ⟨(some 4), none, .conv (.int .u32) (.t 3)⟩, ⟨(some 5), none, .call 112 [(.t 4)]⟩, ⟨(some 2), none, .mov (.t 5)⟩])
 .ret) .skip)
 (.seq (.ops [⟨(some 6), none, .mov (.t 0)⟩, ⟨(some 7), none, .call 113 [(.t 6)]⟩, ⟨(some 2), none, .mov (.t 7)⟩])
 .ret)))⟩
/-- cmp.Less[int] -/
def v101 : VFun := ⟨2, [(.tmp 4)], (.seq (.ops [⟨(some 4), none, .mov (.c (.bool false))⟩])
 (.seq (.ops [⟨(some 5), none, .mov (.t 0)⟩, ⟨(some 6), none, .call 121 [(.t 5)]⟩, ⟨(some 7), none, .mov (.t 6)⟩, ⟨(some 8), (some (7, true)), .mov (.t 1)⟩, ⟨(some 9), (some (7, true)), .call 121 [(.t 8)]⟩, ⟨(some 10), (some (7, true)), .un .not (.t 9)⟩, ⟨(some 11), none, .pick (.t 7) (.t 10) (.c (.bool false))⟩, ⟨(some 12), none, .mov (.t 11)⟩, ⟨(some 13), (some (12, false)), .mov (.t 0)⟩, ⟨(some 14), (some (12, false)), .mov (.t 1)⟩, ⟨(some 15), (some (12, false)), .bin .lss (.t 13) (.t 14)⟩, ⟨(some 16), none, .pick (.t 12) (.c (.bool true)) (.t 15)⟩, ⟨(some 4), none, .mov (.t 16)⟩])
 .ret))⟩
/-- slices.isNaN[int] -/
def v102 : VFun := ⟨1, [(.tmp 2)], (.seq (.ops [⟨(some 2), none, .mov (.c (.bool false))⟩])
 (.seq (.ops [⟨(some 3), none, .mov (.t 0)⟩, ⟨(some 4), none, .mov (.t 0)⟩, ⟨(some 5), none, .bin .neq (.t 3) (.t 4)⟩, ⟨(some 2), none, .mov (.t 5)⟩])
 .ret))⟩
/-- slices.rotateLeft[int] -/
def v103 : VFun := ⟨2, [], (.seq (.ops [⟨(some 4), none, .mov (.t 0)⟩, ⟨(some 5), none, .mov (.t 1)⟩, ⟨(some 6), none, .slice 1 (.t 4) none (some (.t 5)) none⟩, ⟨(some 7), none, .call 122 [(.t 6)]⟩])
 (.seq (.ops [⟨(some 8), none, .mov (.t 0)⟩, ⟨(some 9), none, .mov (.t 1)⟩, ⟨(some 10), none, .slice 1 (.t 8) (some (.t 9)) none none⟩, ⟨(some 11), none, .call 122 [(.t 10)]⟩])
 (.ops [⟨(some 12), none, .mov (.t 0)⟩, ⟨(some 13), none, .call 122 [(.t 12)]⟩])))⟩
def b104_0 : VCode := (.seq (.seq (.drawn [⟨(some 16), none, .mov (.t 7)⟩, ⟨(some 17), none, .mov (.t 1)⟩, ⟨(some 18), none, .bin .gtr (.t 16) (.t 17)⟩, ⟨(some 19), none, .mov (.t 18)⟩, ⟨(some 20), (some (19, true)), .mov (.t 0)⟩, ⟨(some 21), (some (19, true)), .mov (.t 7)⟩, ⟨(some 22), (some (19, true)), .iaddr 1 none (.t 20) (.t 21)⟩, ⟨(some 23), (some (19, true)), .load false 1 (.t 22)⟩, ⟨(some 24), (some (19, true)), .mov (.t 0)⟩, ⟨(some 25), (some (19, true)), .mov (.t 7)⟩, ⟨(some 26), (some (19, true)), .bin .sub (.t 25) (.c (.int .i64 1))⟩, ⟨(some 27), (some (19, true)), .iaddr 1 none (.t 24) (.t 26)⟩, ⟨(some 28), (some (19, true)), .load false 1 (.t 27)⟩, ⟨(some 29), (some (19, true)), .call 101 [(.t 23), (.t 28)]⟩, ⟨(some 30), none, .pick (.t 19) (.t 29) (.c (.bool false))⟩] [])
 (.cond (.t 30) .skip (.exit 2)))
 (.seq (.block 3 (.drawn [⟨(some 33), none, .mov (.t 0)⟩, ⟨(some 34), none, .mov (.t 7)⟩, ⟨(some 35), none, .mov (.t 0)⟩, ⟨(some 36), none, .mov (.t 7)⟩, ⟨(some 37), none, .bin .sub (.t 36) (.c (.int .i64 1))⟩, ⟨(some 38), none, .mov (.t 0)⟩, ⟨(some 39), none, .mov (.t 7)⟩, ⟨(some 40), none, .bin .sub (.t 39) (.c (.int .i64 1))⟩, ⟨(some 41), none, .iaddr 1 none (.t 38) (.t 40)⟩, ⟨(some 42), none, .load false 1 (.t 41)⟩, ⟨(some 43), none, .mov (.t 0)⟩, ⟨(some 44), none, .mov (.t 7)⟩, ⟨(some 45), none, .iaddr 1 none (.t 43) (.t 44)⟩, ⟨(some 46), none, .load false 1 (.t 45)⟩, ⟨(some 47), none, .iaddr 1 none (.t 33) (.t 34)⟩, ⟨none, none, .store 1 (.t 47) (.t 42)⟩, ⟨(some 48), none, .iaddr 1 none (.t 35) (.t 37)⟩, ⟨none, none, .store 1 (.t 48) (.t 46)⟩] []))
 (.ops [⟨(some 31), none, .mov (.t 7)⟩, ⟨(some 32), none, .bin .sub (.t 31) (.c (.int .i64 1))⟩, ⟨(some 7), none, .mov (.t 32)⟩])))
def b104_1 : VCode := (.seq (.seq (.ops [⟨(some 10), none, .mov (.t 6)⟩, ⟨(some 11), none, .mov (.t 2)⟩, ⟨(some 12), none, .bin .lss (.t 10) (.t 11)⟩])
 (.cond (.t 12) .skip (.exit 0)))
 (.seq (.block 1 (.seq (.ops [⟨(some 15), none, .mov (.t 6)⟩, ⟨(some 7), none, .mov (.t 15)⟩])
 (.block 2 (.loop b104_0))))
 (.ops [⟨(some 13), none, .mov (.t 6)⟩, ⟨(some 14), none, .bin .add (.t 13) (.c (.int .i64 1))⟩, ⟨(some 6), none, .mov (.t 14)⟩])))
/-- slices.insertionSortOrdered[int] -/
def v104 : VFun := ⟨3, [], (.seq (.ops [⟨(some 8), none, .mov (.t 1)⟩, ⟨(some 9), none, .bin .add (.t 8) (.c (.int .i64 1))⟩, ⟨(some 6), none, .mov (.t 9)⟩])
 (.block 0 (.loop b104_1)))⟩
def b105_0 : VCode := (.seq (.seq (.ops [⟨(some 18), none, .mov (.t 9)⟩, ⟨(some 19), none, .bin .geq (.t 18) (.c (.int .i64 0))⟩])
 (.cond (.t 19) .skip (.exit 0)))
 (.seq (.block 1 (.ops [⟨(some 22), none, .mov (.t 0)⟩, ⟨(some 23), none, .mov (.t 9)⟩, ⟨(some 24), none, .mov (.t 8)⟩, ⟨(some 25), none, .mov (.t 6)⟩, ⟨(some 26), none, .call 123 [(.t 22), (.t 23), (.t 24), (.t 25)]⟩]))
 (.ops [⟨(some 20), none, .mov (.t 9)⟩, ⟨(some 21), none, .bin .sub (.t 20) (.c (.int .i64 1))⟩, ⟨(some 9), none, .mov (.t 21)⟩])))
def b105_1 : VCode := (.seq (.seq (.ops [⟨(some 29), none, .mov (.t 10)⟩, ⟨(some 30), none, .bin .geq (.t 29) (.c (.int .i64 0))⟩])
 (.cond (.t 30) .skip (.exit 2)))
 (.seq (.block 3 (.seq (.drawn [⟨(some 33), none, .mov (.t 0)⟩, ⟨(some 34), none, .mov (.t 6)⟩, ⟨(some 35), none, .mov (.t 0)⟩, ⟨(some 36), none, .mov (.t 6)⟩, ⟨(some 37), none, .mov (.t 10)⟩, ⟨(some 38), none, .bin .add (.t 36) (.t 37)⟩, ⟨(some 39), none, .mov (.t 0)⟩, ⟨(some 40), none, .mov (.t 6)⟩, ⟨(some 41), none, .mov (.t 10)⟩, ⟨(some 42), none, .bin .add (.t 40) (.t 41)⟩, ⟨(some 43), none, .iaddr 1 none (.t 39) (.t 42)⟩, ⟨(some 44), none, .load false 1 (.t 43)⟩, ⟨(some 45), none, .mov (.t 0)⟩, ⟨(some 46), none, .mov (.t 6)⟩, ⟨(some 47), none, .iaddr 1 none (.t 45) (.t 46)⟩, ⟨(some 48), none, .load false 1 (.t 47)⟩, ⟨(some 49), none, .iaddr 1 none (.t 33) (.t 34)⟩, ⟨none, none, .store 1 (.t 49) (.t 44)⟩, ⟨(some 50), none, .iaddr 1 none (.t 35) (.t 38)⟩, ⟨none, none, .store 1 (.t 50) (.t 48)⟩] [])
 (.ops [⟨(some 51), none, .mov (.t 0)⟩, ⟨(some 52), none, .mov (.t 7)⟩, ⟨(some 53), none, .mov (.t 10)⟩, ⟨(some 54), none, .mov (.t 6)⟩, ⟨(some 55), none, .call 123 [(.t 51), (.t 52), (.t 53), (.t 54)]⟩])))
 (.ops [⟨(some 31), none, .mov (.t 10)⟩, ⟨(some 32), none, .bin .sub (.t 31) (.c (.int .i64 1))⟩, ⟨(some 10), none, .mov (.t 32)⟩])))
/-- slices.heapSortOrdered[int] -/
def v105 : VFun := ⟨3, [], (.seq (.ops [⟨(some 11), none, .mov (.t 1)⟩, ⟨(some 6), none, .mov (.t 11)⟩])
 (.seq (.ops [⟨(some 7), none, .mov (.c (.int .i64 0))⟩])
 (.seq (.ops [⟨(some 12), none, .mov (.t 2)⟩, ⟨(some 13), none, .mov (.t 1)⟩, ⟨(some 14), none, .bin .sub (.t 12) (.t 13)⟩, ⟨(some 8), none, .mov (.t 14)⟩])
 (.seq (.seq (.ops [⟨(some 15), none, .mov (.t 8)⟩, ⟨(some 16), none, .bin .sub (.t 15) (.c (.int .i64 1))⟩, ⟨(some 17), none, .bin .quo (.t 16) (.c (.int .i64 2))⟩, ⟨(some 9), none, .mov (.t 17)⟩])
 (.block 0 (.loop b105_0)))
 (.seq (.ops [⟨(some 27), none, .mov (.t 8)⟩, ⟨(some 28), none, .bin .sub (.t 27) (.c (.int .i64 1))⟩, ⟨(some 10), none, .mov (.t 28)⟩])
 (.block 2 (.loop b105_1)))))))⟩
def b106_0 : VCode := (.seq (.seq (.ops [⟨(some 26), none, .mov (.t 9)⟩, ⟨(some 27), none, .mov (.t 1)⟩, ⟨(some 28), none, .mov (.t 6)⟩, ⟨(some 29), none, .bin .quo (.t 28) (.c (.int .i64 4))⟩, ⟨(some 30), none, .bin .mul (.t 29) (.c (.int .i64 2))⟩, ⟨(some 31), none, .bin .add (.t 27) (.t 30)⟩, ⟨(some 32), none, .bin .add (.t 31) (.c (.int .i64 1))⟩, ⟨(some 33), none, .bin .leq (.t 26) (.t 32)⟩])
 (.cond (.t 33) .skip (.exit 0)))
 (.seq (.block 1 (.seq (.ops [⟨(some 36), none, .call 125 [(.t 7)]⟩, ⟨(some 37), none, .mov (.t 8)⟩, ⟨(some 38), none, .bin .sub (.t 37) (.c (.int .u64 1))⟩, ⟨(some 39), none, .bin .and (.t 36) (.t 38)⟩, ⟨(some 40), none, .conv (.int .i64) (.t 39)⟩, ⟨(some 10), none, .mov (.t 40)⟩])
 (.seq (.seq (.ops [⟨(some 41), none, .mov (.t 10)⟩, ⟨(some 42), none, .mov (.t 6)⟩, ⟨(some 43), none, .bin .geq (.t 41) (.t 42)⟩])
 (.cond (.t 43) (.ops [⟨(some 44), none, .mov (.t 10)⟩, ⟨(some 45), none, .mov (.t 6)⟩, ⟨(some 46), none, .bin .sub (.t 44) (.t 45)⟩, ⟨(some 10), none, .mov (.t 46)⟩]) .skip))
 (.drawn [⟨(some 47), none, .mov (.t 0)⟩, ⟨(some 48), none, .mov (.t 9)⟩, ⟨(some 49), none, .mov (.t 0)⟩, ⟨(some 50), none, .mov (.t 1)⟩, ⟨(some 51), none, .mov (.t 10)⟩, ⟨(some 52), none, .bin .add (.t 50) (.t 51)⟩, ⟨(some 53), none, .mov (.t 0)⟩, ⟨(some 54), none, .mov (.t 1)⟩, ⟨(some 55), none, .mov (.t 10)⟩, ⟨(some 56), none, .bin .add (.t 54) (.t 55)⟩, ⟨(some 57), none, .iaddr 1 none (.t 53) (.t 56)⟩, ⟨(some 58), none, .load false 1 (.t 57)⟩, ⟨(some 59), none, .mov (.t 0)⟩, ⟨(some 60), none, .mov (.t 9)⟩, ⟨(some 61), none, .iaddr 1 none (.t 59) (.t 60)⟩, ⟨(some 62), none, .load false 1 (.t 61)⟩, ⟨(some 63), none, .iaddr 1 none (.t 47) (.t 48)⟩, ⟨none, none, .store 1 (.t 63) (.t 58)⟩, ⟨(some 64), none, .iaddr 1 none (.t 49) (.t 52)⟩, ⟨none, none, .store 1 (.t 64) (.t 62)⟩] []))))
 (.ops [⟨(some 34), none, .mov (.t 9)⟩, ⟨(some 35), none, .bin .add (.t 34) (.c (.int .i64 1))⟩, ⟨(some 9), none, .mov (.t 35)⟩])))
/-- slices.breakPatternsOrdered[int] -/
def v106 : VFun := ⟨3, [], (.seq (.ops [⟨(some 11), none, .mov (.t 2)⟩, ⟨(some 12), none, .mov (.t 1)⟩, ⟨(some 13), none, .bin .sub (.t 11) (.t 12)⟩, ⟨(some 6), none, .mov (.t 13)⟩])
 (.seq (.ops [⟨(some 14), none, .mov (.t 6)⟩, ⟨(some 15), none, .bin .geq (.t 14) (.c (.int .i64 8))⟩])
 (.cond (.t 15) (.seq (.ops [⟨(some 16), none, .mov (.t 6)⟩, ⟨(some 17), none, .conv (.int .u64) (.t 16)⟩, ⟨(some 7), none, .alloc [(.int .u64 0)] 164⟩, ⟨none, none, .store 1 (.t 7) (.t 17)⟩])
 (.seq (.ops [⟨(some 18), none, .mov (.t 6)⟩, ⟨(some 19), none, .call 124 [(.t 18)]⟩, ⟨(some 8), none, .mov (.t 19)⟩])
 (.seq (.ops [⟨(some 20), none, .mov (.t 1)⟩, ⟨(some 21), none, .mov (.t 6)⟩, ⟨(some 22), none, .bin .quo (.t 21) (.c (.int .i64 4))⟩, ⟨(some 23), none, .bin .mul (.t 22) (.c (.int .i64 2))⟩, ⟨(some 24), none, .bin .add (.t 20) (.t 23)⟩, ⟨(some 25), none, .bin .sub (.t 24) (.c (.int .i64 1))⟩, ⟨(some 9), none, .mov (.t 25)⟩])
 (.block 0 (.loop b106_0))))) .skip)))⟩
/-- slices.choosePivotOrdered[int] -/
def v107 : VFun := ⟨3, [(.tmp 6), (.tmp 7)], (.seq (.ops [⟨(some 6), none, .mov (.c (.int .i64 0))⟩, ⟨(some 7), none, .mov (.c (.int .i64 0))⟩])
 (.seq (.ops [⟨(some 13), none, .mov (.t 2)⟩, ⟨(some 14), none, .mov (.t 1)⟩, ⟨(some 15), none, .bin .sub (.t 13) (.t 14)⟩, ⟨(some 8), none, .mov (.t 15)⟩])
 (.seq (.ops [⟨(some 9), none, .alloc [(.int .i64 0)] 3⟩])
 (.seq (.ops [⟨(some 16), none, .mov (.t 1)⟩, ⟨(some 17), none, .mov (.t 8)⟩, ⟨(some 18), none, .bin .quo (.t 17) (.c (.int .i64 4))⟩, ⟨(some 19), none, .bin .mul (.t 18) (.c (.int .i64 1))⟩, ⟨(some 20), none, .bin .add (.t 16) (.t 19)⟩, ⟨(some 10), none, .mov (.t 20)⟩])
 (.seq (.ops [⟨(some 21), none, .mov (.t 1)⟩, ⟨(some 22), none, .mov (.t 8)⟩, ⟨(some 23), none, .bin .quo (.t 22) (.c (.int .i64 4))⟩, ⟨(some 24), none, .bin .mul (.t 23) (.c (.int .i64 2))⟩, ⟨(some 25), none, .bin .add (.t 21) (.t 24)⟩, ⟨(some 11), none, .mov (.t 25)⟩])
 (.seq (.ops [⟨(some 26), none, .mov (.t 1)⟩, ⟨(some 27), none, .mov (.t 8)⟩, ⟨(some 28), none, .bin .quo (.t 27) (.c (.int .i64 4))⟩, ⟨(some 29), none, .bin .mul (.t 28) (.c (.int .i64 3))⟩, ⟨(some 30), none, .bin .add (.t 26) (.t 29)⟩, ⟨(some 12), none, .mov (.t 30)⟩])
 (.seq (.seq (.ops [⟨(some 31), none, .mov (.t 8)⟩, ⟨(some 32), none, .bin .geq (.t 31) (.c (.int .i64 8))⟩])
 (.cond (.t 32) (.seq (.seq (.ops [⟨(some 33), none, .mov (.t 8)⟩, ⟨(some 34), none, .bin .geq (.t 33) (.c (.int .i64 50))⟩])
 (.cond (.t 34) (.seq (.ops [⟨(some 35), none, .mov (.t 0)⟩, ⟨(some 36), none, .mov (.t 10)⟩, ⟨(some 37), none, .call 126 [(.t 35), (.t 36), (.t 9)]⟩, ⟨(some 10), none, .mov (.t 37)⟩])
 (.seq (.ops [⟨(some 38), none, .mov (.t 0)⟩, ⟨(some 39), none, .mov (.t 11)⟩, ⟨(some 40), none, .call 126 [(.t 38), (.t 39), (.t 9)]⟩, ⟨(some 11), none, .mov (.t 40)⟩])
 (.ops [⟨(some 41), none, .mov (.t 0)⟩, ⟨(some 42), none, .mov (.t 12)⟩, ⟨(some 43), none, .call 126 [(.t 41), (.t 42), (.t 9)]⟩, ⟨(some 12), none, .mov (.t 43)⟩]))) .skip))
 (.ops [⟨(some 44), none, .mov (.t 0)⟩, ⟨(some 45), none, .mov (.t 10)⟩, ⟨(some 46), none, .mov (.t 11)⟩, ⟨(some 47), none, .mov (.t 12)⟩, ⟨(some 48), none, .call 127 [(.t 44), (.t 45), (.t 46), (.t 47), (.t 9)]⟩, ⟨(some 11), none, .mov (.t 48)⟩])) .skip))
 (.seq (.ops [⟨(some 49), none, .load false 1 (.t 9)⟩])
 (.block 0 (.seq (.ops [⟨(some 52), none, .bin .eql (.t 49) (.c (.int .i64 0))⟩, ⟨(some 51), none, .mov (.t 52)⟩])
 (.cond (.t 51) (.seq (.ops [⟨(some 53), none, .mov (.t 11)⟩, ⟨(some 6), none, .mov (.t 53)⟩, ⟨(some 7), none, .mov (.c (.int .i64 1))⟩])
 .ret) (.seq (.ops [⟨(some 55), none, .bin .eql (.t 49) (.c (.int .i64 12))⟩, ⟨(some 54), none, .mov (.t 55)⟩])
 (.cond (.t 54) (.seq (.ops [⟨(some 56), none, .mov (.t 11)⟩, ⟨(some 6), none, .mov (.t 56)⟩, ⟨(some 7), none, .mov (.c (.int .i64 2))⟩])
 .ret) (.seq (.ops [⟨(some 50), none, .mov (.t 11)⟩, ⟨(some 6), none, .mov (.t 50)⟩, ⟨(some 7), none, .mov (.c (.int .i64 0))⟩])
 .ret))))))))))))))⟩
def b108_0 : VCode := (.seq (.seq (.ops [⟨(some 11), none, .mov (.t 6)⟩, ⟨(some 12), none, .mov (.t 7)⟩, ⟨(some 13), none, .bin .lss (.t 11) (.t 12)⟩])
 (.cond (.t 13) .skip (.exit 0)))
 (.block 1 (.seq (.drawn [⟨(some 14), none, .mov (.t 0)⟩, ⟨(some 15), none, .mov (.t 6)⟩, ⟨(some 16), none, .mov (.t 0)⟩, ⟨(some 17), none, .mov (.t 7)⟩, ⟨(some 18), none, .mov (.t 0)⟩, ⟨(some 19), none, .mov (.t 7)⟩, ⟨(some 20), none, .iaddr 1 none (.t 18) (.t 19)⟩, ⟨(some 21), none, .load false 1 (.t 20)⟩, ⟨(some 22), none, .mov (.t 0)⟩, ⟨(some 23), none, .mov (.t 6)⟩, ⟨(some 24), none, .iaddr 1 none (.t 22) (.t 23)⟩, ⟨(some 25), none, .load false 1 (.t 24)⟩, ⟨(some 26), none, .iaddr 1 none (.t 14) (.t 15)⟩, ⟨none, none, .store 1 (.t 26) (.t 21)⟩, ⟨(some 27), none, .iaddr 1 none (.t 16) (.t 17)⟩, ⟨none, none, .store 1 (.t 27) (.t 25)⟩] [])
 (.seq (.ops [⟨(some 28), none, .mov (.t 6)⟩, ⟨(some 29), none, .bin .add (.t 28) (.c (.int .i64 1))⟩, ⟨(some 6), none, .mov (.t 29)⟩])
 (.ops [⟨(some 30), none, .mov (.t 7)⟩, ⟨(some 31), none, .bin .sub (.t 30) (.c (.int .i64 1))⟩, ⟨(some 7), none, .mov (.t 31)⟩])))))
/-- slices.reverseRangeOrdered[int] -/
def v108 : VFun := ⟨3, [], (.seq (.ops [⟨(some 8), none, .mov (.t 1)⟩, ⟨(some 6), none, .mov (.t 8)⟩])
 (.seq (.ops [⟨(some 9), none, .mov (.t 2)⟩, ⟨(some 10), none, .bin .sub (.t 9) (.c (.int .i64 1))⟩, ⟨(some 7), none, .mov (.t 10)⟩])
 (.block 0 (.loop b108_0))))⟩
def b109_0 : VCode := (.seq (.seq (.drawn [⟨(some 17), none, .mov (.t 7)⟩, ⟨(some 18), none, .mov (.t 2)⟩, ⟨(some 19), none, .bin .lss (.t 17) (.t 18)⟩, ⟨(some 20), none, .mov (.t 19)⟩, ⟨(some 21), (some (20, true)), .mov (.t 0)⟩, ⟨(some 22), (some (20, true)), .mov (.t 7)⟩, ⟨(some 23), (some (20, true)), .iaddr 1 none (.t 21) (.t 22)⟩, ⟨(some 24), (some (20, true)), .load false 1 (.t 23)⟩, ⟨(some 25), (some (20, true)), .mov (.t 0)⟩, ⟨(some 26), (some (20, true)), .mov (.t 7)⟩, ⟨(some 27), (some (20, true)), .bin .sub (.t 26) (.c (.int .i64 1))⟩, ⟨(some 28), (some (20, true)), .iaddr 1 none (.t 25) (.t 27)⟩, ⟨(some 29), (some (20, true)), .load false 1 (.t 28)⟩, ⟨(some 30), (some (20, true)), .call 101 [(.t 24), (.t 29)]⟩, ⟨(some 31), (some (20, true)), .un .not (.t 30)⟩, ⟨(some 32), none, .pick (.t 20) (.t 31) (.c (.bool false))⟩] [])
 (.cond (.t 32) .skip (.exit 2)))
 (.block 3 (.ops [⟨(some 33), none, .mov (.t 7)⟩, ⟨(some 34), none, .bin .add (.t 33) (.c (.int .i64 1))⟩, ⟨(some 7), none, .mov (.t 34)⟩])))
def b109_1 : VCode := (.seq (.seq (.ops [⟨(some 64), none, .mov (.t 9)⟩, ⟨(some 65), none, .bin .geq (.t 64) (.c (.int .i64 1))⟩])
 (.cond (.t 65) .skip (.exit 4)))
 (.seq (.block 5 (.seq (.seq (.drawn [⟨(some 68), none, .mov (.t 0)⟩, ⟨(some 69), none, .mov (.t 9)⟩, ⟨(some 70), none, .iaddr 1 none (.t 68) (.t 69)⟩, ⟨(some 71), none, .load false 1 (.t 70)⟩, ⟨(some 72), none, .mov (.t 0)⟩, ⟨(some 73), none, .mov (.t 9)⟩, ⟨(some 74), none, .bin .sub (.t 73) (.c (.int .i64 1))⟩, ⟨(some 75), none, .iaddr 1 none (.t 72) (.t 74)⟩, ⟨(some 76), none, .load false 1 (.t 75)⟩, ⟨(some 77), none, .call 101 [(.t 71), (.t 76)]⟩, ⟨(some 78), none, .un .not (.t 77)⟩] [])
 (.cond (.t 78) (.exit 4) .skip))
 (.drawn [⟨(some 79), none, .mov (.t 0)⟩, ⟨(some 80), none, .mov (.t 9)⟩, ⟨(some 81), none, .mov (.t 0)⟩, ⟨(some 82), none, .mov (.t 9)⟩, ⟨(some 83), none, .bin .sub (.t 82) (.c (.int .i64 1))⟩, ⟨(some 84), none, .mov (.t 0)⟩, ⟨(some 85), none, .mov (.t 9)⟩, ⟨(some 86), none, .bin .sub (.t 85) (.c (.int .i64 1))⟩, ⟨(some 87), none, .iaddr 1 none (.t 84) (.t 86)⟩, ⟨(some 88), none, .load false 1 (.t 87)⟩, ⟨(some 89), none, .mov (.t 0)⟩, ⟨(some 90), none, .mov (.t 9)⟩, ⟨(some 91), none, .iaddr 1 none (.t 89) (.t 90)⟩, ⟨(some 92), none, .load false 1 (.t 91)⟩, ⟨(some 93), none, .iaddr 1 none (.t 79) (.t 80)⟩, ⟨none, none, .store 1 (.t 93) (.t 88)⟩, ⟨(some 94), none, .iaddr 1 none (.t 81) (.t 83)⟩, ⟨none, none, .store 1 (.t 94) (.t 92)⟩] [])))
 (.ops [⟨(some 66), none, .mov (.t 9)⟩, ⟨(some 67), none, .bin .sub (.t 66) (.c (.int .i64 1))⟩, ⟨(some 9), none, .mov (.t 67)⟩])))
def b109_2 : VCode := (.seq (.seq (.ops [⟨(some 101), none, .mov (.t 10)⟩, ⟨(some 102), none, .mov (.t 2)⟩, ⟨(some 103), none, .bin .lss (.t 101) (.t 102)⟩])
 (.cond (.t 103) .skip (.exit 6)))
 (.seq (.block 7 (.seq (.seq (.drawn [⟨(some 106), none, .mov (.t 0)⟩, ⟨(some 107), none, .mov (.t 10)⟩, ⟨(some 108), none, .iaddr 1 none (.t 106) (.t 107)⟩, ⟨(some 109), none, .load false 1 (.t 108)⟩, ⟨(some 110), none, .mov (.t 0)⟩, ⟨(some 111), none, .mov (.t 10)⟩, ⟨(some 112), none, .bin .sub (.t 111) (.c (.int .i64 1))⟩, ⟨(some 113), none, .iaddr 1 none (.t 110) (.t 112)⟩, ⟨(some 114), none, .load false 1 (.t 113)⟩, ⟨(some 115), none, .call 101 [(.t 109), (.t 114)]⟩, ⟨(some 116), none, .un .not (.t 115)⟩] [])
 (.cond (.t 116) (.exit 6) .skip))
 (.drawn [⟨(some 117), none, .mov (.t 0)⟩, ⟨(some 118), none, .mov (.t 10)⟩, ⟨(some 119), none, .mov (.t 0)⟩, ⟨(some 120), none, .mov (.t 10)⟩, ⟨(some 121), none, .bin .sub (.t 120) (.c (.int .i64 1))⟩, ⟨(some 122), none, .mov (.t 0)⟩, ⟨(some 123), none, .mov (.t 10)⟩, ⟨(some 124), none, .bin .sub (.t 123) (.c (.int .i64 1))⟩, ⟨(some 125), none, .iaddr 1 none (.t 122) (.t 124)⟩, ⟨(some 126), none, .load false 1 (.t 125)⟩, ⟨(some 127), none, .mov (.t 0)⟩, ⟨(some 128), none, .mov (.t 10)⟩, ⟨(some 129), none, .iaddr 1 none (.t 127) (.t 128)⟩, ⟨(some 130), none, .load false 1 (.t 129)⟩, ⟨(some 131), none, .iaddr 1 none (.t 117) (.t 118)⟩, ⟨none, none, .store 1 (.t 131) (.t 126)⟩, ⟨(some 132), none, .iaddr 1 none (.t 119) (.t 121)⟩, ⟨none, none, .store 1 (.t 132) (.t 130)⟩] [])))
 (.ops [⟨(some 104), none, .mov (.t 10)⟩, ⟨(some 105), none, .bin .add (.t 104) (.c (.int .i64 1))⟩, ⟨(some 10), none, .mov (.t 105)⟩])))
def b109_3 : VCode := (.seq (.seq (.ops [⟨(some 13), none, .mov (.t 8)⟩, ⟨(some 14), none, .bin .lss (.t 13) (.c (.int .i64 5))⟩])
 (.cond (.t 14) .skip (.exit 0)))
 (.seq (.block 1 (.seq (.block 2 (.loop b109_0))
 (.seq (.seq (.ops [⟨(some 35), none, .mov (.t 7)⟩, ⟨(some 36), none, .mov (.t 2)⟩, ⟨(some 37), none, .bin .eql (.t 35) (.t 36)⟩])
 (.cond (.t 37) (.seq (.ops [⟨(some 6), none, .mov (.c (.bool true))⟩])
 .ret) .skip))
 (.seq (.seq (.ops [⟨(some 38), none, .mov (.t 2)⟩, ⟨(some 39), none, .mov (.t 1)⟩, ⟨(some 40), none, .bin .sub (.t 38) (.t 39)⟩, ⟨(some 41), none, .bin .lss (.t 40) (.c (.int .i64 50))⟩])
 (.cond (.t 41) (.seq (.ops [⟨(some 6), none, .mov (.c (.bool false))⟩])
 .ret) .skip))
 (.seq (.drawn [⟨(some 42), none, .mov (.t 0)⟩, ⟨(some 43), none, .mov (.t 7)⟩, ⟨(some 44), none, .mov (.t 0)⟩, ⟨(some 45), none, .mov (.t 7)⟩, ⟨(some 46), none, .bin .sub (.t 45) (.c (.int .i64 1))⟩, ⟨(some 47), none, .mov (.t 0)⟩, ⟨(some 48), none, .mov (.t 7)⟩, ⟨(some 49), none, .bin .sub (.t 48) (.c (.int .i64 1))⟩, ⟨(some 50), none, .iaddr 1 none (.t 47) (.t 49)⟩, ⟨(some 51), none, .load false 1 (.t 50)⟩, ⟨(some 52), none, .mov (.t 0)⟩, ⟨(some 53), none, .mov (.t 7)⟩, ⟨(some 54), none, .iaddr 1 none (.t 52) (.t 53)⟩, ⟨(some 55), none, .load false 1 (.t 54)⟩, ⟨(some 56), none, .iaddr 1 none (.t 42) (.t 43)⟩, ⟨none, none, .store 1 (.t 56) (.t 51)⟩, ⟨(some 57), none, .iaddr 1 none (.t 44) (.t 46)⟩, ⟨none, none, .store 1 (.t 57) (.t 55)⟩] [])
 (.seq (.seq (.ops [⟨(some 58), none, .mov (.t 7)⟩, ⟨(some 59), none, .mov (.t 1)⟩, ⟨(some 60), none, .bin .sub (.t 58) (.t 59)⟩, ⟨(some 61), none, .bin .geq (.t 60) (.c (.int .i64 2))⟩])
 (.cond (.t 61) (.seq (.ops [⟨(some 62), none, .mov (.t 7)⟩, ⟨(some 63), none, .bin .sub (.t 62) (.c (.int .i64 1))⟩, ⟨(some 9), none, .mov (.t 63)⟩])
 (.block 4 (.loop b109_1))) .skip))
 (.seq (.ops [⟨(some 95), none, .mov (.t 2)⟩, ⟨(some 96), none, .mov (.t 7)⟩, ⟨(some 97), none, .bin .sub (.t 95) (.t 96)⟩, ⟨(some 98), none, .bin .geq (.t 97) (.c (.int .i64 2))⟩])
 (.cond (.t 98) (.seq (.ops [⟨(some 99), none, .mov (.t 7)⟩, ⟨(some 100), none, .bin .add (.t 99) (.c (.int .i64 1))⟩, ⟨(some 10), none, .mov (.t 100)⟩])
 (.block 6 (.loop b109_2))) .skip))))))))
 (.ops [⟨(some 15), none, .mov (.t 8)⟩, ⟨(some 16), none, .bin .add (.t 15) (.c (.int .i64 1))⟩, ⟨(some 8), none, .mov (.t 16)⟩])))
/-- slices.partialInsertionSortOrdered[int] -/
def v109 : VFun := ⟨3, [(.tmp 6)], (.seq (.ops [⟨(some 6), none, .mov (.c (.bool false))⟩])
 (.seq (.ops [⟨(some 11), none, .mov (.t 1)⟩, ⟨(some 12), none, .bin .add (.t 11) (.c (.int .i64 1))⟩, ⟨(some 7), none, .mov (.t 12)⟩])
 (.seq (.seq (.ops [⟨(some 8), none, .mov (.c (.int .i64 0))⟩])
 (.block 0 (.loop b109_3)))
 (.seq (.ops [⟨(some 6), none, .mov (.c (.bool false))⟩])
 .ret))))⟩
def b110_0 : VCode := (.seq (.seq (.drawn [⟨(some 29), none, .mov (.t 9)⟩, ⟨(some 30), none, .mov (.t 10)⟩, ⟨(some 31), none, .bin .leq (.t 29) (.t 30)⟩, ⟨(some 32), none, .mov (.t 31)⟩, ⟨(some 33), (some (32, true)), .mov (.t 0)⟩, ⟨(some 34), (some (32, true)), .mov (.t 1)⟩, ⟨(some 35), (some (32, true)), .iaddr 1 none (.t 33) (.t 34)⟩, ⟨(some 36), (some (32, true)), .load false 1 (.t 35)⟩, ⟨(some 37), (some (32, true)), .mov (.t 0)⟩, ⟨(some 38), (some (32, true)), .mov (.t 9)⟩, ⟨(some 39), (some (32, true)), .iaddr 1 none (.t 37) (.t 38)⟩, ⟨(some 40), (some (32, true)), .load false 1 (.t 39)⟩, ⟨(some 41), (some (32, true)), .call 101 [(.t 36), (.t 40)]⟩, ⟨(some 42), (some (32, true)), .un .not (.t 41)⟩, ⟨(some 43), none, .pick (.t 32) (.t 42) (.c (.bool false))⟩] [])
 (.cond (.t 43) .skip (.exit 2)))
 (.block 3 (.ops [⟨(some 44), none, .mov (.t 9)⟩, ⟨(some 45), none, .bin .add (.t 44) (.c (.int .i64 1))⟩, ⟨(some 9), none, .mov (.t 45)⟩])))
def b110_1 : VCode := (.seq (.seq (.drawn [⟨(some 46), none, .mov (.t 9)⟩, ⟨(some 47), none, .mov (.t 10)⟩, ⟨(some 48), none, .bin .leq (.t 46) (.t 47)⟩, ⟨(some 49), none, .mov (.t 48)⟩, ⟨(some 50), (some (49, true)), .mov (.t 0)⟩, ⟨(some 51), (some (49, true)), .mov (.t 1)⟩, ⟨(some 52), (some (49, true)), .iaddr 1 none (.t 50) (.t 51)⟩, ⟨(some 53), (some (49, true)), .load false 1 (.t 52)⟩, ⟨(some 54), (some (49, true)), .mov (.t 0)⟩, ⟨(some 55), (some (49, true)), .mov (.t 10)⟩, ⟨(some 56), (some (49, true)), .iaddr 1 none (.t 54) (.t 55)⟩, ⟨(some 57), (some (49, true)), .load false 1 (.t 56)⟩, ⟨(some 58), (some (49, true)), .call 101 [(.t 53), (.t 57)]⟩, ⟨(some 59), none, .pick (.t 49) (.t 58) (.c (.bool false))⟩] [])
 (.cond (.t 59) .skip (.exit 4)))
 (.block 5 (.ops [⟨(some 60), none, .mov (.t 10)⟩, ⟨(some 61), none, .bin .sub (.t 60) (.c (.int .i64 1))⟩, ⟨(some 10), none, .mov (.t 61)⟩])))
def b110_2 : VCode := (.block 1 (.seq (.block 2 (.loop b110_0))
 (.seq (.block 4 (.loop b110_1))
 (.seq (.seq (.ops [⟨(some 62), none, .mov (.t 9)⟩, ⟨(some 63), none, .mov (.t 10)⟩, ⟨(some 64), none, .bin .gtr (.t 62) (.t 63)⟩])
 (.cond (.t 64) (.exit 0) .skip))
 (.seq (.drawn [⟨(some 65), none, .mov (.t 0)⟩, ⟨(some 66), none, .mov (.t 9)⟩, ⟨(some 67), none, .mov (.t 0)⟩, ⟨(some 68), none, .mov (.t 10)⟩, ⟨(some 69), none, .mov (.t 0)⟩, ⟨(some 70), none, .mov (.t 10)⟩, ⟨(some 71), none, .iaddr 1 none (.t 69) (.t 70)⟩, ⟨(some 72), none, .load false 1 (.t 71)⟩, ⟨(some 73), none, .mov (.t 0)⟩, ⟨(some 74), none, .mov (.t 9)⟩, ⟨(some 75), none, .iaddr 1 none (.t 73) (.t 74)⟩, ⟨(some 76), none, .load false 1 (.t 75)⟩, ⟨(some 77), none, .iaddr 1 none (.t 65) (.t 66)⟩, ⟨none, none, .store 1 (.t 77) (.t 72)⟩, ⟨(some 78), none, .iaddr 1 none (.t 67) (.t 68)⟩, ⟨none, none, .store 1 (.t 78) (.t 76)⟩] [])
 (.seq (.ops [⟨(some 79), none, .mov (.t 9)⟩, ⟨(some 80), none, .bin .add (.t 79) (.c (.int .i64 1))⟩, ⟨(some 9), none, .mov (.t 80)⟩])
 (.ops [⟨(some 81), none, .mov (.t 10)⟩, ⟨(some 82), none, .bin .sub (.t 81) (.c (.int .i64 1))⟩, ⟨(some 10), none, .mov (.t 82)⟩])))))))
/-- slices.partitionEqualOrdered[int] -/
def v110 : VFun := ⟨4, [(.tmp 8)], (.seq (.ops [⟨(some 8), none, .mov (.c (.int .i64 0))⟩])
 (.seq (.drawn [⟨(some 11), none, .mov (.t 0)⟩, ⟨(some 12), none, .mov (.t 1)⟩, ⟨(some 13), none, .mov (.t 0)⟩, ⟨(some 14), none, .mov (.t 3)⟩, ⟨(some 15), none, .mov (.t 0)⟩, ⟨(some 16), none, .mov (.t 3)⟩, ⟨(some 17), none, .iaddr 1 none (.t 15) (.t 16)⟩, ⟨(some 18), none, .load false 1 (.t 17)⟩, ⟨(some 19), none, .mov (.t 0)⟩, ⟨(some 20), none, .mov (.t 1)⟩, ⟨(some 21), none, .iaddr 1 none (.t 19) (.t 20)⟩, ⟨(some 22), none, .load false 1 (.t 21)⟩, ⟨(some 23), none, .iaddr 1 none (.t 11) (.t 12)⟩, ⟨none, none, .store 1 (.t 23) (.t 18)⟩, ⟨(some 24), none, .iaddr 1 none (.t 13) (.t 14)⟩, ⟨none, none, .store 1 (.t 24) (.t 22)⟩] [])
 (.seq (.ops [⟨(some 25), none, .mov (.t 1)⟩, ⟨(some 26), none, .bin .add (.t 25) (.c (.int .i64 1))⟩, ⟨(some 27), none, .mov (.t 2)⟩, ⟨(some 28), none, .bin .sub (.t 27) (.c (.int .i64 1))⟩, ⟨(some 9), none, .mov (.t 26)⟩, ⟨(some 10), none, .mov (.t 28)⟩])
 (.seq (.block 0 (.loop b110_2))
 (.seq (.ops [⟨(some 83), none, .mov (.t 9)⟩, ⟨(some 8), none, .mov (.t 83)⟩])
 .ret)))))⟩
def b111_0 : VCode := (.seq (.seq (.drawn [⟨(some 30), none, .mov (.t 10)⟩, ⟨(some 31), none, .mov (.t 11)⟩, ⟨(some 32), none, .bin .leq (.t 30) (.t 31)⟩, ⟨(some 33), none, .mov (.t 32)⟩, ⟨(some 34), (some (33, true)), .mov (.t 0)⟩, ⟨(some 35), (some (33, true)), .mov (.t 10)⟩, ⟨(some 36), (some (33, true)), .iaddr 1 none (.t 34) (.t 35)⟩, ⟨(some 37), (some (33, true)), .load false 1 (.t 36)⟩, ⟨(some 38), (some (33, true)), .mov (.t 0)⟩, ⟨(some 39), (some (33, true)), .mov (.t 1)⟩, ⟨(some 40), (some (33, true)), .iaddr 1 none (.t 38) (.t 39)⟩, ⟨(some 41), (some (33, true)), .load false 1 (.t 40)⟩, ⟨(some 42), (some (33, true)), .call 101 [(.t 37), (.t 41)]⟩, ⟨(some 43), none, .pick (.t 33) (.t 42) (.c (.bool false))⟩] [])
 (.cond (.t 43) .skip (.exit 0)))
 (.block 1 (.ops [⟨(some 44), none, .mov (.t 10)⟩, ⟨(some 45), none, .bin .add (.t 44) (.c (.int .i64 1))⟩, ⟨(some 10), none, .mov (.t 45)⟩])))
def b111_1 : VCode := (.seq (.seq (.drawn [⟨(some 46), none, .mov (.t 10)⟩, ⟨(some 47), none, .mov (.t 11)⟩, ⟨(some 48), none, .bin .leq (.t 46) (.t 47)⟩, ⟨(some 49), none, .mov (.t 48)⟩, ⟨(some 50), (some (49, true)), .mov (.t 0)⟩, ⟨(some 51), (some (49, true)), .mov (.t 11)⟩, ⟨(some 52), (some (49, true)), .iaddr 1 none (.t 50) (.t 51)⟩, ⟨(some 53), (some (49, true)), .load false 1 (.t 52)⟩, ⟨(some 54), (some (49, true)), .mov (.t 0)⟩, ⟨(some 55), (some (49, true)), .mov (.t 1)⟩, ⟨(some 56), (some (49, true)), .iaddr 1 none (.t 54) (.t 55)⟩, ⟨(some 57), (some (49, true)), .load false 1 (.t 56)⟩, ⟨(some 58), (some (49, true)), .call 101 [(.t 53), (.t 57)]⟩, ⟨(some 59), (some (49, true)), .un .not (.t 58)⟩, ⟨(some 60), none, .pick (.t 49) (.t 59) (.c (.bool false))⟩] [])
 (.cond (.t 60) .skip (.exit 2)))
 (.block 3 (.ops [⟨(some 61), none, .mov (.t 11)⟩, ⟨(some 62), none, .bin .sub (.t 61) (.c (.int .i64 1))⟩, ⟨(some 11), none, .mov (.t 62)⟩])))
def b111_2 : VCode := (.seq (.seq (.drawn [⟨(some 99), none, .mov (.t 10)⟩, ⟨(some 100), none, .mov (.t 11)⟩, ⟨(some 101), none, .bin .leq (.t 99) (.t 100)⟩, ⟨(some 102), none, .mov (.t 101)⟩, ⟨(some 103), (some (102, true)), .mov (.t 0)⟩, ⟨(some 104), (some (102, true)), .mov (.t 10)⟩, ⟨(some 105), (some (102, true)), .iaddr 1 none (.t 103) (.t 104)⟩, ⟨(some 106), (some (102, true)), .load false 1 (.t 105)⟩, ⟨(some 107), (some (102, true)), .mov (.t 0)⟩, ⟨(some 108), (some (102, true)), .mov (.t 1)⟩, ⟨(some 109), (some (102, true)), .iaddr 1 none (.t 107) (.t 108)⟩, ⟨(some 110), (some (102, true)), .load false 1 (.t 109)⟩, ⟨(some 111), (some (102, true)), .call 101 [(.t 106), (.t 110)]⟩, ⟨(some 112), none, .pick (.t 102) (.t 111) (.c (.bool false))⟩] [])
 (.cond (.t 112) .skip (.exit 6)))
 (.block 7 (.ops [⟨(some 113), none, .mov (.t 10)⟩, ⟨(some 114), none, .bin .add (.t 113) (.c (.int .i64 1))⟩, ⟨(some 10), none, .mov (.t 114)⟩])))
def b111_3 : VCode := (.seq (.seq (.drawn [⟨(some 115), none, .mov (.t 10)⟩, ⟨(some 116), none, .mov (.t 11)⟩, ⟨(some 117), none, .bin .leq (.t 115) (.t 116)⟩, ⟨(some 118), none, .mov (.t 117)⟩, ⟨(some 119), (some (118, true)), .mov (.t 0)⟩, ⟨(some 120), (some (118, true)), .mov (.t 11)⟩, ⟨(some 121), (some (118, true)), .iaddr 1 none (.t 119) (.t 120)⟩, ⟨(some 122), (some (118, true)), .load false 1 (.t 121)⟩, ⟨(some 123), (some (118, true)), .mov (.t 0)⟩, ⟨(some 124), (some (118, true)), .mov (.t 1)⟩, ⟨(some 125), (some (118, true)), .iaddr 1 none (.t 123) (.t 124)⟩, ⟨(some 126), (some (118, true)), .load false 1 (.t 125)⟩, ⟨(some 127), (some (118, true)), .call 101 [(.t 122), (.t 126)]⟩, ⟨(some 128), (some (118, true)), .un .not (.t 127)⟩, ⟨(some 129), none, .pick (.t 118) (.t 128) (.c (.bool false))⟩] [])
 (.cond (.t 129) .skip (.exit 8)))
 (.block 9 (.ops [⟨(some 130), none, .mov (.t 11)⟩, ⟨(some 131), none, .bin .sub (.t 130) (.c (.int .i64 1))⟩, ⟨(some 11), none, .mov (.t 131)⟩])))
def b111_4 : VCode := (.block 5 (.seq (.block 6 (.loop b111_2))
 (.seq (.block 8 (.loop b111_3))
 (.seq (.seq (.ops [⟨(some 132), none, .mov (.t 10)⟩, ⟨(some 133), none, .mov (.t 11)⟩, ⟨(some 134), none, .bin .gtr (.t 132) (.t 133)⟩])
 (.cond (.t 134) (.exit 4) .skip))
 (.seq (.drawn [⟨(some 135), none, .mov (.t 0)⟩, ⟨(some 136), none, .mov (.t 10)⟩, ⟨(some 137), none, .mov (.t 0)⟩, ⟨(some 138), none, .mov (.t 11)⟩, ⟨(some 139), none, .mov (.t 0)⟩, ⟨(some 140), none, .mov (.t 11)⟩, ⟨(some 141), none, .iaddr 1 none (.t 139) (.t 140)⟩, ⟨(some 142), none, .load false 1 (.t 141)⟩, ⟨(some 143), none, .mov (.t 0)⟩, ⟨(some 144), none, .mov (.t 10)⟩, ⟨(some 145), none, .iaddr 1 none (.t 143) (.t 144)⟩, ⟨(some 146), none, .load false 1 (.t 145)⟩, ⟨(some 147), none, .iaddr 1 none (.t 135) (.t 136)⟩, ⟨none, none, .store 1 (.t 147) (.t 142)⟩, ⟨(some 148), none, .iaddr 1 none (.t 137) (.t 138)⟩, ⟨none, none, .store 1 (.t 148) (.t 146)⟩] [])
 (.seq (.ops [⟨(some 149), none, .mov (.t 10)⟩, ⟨(some 150), none, .bin .add (.t 149) (.c (.int .i64 1))⟩, ⟨(some 10), none, .mov (.t 150)⟩])
 (.ops [⟨(some 151), none, .mov (.t 11)⟩, ⟨(some 152), none, .bin .sub (.t 151) (.c (.int .i64 1))⟩, ⟨(some 11), none, .mov (.t 152)⟩])))))))
/-- slices.partitionOrdered[int] -/
def v111 : VFun := ⟨4, [(.tmp 8), (.tmp 9)], (.seq (.ops [⟨(some 8), none, .mov (.c (.int .i64 0))⟩, ⟨(some 9), none, .mov (.c (.bool false))⟩])
 (.seq (.drawn [⟨(some 12), none, .mov (.t 0)⟩, ⟨(some 13), none, .mov (.t 1)⟩, ⟨(some 14), none, .mov (.t 0)⟩, ⟨(some 15), none, .mov (.t 3)⟩, ⟨(some 16), none, .mov (.t 0)⟩, ⟨(some 17), none, .mov (.t 3)⟩, ⟨(some 18), none, .iaddr 1 none (.t 16) (.t 17)⟩, ⟨(some 19), none, .load false 1 (.t 18)⟩, ⟨(some 20), none, .mov (.t 0)⟩, ⟨(some 21), none, .mov (.t 1)⟩, ⟨(some 22), none, .iaddr 1 none (.t 20) (.t 21)⟩, ⟨(some 23), none, .load false 1 (.t 22)⟩, ⟨(some 24), none, .iaddr 1 none (.t 12) (.t 13)⟩, ⟨none, none, .store 1 (.t 24) (.t 19)⟩, ⟨(some 25), none, .iaddr 1 none (.t 14) (.t 15)⟩, ⟨none, none, .store 1 (.t 25) (.t 23)⟩] [])
 (.seq (.ops [⟨(some 26), none, .mov (.t 1)⟩, ⟨(some 27), none, .bin .add (.t 26) (.c (.int .i64 1))⟩, ⟨(some 28), none, .mov (.t 2)⟩, ⟨(some 29), none, .bin .sub (.t 28) (.c (.int .i64 1))⟩, ⟨(some 10), none, .mov (.t 27)⟩, ⟨(some 11), none, .mov (.t 29)⟩])
 (.seq (.block 0 (.loop b111_0))
 (.seq (.block 2 (.loop b111_1))
 (.seq (.seq (.ops [⟨(some 63), none, .mov (.t 10)⟩, ⟨(some 64), none, .mov (.t 11)⟩, ⟨(some 65), none, .bin .gtr (.t 63) (.t 64)⟩])
 (.cond (.t 65) (.seq (.drawn [⟨(some 66), none, .mov (.t 0)⟩, ⟨(some 67), none, .mov (.t 11)⟩, ⟨(some 68), none, .mov (.t 0)⟩, ⟨(some 69), none, .mov (.t 1)⟩, ⟨(some 70), none, .mov (.t 0)⟩, ⟨(some 71), none, .mov (.t 1)⟩, ⟨(some 72), none, .iaddr 1 none (.t 70) (.t 71)⟩, ⟨(some 73), none, .load false 1 (.t 72)⟩, ⟨(some 74), none, .mov (.t 0)⟩, ⟨(some 75), none, .mov (.t 11)⟩, ⟨(some 76), none, .iaddr 1 none (.t 74) (.t 75)⟩, ⟨(some 77), none, .load false 1 (.t 76)⟩, ⟨(some 78), none, .iaddr 1 none (.t 66) (.t 67)⟩, ⟨none, none, .store 1 (.t 78) (.t 73)⟩, ⟨(some 79), none, .iaddr 1 none (.t 68) (.t 69)⟩, ⟨none, none, .store 1 (.t 79) (.t 77)⟩] [])
 (.seq (.ops [⟨(some 80), none, .mov (.t 11)⟩, ⟨(some 8), none, .mov (.t 80)⟩, ⟨(some 9), none, .mov (.c (.bool true))⟩])
 .ret)) .skip))
 (.seq (.drawn [⟨(some 81), none, .mov (.t 0)⟩, ⟨(some 82), none, .mov (.t 10)⟩, ⟨(some 83), none, .mov (.t 0)⟩, ⟨(some 84), none, .mov (.t 11)⟩, ⟨(some 85), none, .mov (.t 0)⟩, ⟨(some 86), none, .mov (.t 11)⟩, ⟨(some 87), none, .iaddr 1 none (.t 85) (.t 86)⟩, ⟨(some 88), none, .load false 1 (.t 87)⟩, ⟨(some 89), none, .mov (.t 0)⟩, ⟨(some 90), none, .mov (.t 10)⟩, ⟨(some 91), none, .iaddr 1 none (.t 89) (.t 90)⟩, ⟨(some 92), none, .load false 1 (.t 91)⟩, ⟨(some 93), none, .iaddr 1 none (.t 81) (.t 82)⟩, ⟨none, none, .store 1 (.t 93) (.t 88)⟩, ⟨(some 94), none, .iaddr 1 none (.t 83) (.t 84)⟩, ⟨none, none, .store 1 (.t 94) (.t 92)⟩] [])
 (.seq (.ops [⟨(some 95), none, .mov (.t 10)⟩, ⟨(some 96), none, .bin .add (.t 95) (.c (.int .i64 1))⟩, ⟨(some 10), none, .mov (.t 96)⟩])
 (.seq (.ops [⟨(some 97), none, .mov (.t 11)⟩, ⟨(some 98), none, .bin .sub (.t 97) (.c (.int .i64 1))⟩, ⟨(some 11), none, .mov (.t 98)⟩])
 (.seq (.block 4 (.loop b111_4))
 (.seq (.drawn [⟨(some 153), none, .mov (.t 0)⟩, ⟨(some 154), none, .mov (.t 11)⟩, ⟨(some 155), none, .mov (.t 0)⟩, ⟨(some 156), none, .mov (.t 1)⟩, ⟨(some 157), none, .mov (.t 0)⟩, ⟨(some 158), none, .mov (.t 1)⟩, ⟨(some 159), none, .iaddr 1 none (.t 157) (.t 158)⟩, ⟨(some 160), none, .load false 1 (.t 159)⟩, ⟨(some 161), none, .mov (.t 0)⟩, ⟨(some 162), none, .mov (.t 11)⟩, ⟨(some 163), none, .iaddr 1 none (.t 161) (.t 162)⟩, ⟨(some 164), none, .load false 1 (.t 163)⟩, ⟨(some 165), none, .iaddr 1 none (.t 153) (.t 154)⟩, ⟨none, none, .store 1 (.t 165) (.t 160)⟩, ⟨(some 166), none, .iaddr 1 none (.t 155) (.t 156)⟩, ⟨none, none, .store 1 (.t 166) (.t 164)⟩] [])
 (.seq (.ops [⟨(some 167), none, .mov (.t 11)⟩, ⟨(some 8), none, .mov (.t 167)⟩, ⟨(some 9), none, .mov (.c (.bool false))⟩])
 .ret))))))))))))⟩
/-- math/bits.Len32 -/
def v112 : VFun := ⟨1, [(.tmp 2)], (.seq (.ops [⟨(some 2), none, .mov (.c (.int .i64 0))⟩])
 (.seq (.seq (.ops [⟨(some 3), none, .mov (.t 0)⟩, ⟨(some 4), none, .bin .geq (.t 3) (.c (.int .u32 65536))⟩])
 (.cond (.t 4) (.seq (.ops [⟨(some 5), none, .mov (.t 0)⟩, ⟨(some 6), none, .bin .shr (.t 5) (.c (.int .u64 16))⟩, ⟨(some 0), none, .mov (.t 6)⟩])
 (.ops [⟨(some 2), none, .mov (.c (.int .i64 16))⟩])) .skip))
 (.seq (.seq (.ops [⟨(some 7), none, .mov (.t 0)⟩, ⟨(some 8), none, .bin .geq (.t 7) (.c (.int .u32 256))⟩])
 (.cond (.t 8) (.seq (.ops [⟨(some 9), none, .mov (.t 0)⟩, ⟨(some 10), none, .bin .shr (.t 9) (.c (.int .u64 8))⟩, ⟨(some 0), none, .mov (.t 10)⟩])
 (.ops [⟨(some 11), none, .mov (.t 2)⟩, ⟨(some 12), none, .bin .add (.t 11) (.c (.int .i64 8))⟩, ⟨(some 2), none, .mov (.t 12)⟩])) .skip))
 (.seq (.ops [⟨(some 13), none, .mov (.t 2)⟩, ⟨(some 14), none, .mov (.t 0)⟩, ⟨(some 15), none, .conv (.int .u8) (.t 14)⟩, ⟨(some 16), none, .indexS (.c (.str [0, 1, 2, 2, 3, 3, 3, 3, 4, 4, 4, 4, 4, 4, 4, 4, 5, 5, 5, 5, 5, 5, 5, 5, 5, 5, 5, 5, 5, 5, 5, 5, 6, 6, 6, 6, 6, 6, 6, 6, 6, 6, 6, 6, 6, 6, 6, 6, 6, 6, 6, 6, 6, 6, 6, 6, 6, 6, 6, 6, 6, 6, 6, 6, 7, 7, 7, 7, 7, 7, 7, 7, 7, 7, 7, 7, 7, 7, 7, 7, 7, 7, 7, 7, 7, 7, 7, 7, 7, 7, 7, 7, 7, 7, 7, 7, 7, 7, 7, 7, 7, 7, 7, 7, 7, 7, 7, 7, 7, 7, 7, 7, 7, 7, 7, 7, 7, 7, 7, 7, 7, 7, 7, 7, 7, 7, 7, 7, 8, 8, 8, 8, 8, 8, 8, 8, 8, 8, 8, 8, 8, 8, 8, 8, 8, 8, 8, 8, 8, 8, 8, 8, 8, 8, 8, 8, 8, 8, 8, 8, 8, 8, 8, 8, 8, 8, 8, 8, 8, 8, 8, 8, 8, 8, 8, 8, 8, 8, 8, 8, 8, 8, 8, 8, 8, 8, 8, 8, 8, 8, 8, 8, 8, 8, 8, 8, 8, 8, 8, 8, 8, 8, 8, 8, 8, 8, 8, 8, 8, 8, 8, 8, 8, 8, 8, 8, 8, 8, 8, 8, 8, 8, 8, 8, 8, 8, 8, 8, 8, 8, 8, 8, 8, 8, 8, 8, 8, 8, 8, 8, 8, 8, 8, 8, 8, 8, 8, 8, 8, 8, 8, 8, 8, 8, 8, 8])) (.t 15)⟩, ⟨(some 17), none, .conv (.int .i64) (.t 16)⟩, ⟨(some 18), none, .bin .add (.t 13) (.t 17)⟩, ⟨(some 2), none, .mov (.t 18)⟩])
 .ret))))⟩
/-- math/bits.Len64 -/
def v113 : VFun := ⟨1, [(.tmp 2)], (.seq (.ops [⟨(some 2), none, .mov (.c (.int .i64 0))⟩])
 (.seq (.seq (.ops [⟨(some 3), none, .mov (.t 0)⟩, ⟨(some 4), none, .bin .geq (.t 3) (.c (.int .u64 4294967296))⟩])
 (.cond (.t 4) (.seq (.ops [⟨(some 5), none, .mov (.t 0)⟩, ⟨(some 6), none, .bin .shr (.t 5) (.c (.int .u64 32))⟩, ⟨(some 0), none, .mov (.t 6)⟩])
 (.ops [⟨(some 2), none, .mov (.c (.int .i64 32))⟩])) .skip))
 (.seq (.seq (.ops [⟨(some 7), none, .mov (.t 0)⟩, ⟨(some 8), none, .bin .geq (.t 7) (.c (.int .u64 65536))⟩])
 (.cond (.t 8) (.seq (.ops [⟨(some 9), none, .mov (.t 0)⟩, ⟨(some 10), none, .bin .shr (.t 9) (.c (.int .u64 16))⟩, ⟨(some 0), none, .mov (.t 10)⟩])
 (.ops [⟨(some 11), none, .mov (.t 2)⟩, ⟨(some 12), none, .bin .add (.t 11) (.c (.int .i64 16))⟩, ⟨(some 2), none, .mov (.t 12)⟩])) .skip))
 (.seq (.seq (.ops [⟨(some 13), none, .mov (.t 0)⟩, ⟨(some 14), none, .bin .geq (.t 13) (.c (.int .u64 256))⟩])
 (.cond (.t 14) (.seq (.ops [⟨(some 15), none, .mov (.t 0)⟩, ⟨(some 16), none, .bin .shr (.t 15) (.c (.int .u64 8))⟩, ⟨(some 0), none, .mov (.t 16)⟩])
 (.ops [⟨(some 17), none, .mov (.t 2)⟩, ⟨(some 18), none, .bin .add (.t 17) (.c (.int .i64 8))⟩, ⟨(some 2), none, .mov (.t 18)⟩])) .skip))
 (.seq (.ops [⟨(some 19), none, .mov (.t 2)⟩, ⟨(some 20), none, .mov (.t 0)⟩, ⟨(some 21), none, .conv (.int .u8) (.t 20)⟩, ⟨(some 22), none, .indexS (.c (.str [0, 1, 2, 2, 3, 3, 3, 3, 4, 4, 4, 4, 4, 4, 4, 4, 5, 5, 5, 5, 5, 5, 5, 5, 5, 5, 5, 5, 5, 5, 5, 5, 6, 6, 6, 6, 6, 6, 6, 6, 6, 6, 6, 6, 6, 6, 6, 6, 6, 6, 6, 6, 6, 6, 6, 6, 6, 6, 6, 6, 6, 6, 6, 6, 7, 7, 7, 7, 7, 7, 7, 7, 7, 7, 7, 7, 7, 7, 7, 7, 7, 7, 7, 7, 7, 7, 7, 7, 7, 7, 7, 7, 7, 7, 7, 7, 7, 7, 7, 7, 7, 7, 7, 7, 7, 7, 7, 7, 7, 7, 7, 7, 7, 7, 7, 7, 7, 7, 7, 7, 7, 7, 7, 7, 7, 7, 7, 7, 8, 8, 8, 8, 8, 8, 8, 8, 8, 8, 8, 8, 8, 8, 8, 8, 8, 8, 8, 8, 8, 8, 8, 8, 8, 8, 8, 8, 8, 8, 8, 8, 8, 8, 8, 8, 8, 8, 8, 8, 8, 8, 8, 8, 8, 8, 8, 8, 8, 8, 8, 8, 8, 8, 8, 8, 8, 8, 8, 8, 8, 8, 8, 8, 8, 8, 8, 8, 8, 8, 8, 8, 8, 8, 8, 8, 8, 8, 8, 8, 8, 8, 8, 8, 8, 8, 8, 8, 8, 8, 8, 8, 8, 8, 8, 8, 8, 8, 8, 8, 8, 8, 8, 8, 8, 8, 8, 8, 8, 8, 8, 8, 8, 8, 8, 8, 8, 8, 8, 8, 8, 8, 8, 8, 8, 8, 8, 8])) (.t 21)⟩, ⟨(some 23), none, .conv (.int .i64) (.t 22)⟩, ⟨(some 24), none, .bin .add (.t 19) (.t 23)⟩, ⟨(some 2), none, .mov (.t 24)⟩])
 .ret)))))⟩
/-- cmp.isNaN[int] -/
def v121 : VFun := ⟨1, [(.tmp 2)], (.seq (.ops [⟨(some 2), none, .mov (.c (.bool false))⟩])
 (.seq (.ops [⟨(some 3), none, .mov (.t 0)⟩, ⟨(some 4), none, .mov (.t 0)⟩, ⟨(some 5), none, .bin .neq (.t 3) (.t 4)⟩, ⟨(some 2), none, .mov (.t 5)⟩])
 .ret))⟩
def b122_0 : VCode := (.seq (.seq (.ops [⟨(some 7), none, .mov (.t 2)⟩, ⟨(some 8), none, .mov (.t 3)⟩, ⟨(some 9), none, .bin .lss (.t 7) (.t 8)⟩])
 (.cond (.t 9) .skip (.exit 0)))
 (.seq (.block 1 (.drawn [⟨(some 14), none, .mov (.t 0)⟩, ⟨(some 15), none, .mov (.t 2)⟩, ⟨(some 16), none, .mov (.t 0)⟩, ⟨(some 17), none, .mov (.t 3)⟩, ⟨(some 18), none, .mov (.t 0)⟩, ⟨(some 19), none, .mov (.t 3)⟩, ⟨(some 20), none, .iaddr 1 none (.t 18) (.t 19)⟩, ⟨(some 21), none, .load false 1 (.t 20)⟩, ⟨(some 22), none, .mov (.t 0)⟩, ⟨(some 23), none, .mov (.t 2)⟩, ⟨(some 24), none, .iaddr 1 none (.t 22) (.t 23)⟩, ⟨(some 25), none, .load false 1 (.t 24)⟩, ⟨(some 26), none, .iaddr 1 none (.t 14) (.t 15)⟩, ⟨none, none, .store 1 (.t 26) (.t 21)⟩, ⟨(some 27), none, .iaddr 1 none (.t 16) (.t 17)⟩, ⟨none, none, .store 1 (.t 27) (.t 25)⟩] []))
 (.ops [⟨(some 10), none, .mov (.t 2)⟩, ⟨(some 11), none, .bin .add (.t 10) (.c (.int .i64 1))⟩, ⟨(some 12), none, .mov (.t 3)⟩, ⟨(some 13), none, .bin .sub (.t 12) (.c (.int .i64 1))⟩, ⟨(some 2), none, .mov (.t 11)⟩, ⟨(some 3), none, .mov (.t 13)⟩])))
/-- slices.Reverse[[]int,int] -/
def v122 : VFun := ⟨1, [], (.seq (.ops [⟨(some 4), none, .mov (.t 0)⟩, ⟨(some 5), none, .bi (.len 1) [(.t 4)]⟩, ⟨(some 6), none, .bin .sub (.t 5) (.c (.int .i64 1))⟩, ⟨(some 2), none, .mov (.c (.int .i64 0))⟩, ⟨(some 3), none, .mov (.t 6)⟩])
 (.block 0 (.loop b122_0)))⟩
def b123_0 : VCode := (.block 1 (.seq (.ops [⟨(some 11), none, .mov (.t 8)⟩, ⟨(some 12), none, .bin .mul (.c (.int .i64 2)) (.t 11)⟩, ⟨(some 13), none, .bin .add (.t 12) (.c (.int .i64 1))⟩, ⟨(some 9), none, .mov (.t 13)⟩])
 (.seq (.seq (.ops [⟨(some 14), none, .mov (.t 9)⟩, ⟨(some 15), none, .mov (.t 2)⟩, ⟨(some 16), none, .bin .geq (.t 14) (.t 15)⟩])
 (.cond (.t 16) (.exit 0) .skip))
 (.seq (.seq (.drawn [⟨(some 17), none, .mov (.t 9)⟩, ⟨(some 18), none, .bin .add (.t 17) (.c (.int .i64 1))⟩, ⟨(some 19), none, .mov (.t 2)⟩, ⟨(some 20), none, .bin .lss (.t 18) (.t 19)⟩, ⟨(some 21), none, .mov (.t 20)⟩, ⟨(some 22), (some (21, true)), .mov (.t 0)⟩, ⟨(some 23), (some (21, true)), .mov (.t 3)⟩, ⟨(some 24), (some (21, true)), .mov (.t 9)⟩, ⟨(some 25), (some (21, true)), .bin .add (.t 23) (.t 24)⟩, ⟨(some 26), (some (21, true)), .iaddr 1 none (.t 22) (.t 25)⟩, ⟨(some 27), (some (21, true)), .load false 1 (.t 26)⟩, ⟨(some 28), (some (21, true)), .mov (.t 0)⟩, ⟨(some 29), (some (21, true)), .mov (.t 3)⟩, ⟨(some 30), (some (21, true)), .mov (.t 9)⟩, ⟨(some 31), (some (21, true)), .bin .add (.t 29) (.t 30)⟩, ⟨(some 32), (some (21, true)), .bin .add (.t 31) (.c (.int .i64 1))⟩, ⟨(some 33), (some (21, true)), .iaddr 1 none (.t 28) (.t 32)⟩, ⟨(some 34), (some (21, true)), .load false 1 (.t 33)⟩, ⟨(some 35), (some (21, true)), .call 101 [(.t 27), (.t 34)]⟩, ⟨(some 36), none, .pick (.t 21) (.t 35) (.c (.bool false))⟩] [])
 (.cond (.t 36) (.ops [⟨(some 37), none, .mov (.t 9)⟩, ⟨(some 38), none, .bin .add (.t 37) (.c (.int .i64 1))⟩, ⟨(some 9), none, .mov (.t 38)⟩]) .skip))
 (.seq (.seq (.drawn [⟨(some 39), none, .mov (.t 0)⟩, ⟨(some 40), none, .mov (.t 3)⟩, ⟨(some 41), none, .mov (.t 8)⟩, ⟨(some 42), none, .bin .add (.t 40) (.t 41)⟩, ⟨(some 43), none, .iaddr 1 none (.t 39) (.t 42)⟩, ⟨(some 44), none, .load false 1 (.t 43)⟩, ⟨(some 45), none, .mov (.t 0)⟩, ⟨(some 46), none, .mov (.t 3)⟩, ⟨(some 47), none, .mov (.t 9)⟩, ⟨(some 48), none, .bin .add (.t 46) (.t 47)⟩, ⟨(some 49), none, .iaddr 1 none (.t 45) (.t 48)⟩, ⟨(some 50), none, .load false 1 (.t 49)⟩, ⟨(some 51), none, .call 101 [(.t 44), (.t 50)]⟩, ⟨(some 52), none, .un .not (.t 51)⟩] [])
 (.cond (.t 52) .ret .skip))
 (.seq (.drawn [⟨(some 53), none, .mov (.t 0)⟩, ⟨(some 54), none, .mov (.t 3)⟩, ⟨(some 55), none, .mov (.t 8)⟩, ⟨(some 56), none, .bin .add (.t 54) (.t 55)⟩, ⟨(some 57), none, .mov (.t 0)⟩, ⟨(some 58), none, .mov (.t 3)⟩, ⟨(some 59), none, .mov (.t 9)⟩, ⟨(some 60), none, .bin .add (.t 58) (.t 59)⟩, ⟨(some 61), none, .mov (.t 0)⟩, ⟨(some 62), none, .mov (.t 3)⟩, ⟨(some 63), none, .mov (.t 9)⟩, ⟨(some 64), none, .bin .add (.t 62) (.t 63)⟩, ⟨(some 65), none, .iaddr 1 none (.t 61) (.t 64)⟩, ⟨(some 66), none, .load false 1 (.t 65)⟩, ⟨(some 67), none, .mov (.t 0)⟩, ⟨(some 68), none, .mov (.t 3)⟩, ⟨(some 69), none, .mov (.t 8)⟩, ⟨(some 70), none, .bin .add (.t 68) (.t 69)⟩, ⟨(some 71), none, .iaddr 1 none (.t 67) (.t 70)⟩, ⟨(some 72), none, .load false 1 (.t 71)⟩, ⟨(some 73), none, .iaddr 1 none (.t 53) (.t 56)⟩, ⟨none, none, .store 1 (.t 73) (.t 66)⟩, ⟨(some 74), none, .iaddr 1 none (.t 57) (.t 60)⟩, ⟨none, none, .store 1 (.t 74) (.t 72)⟩] [])
 (.ops [⟨(some 75), none, .mov (.t 9)⟩, ⟨(some 8), none, .mov (.t 75)⟩])))))))
/-- slices.siftDownOrdered[int] -/
def v123 : VFun := ⟨4, [], (.seq (.ops [⟨(some 10), none, .mov (.t 1)⟩, ⟨(some 8), none, .mov (.t 10)⟩])
 (.block 0 (.loop b123_0)))⟩
/-- slices.nextPowerOfTwo -/
def v124 : VFun := ⟨1, [(.tmp 2)], (.seq (.ops [⟨(some 2), none, .mov (.c (.int .u64 0))⟩])
 (.seq (.ops [⟨(some 3), none, .mov (.t 0)⟩, ⟨(some 4), none, .conv (.int .u64) (.t 3)⟩, ⟨(some 5), none, .call 87 [(.t 4)]⟩, ⟨(some 6), none, .bin .shl (.c (.int .u64 1)) (.t 5)⟩, ⟨(some 2), none, .mov (.t 6)⟩])
 .ret))⟩
/-- (*slices.xorshift).Next -/
def v125 : VFun := ⟨1, [(.tmp 2)], (.seq (.ops [⟨(some 2), none, .mov (.c (.int .u64 0))⟩])
 (.seq (.drawn [⟨(some 3), none, .mov (.t 0)⟩, ⟨(some 4), none, .nilck (.t 3)⟩, ⟨(some 5), none, .load false 1 (.t 4)⟩, ⟨(some 6), none, .mov (.t 0)⟩, ⟨(some 7), none, .nilck (.t 6)⟩, ⟨(some 8), none, .load false 1 (.t 7)⟩, ⟨(some 9), none, .bin .shl (.t 8) (.c (.int .u64 13))⟩, ⟨(some 10), none, .bin .xor (.t 5) (.t 9)⟩, ⟨(some 11), none, .nilck (.t 3)⟩, ⟨none, none, .store 1 (.t 11) (.t 10)⟩] [])
 (.seq (.drawn [⟨(some 12), none, .mov (.t 0)⟩, ⟨(some 13), none, .nilck (.t 12)⟩, ⟨(some 14), none, .load false 1 (.t 13)⟩, ⟨(some 15), none, .mov (.t 0)⟩, ⟨(some 16), none, .nilck (.t 15)⟩, ⟨(some 17), none, .load false 1 (.t 16)⟩, ⟨(some 18), none, .bin .shr (.t 17) (.c (.int .u64 7))⟩, ⟨(some 19), none, .bin .xor (.t 14) (.t 18)⟩, ⟨(some 20), none, .nilck (.t 12)⟩, ⟨none, none, .store 1 (.t 20) (.t 19)⟩] [])
 (.seq (.drawn [⟨(some 21), none, .mov (.t 0)⟩, ⟨(some 22), none, .nilck (.t 21)⟩, ⟨(some 23), none, .load false 1 (.t 22)⟩, ⟨(some 24), none, .mov (.t 0)⟩, ⟨(some 25), none, .nilck (.t 24)⟩, ⟨(some 26), none, .load false 1 (.t 25)⟩, ⟨(some 27), none, .bin .shl (.t 26) (.c (.int .u64 17))⟩, ⟨(some 28), none, .bin .xor (.t 23) (.t 27)⟩, ⟨(some 29), none, .nilck (.t 21)⟩, ⟨none, none, .store 1 (.t 29) (.t 28)⟩] [])
 (.seq (.ops [⟨(some 30), none, .mov (.t 0)⟩, ⟨(some 31), none, .nilck (.t 30)⟩, ⟨(some 32), none, .load false 1 (.t 31)⟩, ⟨(some 2), none, .mov (.t 32)⟩])
 .ret)))))⟩
/-- slices.medianAdjacentOrdered[int] -/
def v126 : VFun := ⟨3, [(.tmp 6)], (.seq (.ops [⟨(some 6), none, .mov (.c (.int .i64 0))⟩])
 (.seq (.ops [⟨(some 7), none, .mov (.t 0)⟩, ⟨(some 8), none, .mov (.t 1)⟩, ⟨(some 9), none, .bin .sub (.t 8) (.c (.int .i64 1))⟩, ⟨(some 10), none, .mov (.t 1)⟩, ⟨(some 11), none, .mov (.t 1)⟩, ⟨(some 12), none, .bin .add (.t 11) (.c (.int .i64 1))⟩, ⟨(some 13), none, .mov (.t 2)⟩, ⟨(some 14), none, .call 127 [(.t 7), (.t 9), (.t 10), (.t 12), (.t 13)]⟩, ⟨(some 6), none, .mov (.t 14)⟩])
 .ret))⟩
/-- slices.medianOrdered[int] -/
def v127 : VFun := ⟨5, [(.tmp 10)], (.seq (.ops [⟨(some 10), none, .mov (.c (.int .i64 0))⟩])
 (.seq (.ops [⟨(some 12), none, .mov (.t 0)⟩, ⟨(some 13), none, .mov (.t 1)⟩, ⟨(some 14), none, .mov (.t 2)⟩, ⟨(some 15), none, .mov (.t 4)⟩, ⟨(some 16), none, .call 129 [(.t 12), (.t 13), (.t 14), (.t 15)]⟩, ⟨(some 11), none, .mov (.t 16)⟩, ⟨(some 17), none, .extract (.t 11) 0⟩, ⟨(some 18), none, .extract (.t 11) 1⟩, ⟨(some 1), none, .mov (.t 17)⟩, ⟨(some 2), none, .mov (.t 18)⟩])
 (.seq (.ops [⟨(some 20), none, .mov (.t 0)⟩, ⟨(some 21), none, .mov (.t 2)⟩, ⟨(some 22), none, .mov (.t 3)⟩, ⟨(some 23), none, .mov (.t 4)⟩, ⟨(some 24), none, .call 129 [(.t 20), (.t 21), (.t 22), (.t 23)]⟩, ⟨(some 19), none, .mov (.t 24)⟩, ⟨(some 25), none, .extract (.t 19) 0⟩, ⟨(some 26), none, .extract (.t 19) 1⟩, ⟨(some 2), none, .mov (.t 25)⟩, ⟨(some 3), none, .mov (.t 26)⟩])
 (.seq (.ops [⟨(some 28), none, .mov (.t 0)⟩, ⟨(some 29), none, .mov (.t 1)⟩, ⟨(some 30), none, .mov (.t 2)⟩, ⟨(some 31), none, .mov (.t 4)⟩, ⟨(some 32), none, .call 129 [(.t 28), (.t 29), (.t 30), (.t 31)]⟩, ⟨(some 27), none, .mov (.t 32)⟩, ⟨(some 33), none, .extract (.t 27) 0⟩, ⟨(some 34), none, .extract (.t 27) 1⟩, ⟨(some 1), none, .mov (.t 33)⟩, ⟨(some 2), none, .mov (.t 34)⟩])
 (.seq (.ops [⟨(some 35), none, .mov (.t 2)⟩, ⟨(some 10), none, .mov (.t 35)⟩])
 .ret)))))⟩
/-- slices.order2Ordered[int] -/
def v129 : VFun := ⟨4, [(.tmp 8), (.tmp 9)], (.seq (.ops [⟨(some 8), none, .mov (.c (.int .i64 0))⟩, ⟨(some 9), none, .mov (.c (.int .i64 0))⟩])
 (.seq (.seq (.drawn [⟨(some 10), none, .mov (.t 0)⟩, ⟨(some 11), none, .mov (.t 2)⟩, ⟨(some 12), none, .iaddr 1 none (.t 10) (.t 11)⟩, ⟨(some 13), none, .load false 1 (.t 12)⟩, ⟨(some 14), none, .mov (.t 0)⟩, ⟨(some 15), none, .mov (.t 1)⟩, ⟨(some 16), none, .iaddr 1 none (.t 14) (.t 15)⟩, ⟨(some 17), none, .load false 1 (.t 16)⟩, ⟨(some 18), none, .call 101 [(.t 13), (.t 17)]⟩] [])
 (.cond (.t 18) (.seq (.ops [⟨(some 19), none, .mov (.t 3)⟩, ⟨(some 20), none, .nilck (.t 19)⟩, ⟨(some 21), none, .load false 1 (.t 20)⟩, ⟨(some 22), none, .bin .add (.t 21) (.c (.int .i64 1))⟩, ⟨(some 23), none, .nilck (.t 19)⟩, ⟨none, none, .store 1 (.t 23) (.t 22)⟩])
 (.seq (.ops [⟨(some 24), none, .mov (.t 2)⟩, ⟨(some 25), none, .mov (.t 1)⟩, ⟨(some 8), none, .mov (.t 24)⟩, ⟨(some 9), none, .mov (.t 25)⟩])
 .ret)) .skip))
 (.seq (.ops [⟨(some 26), none, .mov (.t 1)⟩, ⟨(some 27), none, .mov (.t 2)⟩, ⟨(some 8), none, .mov (.t 26)⟩, ⟨(some 9), none, .mov (.t 27)⟩])
 .ret)))⟩
def tab : Nat → Option VFun := tableOf [(7, v7), (17, v17), (19, v19), (30, v30), (31, v31), (32, v32), (33, v33), (34, v34), (35, v35), (39, v39), (58, v58), (59, v59), (60, v60), (61, v61), (63, v63), (64, v64), (65, v65), (82, v82), (83, v83), (85, v85), (86, v86), (87, v87), (101, v101), (102, v102), (103, v103), (104, v104), (105, v105), (106, v106), (107, v107), (108, v108), (109, v109), (110, v110), (111, v111), (112, v112), (113, v113), (121, v121), (122, v122), (123, v123), (124, v124), (125, v125), (126, v126), (127, v127), (129, v129)]
end Go.Proofs.Ythmkenkjfmbkiaa.VM
set_option linter.unusedSimpArgs false
set_option linter.unusedVariables false
set_option linter.defProp false
set_option maxHeartbeats 1000000
namespace Go.Proofs.Ythmkenkjfmbkiaa.VM
attribute [local irreducible] Af Nx EvO Ev Un Gd Cd EvR EvQ EvC Nc Gc Lp EvM NxM AfM GdM EvMR EvMQ EvMD EvMC Nm Gm
section
variable {P : Program}
def coordOk (x : Int) : Prop := 0 ≤ x ∧ x ≤ 4294967295
instance (x : Int) : Decidable (coordOk x) := by unfold coordOk; infer_instance
def ptOk (p : Pt) : Prop := coordOk p.x ∧ coordOk p.y
instance (p : Pt) : Decidable (ptOk p) := by unfold ptOk; infer_instance
def mpAt (nodes : Int) (m : Mp) (i : Nat) : Prop := m.starts.getD i 0 < 4294967296 ∧ (i = 0 ∨ m.starts.getD (i - 1) 0 < m.starts.getD i 0) ∧ 0 ≤ m.owners.getD i 0 ∧ m.owners.getD i 0 < nodes
def mpOk (nodes : Int) (m : Mp) : Prop := 1 ≤ nodes ∧ nodes ≤ 8 ∧ 1 ≤ m.epoch ∧ m.epoch ≤ 65535 ∧ 1 ≤ m.starts.length ∧ m.starts.length ≤ 32 ∧ m.owners.length = m.starts.length ∧ m.starts.getD 0 0 = 0 ∧ ∀ i, i < m.starts.length → mpAt nodes m i
theorem getInt {v : AV} {l : List Int} (h : IsL 8 RInt v l) (i : Nat) (hi : i < l.length) : ∃ r, AV.tolds r = true ∧ ∀ (hh : Heap) (kk : IntKind), iaV hh 1 none v (.int kk (i : Int)) = .val (.rp (.int .i64 (l.getD i 0) :: r)) hh := by
  obtain ⟨ci, r, ⟨e, _⟩, ht, hia⟩ := h.get zInt tInt i hi
  have : l.getD i 0 = l[i] := by simp [List.getD_eq_getElem?_getD, List.getElem?_eq_getElem hi]
  refine ⟨r, ?_, fun hh kk => ?_⟩
  · rw [e] at ht; exact ht
  · rw [hia, e, this]; rfl
theorem mapMay_loop (g : Pg P tab) {nodes : Int} {m : Mp} {v u : AV} (hv : IsL 8 RInt v m.starts) (hu : IsL 8 RInt u m.owners) (hl : m.owners.length = m.starts.length) (hh : Heap) {e : TypeId} {ver : Nat} (hg : hh.get 0 = some (.cells [.int .i64 m.epoch, v, u] e ver)) (n : Nat) :
    ∀ (i : Nat) (s : T AV) (k : List Fr) (Q : Ex → T AV → Heap → Prop), i + n = m.starts.length → sg s 1 = .int .i64 nodes → sg s 2 = .ptr 0 0 → sg s 52 = v → sg s 53 = .int .i64 m.starts.length → sg s 54 = .int .i64 i →
      ((∀ j, i ≤ j → j < m.starts.length → mpAt nodes m j) → ∀ s', Un P k Q (.exit 0) s' hh) → ((¬ ∀ j, i ≤ j → j < m.starts.length → mpAt nodes m j) → ∀ s', sg s' 4 = .bool false → Un P k Q .ret s' hh) → Lp P b35_0 s hh (Un P k Q) := by
  have hb := hv.bound (by decide)
  induction n with
  | zero =>
    intro i s k Q hi h1 h2 h52 h53 h54 hK hR
    refine g.lpe b35_0.eq_1 ?_
    have c1 : ¬ ((i : Int) < (m.starts.length : Int)) := by omega
    simp only [h54, h53, c1, RX, VOp.fresh, bxC, bsC, un, most, callsOf, seval, Int.reducePow, ↓reduceIte, Nat.reduceEqDiff, reduceCtorEq]
    exact hK (fun j h1 h2 => by omega) _
  | succ n ih =>
    intro i s k Q hi h1 h2 h52 h53 h54 hK hR
    refine g.lpe b35_0.eq_1 ?_
    have c1 : (i : Int) < (m.starts.length : Int) := by omega
    obtain ⟨r1, _, g1⟩ := getInt hv i (by omega)
    obtain ⟨r2, _, g2⟩ := getInt hu i (by omega)
    have w1 : IntKind.i64.wrap ((i : Int) + 1) = ((i + 1 : Nat) : Int) := by rw [w64 (by omega) (by omega)]; push_cast; rfl
    have next : mpAt nodes m i → ∀ s' : T AV, sg s' 1 = .int .i64 nodes → sg s' 2 = .ptr 0 0 → sg s' 52 = v → sg s' 53 = .int .i64 m.starts.length → sg s' 54 = .int .i64 ((i + 1 : Nat) : Int) → Lp P b35_0 s' hh (Un P k Q) := by
      intro hok s' a1 a2 a3 a4 a5
      refine ih (i + 1) s' k Q (by omega) a1 a2 a3 a4 a5 (fun hall => hK fun j h1 h2 => ?_) (fun hn => hR fun hall => hn fun j h1 h2 => hall j (by omega) h2)
      rcases Nat.lt_or_ge i j with h | h
      · exact hall j h h2
      · have : j = i := by omega
        subst this; exact hok
    have stop : ¬ mpAt nodes m i → ∀ s' : T AV, sg s' 4 = .bool false → Un P k Q .ret s' hh := fun hn => hR fun hall => hn (hall i (Nat.le_refl _) (by omega))
    by_cases hi0 : i = 0
    · have c2 : ¬ ((0 : Int) < (i : Int)) := by omega
      simp +contextual (maxSteps := 2000000) only [h1, h2, h52, h53, h54, c1, g1, g2, hg, w1, c2, RX, VOp.fresh, bxC, bsC, un, most, callsOf, seval, Int.reducePow, ↓reduceIte, Nat.reduceEqDiff, reduceCtorEq]
      repeat' (first | apply And.intro | intro _)
      all_goals first
        | (refine next ⟨by omega, by omega, by omega, by omega⟩ _ ?_ ?_ ?_ ?_ ?_ <;> simp only [h1, h2, h52, h53, sg_set, Nat.reduceEqDiff, ↓reduceIte]; done)
        | (refine stop (fun hok => ?_) _ (by simp only [sg_set, Nat.reduceEqDiff, ↓reduceIte]); obtain ⟨a1, a2, a3, a4⟩ := hok; omega)
    · have c2 : (0 : Int) < (i : Int) := by omega
      obtain ⟨r3, _, g3⟩ := getInt hv (i - 1) (by omega)
      have w2 : IntKind.i64.wrap ((i : Int) - 1) = ((i - 1 : Nat) : Int) := by rw [w64 (by omega) (by omega)]; omega
      simp +contextual (maxSteps := 2000000) only [h1, h2, h52, h53, h54, c1, g1, g2, g3, hg, w1, w2, c2, RX, VOp.fresh, bxC, bsC, un, most, callsOf, seval, Int.reducePow, ↓reduceIte, Nat.reduceEqDiff, reduceCtorEq]
      repeat' (first | apply And.intro | intro _)
      all_goals first
        | (refine next ⟨by omega, by omega, by omega, by omega⟩ _ ?_ ?_ ?_ ?_ ?_ <;> simp only [h1, h2, h52, h53, sg_set, Nat.reduceEqDiff, ↓reduceIte]; done)
        | (refine stop (fun hok => ?_) _ (by simp only [sg_set, Nat.reduceEqDiff, ↓reduceIte]); obtain ⟨a1, a2, a3, a4⟩ := hok; omega)
theorem mapMay_pu (g : Pg P tab) {nodes : Int} {m : Mp} {v u : AV} (hv : IsL 8 RInt v m.starts) (hu : IsL 8 RInt u m.owners) : Pu P 35 [.agg [.int .i64 m.epoch, v, u], .int .i64 nodes] (IsB (mpOk nodes m)) := by
  refine g.pu (vf := v35) rfl rfl ?_
  have hb := hv.bound (by decide)
  by_cases h0 : 0 < m.starts.length
  · obtain ⟨r1, _, g1⟩ := getInt hv 0 h0
    simp only [Int.natCast_zero, Int.ofNat_zero, Int.ofNat_eq_natCast] at g1
    simp +contextual (maxSteps := 2000000) only [v35, hv.len, hu.len, g1, RX, VOp.fresh, bxC, bsC, un, most, callsOf, seval, Int.reducePow, ↓reduceIte, Nat.reduceEqDiff, reduceCtorEq]
    repeat' (first | apply And.intro | intro _)
    all_goals first
      | (rename_i hok; unfold mpOk at hok; omega)
      | skip
    refine mapMay_loop (nodes := nodes) g hv hu (by omega) _ (e := 24) (ver := 0) ?_ m.starts.length 0 _ _ _ (by omega) ?_ ?_ ?_ ?_ ?_ ?_ ?_
    · rw [Heap.get_mk, if_pos rfl]
    · simp only [sg_set, Nat.reduceEqDiff, ↓reduceIte]
    · simp only [sg_set, Nat.reduceEqDiff, ↓reduceIte]
    · simp only [sg_set, Nat.reduceEqDiff, ↓reduceIte]
    · simp only [sg_set, Nat.reduceEqDiff, ↓reduceIte]
    · simp only [sg_set, Nat.reduceEqDiff, ↓reduceIte]
      rfl
    · intro hall s'
      simp +contextual (maxSteps := 2000000) only [RX, VOp.fresh, bxC, bsC, un, most, callsOf, seval, Int.reducePow, ↓reduceIte, Nat.reduceEqDiff, reduceCtorEq]
      unfold mpOk
      exact ⟨by omega, by omega, by omega, by omega, by omega, by omega, by omega, by omega, fun i hi => hall i (by omega) hi⟩
    · intro hn s' h4
      simp +contextual (maxSteps := 2000000) only [h4, RX, VOp.fresh, bxC, bsC, un, most, callsOf, seval, Int.reducePow, ↓reduceIte, Nat.reduceEqDiff, reduceCtorEq]
      intro hok
      exact hn fun j _ hj => hok.2.2.2.2.2.2.2.2 j hj
  · have e0 : m.starts.length = 0 := by omega
    have c1 : ((m.starts.length : Int) < 1) := by omega
    simp +contextual (maxSteps := 2000000) only [v35, hv.len, hu.len, c1, RX, VOp.fresh, bxC, bsC, un, most, callsOf, seval, Int.reducePow, ↓reduceIte, Nat.reduceEqDiff, reduceCtorEq]
    repeat' (first | apply And.intro | intro _)
    all_goals (rename_i hok; unfold mpOk at hok; omega)
end
end Go.Proofs.Ythmkenkjfmbkiaa.VM
namespace Go.Proofs.Ythmkenkjfmbkiaa.VM
attribute [local irreducible] Af Nx EvO Ev Un Gd Cd EvR EvQ EvC Nc Gc Lp EvM NxM AfM GdM EvMR EvMQ EvMD EvMC Nm Gm
end Go.Proofs.Ythmkenkjfmbkiaa.VM
namespace Go.Proofs.Ythmkenkjfmbkiaa.VM
attribute [local irreducible] Af Nx EvO Ev Un Gd Cd EvR EvQ EvC Nc Gc Lp EvM NxM AfM GdM EvMR EvMQ EvMD EvMC Nm Gm
section
variable {P : Program}
theorem num_pu (g : Pg P tab) (n : Int) : Pu P 17 [.int .i64 n] (fun v => v = .int .i64 n) := by
  refine g.pu (vf := v17) rfl rfl ?_
  simp +contextual (maxSteps := 2000000) (disch := omega) only [v17, RX, VOp.fresh, bxC, bsC, un, most, callsOf, seval, Int.reducePow, ↓reduceIte, Nat.reduceEqDiff, reduceCtorEq]
end
end Go.Proofs.Ythmkenkjfmbkiaa.VM
namespace Go.Proofs.Ythmkenkjfmbkiaa.VM
attribute [local irreducible] Af Nx EvO Ev Un Gd Cd EvR EvQ EvC Nc Gc Lp EvM NxM AfM GdM EvMR EvMQ EvMD EvMC Nm Gm
end Go.Proofs.Ythmkenkjfmbkiaa.VM
namespace Go.Proofs.Ythmkenkjfmbkiaa.VM
attribute [local irreducible] Af Nx EvO Ev Un Gd Cd EvR EvQ EvC Nc Gc Lp EvM NxM AfM GdM EvMR EvMQ EvMD EvMC Nm Gm
theorem reach_eq : reachBytes = 140737488351232 := rfl
end Go.Proofs.Ythmkenkjfmbkiaa.VM
namespace Go.Proofs.Ythmkenkjfmbkiaa.VM
attribute [local irreducible] Af Nx EvO Ev Un Gd Cd EvR EvQ EvC Nc Gc Lp EvM NxM AfM GdM EvMR EvMQ EvMD EvMC Nm Gm
end Go.Proofs.Ythmkenkjfmbkiaa.VM
namespace Go.Proofs.Ythmkenkjfmbkiaa.VM
attribute [local irreducible] Af Nx EvO Ev Un Gd Cd EvR EvQ EvC Nc Gc Lp EvM NxM AfM GdM EvMR EvMQ EvMD EvMC Nm Gm
end Go.Proofs.Ythmkenkjfmbkiaa.VM
set_option linter.unusedSimpArgs false
set_option linter.unusedVariables false
set_option linter.defProp false
set_option maxHeartbeats 1000000
namespace Go.Proofs.Ythmkenkjfmbkiaa.VM
attribute [local irreducible] Af Nx EvO Ev Un Gd Cd EvR EvQ EvC Nc Gc Lp EvM NxM AfM GdM EvMR EvMQ EvMD EvMC Nm Gm
def Plain {α : Type} (R : α → List AV → Prop) (sz : Nat) : Prop := ∀ a c, R a c → c.length = sz ∧ c.all AV.one = true ∧ AV.tolds c = true ∧ AV.bares c = true
theorem Plain.cat {α : Type} {R : α → List AV → Prop} {sz : Nat} (p : Plain R sz) : ∀ {l : List α} {c : List AV}, Cat R l c → c.length = l.length * sz ∧ c.all AV.one = true ∧ AV.tolds c = true ∧ AV.bares c = true
  | _, _, .nil => ⟨by simp, rfl, rfl, rfl⟩
  | _, _, .cons h t => by
    obtain ⟨a1, a2, a3, a4⟩ := p _ _ h
    obtain ⟨b1, b2, b3, b4⟩ := p.cat t
    exact ⟨by rw [List.length_append, a1, b1, List.length_cons, Nat.add_mul]; omega, by rw [List.all_append, a2, b2]; rfl, by rw [Cat.told.tolds_append, a3, b3]; rfl, by rw [bares_app, a4, b4]; rfl⟩
section
variable {P : Program}
theorem Cat.take {α : Type} {R : α → List AV → Prop} {l : List α} {c d : List AV} {i : Nat} (hi : i < l.length) (h : Cat R (l.take i) c) (h' : R l[i] d) : Cat R (l.take (i + 1)) (c ++ d) := by
  rw [List.take_succ_eq_append_getElem hi]
  have := h.append (Cat.cons h' .nil)
  rwa [List.append_nil] at this
end
end Go.Proofs.Ythmkenkjfmbkiaa.VM
namespace Go.Proofs.Ythmkenkjfmbkiaa.VM
attribute [local irreducible] Af Nx EvO Ev Un Gd Cd EvR EvQ EvC Nc Gc Lp EvM NxM AfM GdM EvMR EvMQ EvMD EvMC Nm Gm
section
variable {P : Program}
theorem sInts_loop (g : Pg P tab) {l : List Int} {a b : AV} (ha : IsL 8 RInt a l) (hb : IsL 8 RInt b l) (n : Nat) :
    ∀ (i : Nat) (s : T AV) (hh : Heap) (k : List Fr) (Q : Ex → T AV → Heap → Prop), i + n = l.length → sg s 0 = a → sg s 1 = b → sg s 5 = .int .i64 i → (∀ s' h', Un P k Q (.exit 0) s' h') → Lp P b30_0 s hh (Un P k Q) := by
  have hbd := ha.bound (by decide)
  induction n with
  | zero =>
    intro i s hh k Q hi h0 h1 h5 hK
    refine g.lpe b30_0.eq_1 ?_
    have c1 : ¬ ((i : Int) < (l.length : Int)) := by omega
    simp only [h0, h5, ha.len, c1, RX, VOp.fresh, bxC, bsC, un, most, callsOf, seval, Int.reducePow, ↓reduceIte, Nat.reduceEqDiff, reduceCtorEq]
    exact hK _ _
  | succ n ih =>
    intro i s hh k Q hi h0 h1 h5 hK
    refine g.lpe b30_0.eq_1 ?_
    have c1 : (i : Int) < (l.length : Int) := by omega
    obtain ⟨r1, _, g1⟩ := getInt ha i (by omega)
    obtain ⟨r2, _, g2⟩ := getInt hb i (by omega)
    have w1 : IntKind.i64.wrap ((i : Int) + 1) = ((i + 1 : Nat) : Int) := by rw [w64 (by omega) (by omega)]; push_cast; rfl
    simp only [h0, h1, h5, ha.len, c1, g1, g2, w1, RX, VOp.fresh, bxC, bsC, un, most, callsOf, seval, Int.reducePow, ↓reduceIte, Nat.reduceEqDiff, reduceCtorEq]
    refine ih (i + 1) _ _ k Q (by omega) ?_ ?_ ?_ hK
    · simp only [h0, sg_set, Nat.reduceEqDiff, ↓reduceIte]
    · simp only [h1, sg_set, Nat.reduceEqDiff, ↓reduceIte]
    · simp only [sg_set, Nat.reduceEqDiff, ↓reduceIte]
theorem sInts_pu (g : Pg P tab) {l : List Int} {a b : AV} (ha : IsL 8 RInt a l) (hb : IsL 8 RInt b l) : Pu P 30 [a, b] (fun v => v = .bool true) := by
  refine g.pu (vf := v30) rfl rfl ?_
  simp only [v30, ha.len, hb.len, RX, VOp.fresh, bxC, bsC, un, most, callsOf, seval, Int.reducePow, ↓reduceIte, Nat.reduceEqDiff, reduceCtorEq]
  refine sInts_loop g ha hb l.length 0 _ _ _ _ (by omega) ?_ ?_ ?_ fun s' h' => ?_
  · simp only [sg_set, Nat.reduceEqDiff, ↓reduceIte]
  · simp only [sg_set, Nat.reduceEqDiff, ↓reduceIte]
  · simp only [sg_set, Nat.reduceEqDiff, ↓reduceIte]
    rfl
  simp only [RX, VOp.fresh, bxC, bsC, un, most, callsOf, seval, Int.reducePow, ↓reduceIte, Nat.reduceEqDiff, reduceCtorEq]
end
end Go.Proofs.Ythmkenkjfmbkiaa.VM
namespace Go.Proofs.Ythmkenkjfmbkiaa.VM
attribute [local irreducible] Af Nx EvO Ev Un Gd Cd EvR EvQ EvC Nc Gc Lp EvM NxM AfM GdM EvMR EvMQ EvMD EvMC Nm Gm
end Go.Proofs.Ythmkenkjfmbkiaa.VM
namespace Go.Proofs.Ythmkenkjfmbkiaa.VM
attribute [local irreducible] Af Nx EvO Ev Un Gd Cd EvR EvQ EvC Nc Gc Lp EvM NxM AfM GdM EvMR EvMQ EvMD EvMC Nm Gm
end Go.Proofs.Ythmkenkjfmbkiaa.VM
namespace Go.Proofs.Ythmkenkjfmbkiaa.VM
attribute [local irreducible] Af Nx EvO Ev Un Gd Cd EvR EvQ EvC Nc Gc Lp EvM NxM AfM GdM EvMR EvMQ EvMD EvMC Nm Gm
end Go.Proofs.Ythmkenkjfmbkiaa.VM
namespace Go.Proofs.Ythmkenkjfmbkiaa.VM
attribute [local irreducible] Af Nx EvO Ev Un Gd Cd EvR EvQ EvC Nc Gc Lp EvM NxM AfM GdM EvMR EvMQ EvMD EvMC Nm Gm
structure Bx where
  x0 : Int
  y0 : Int
  x1 : Int
  y1 : Int
def boxOk (b : Bx) : Prop := coordOk b.x0 ∧ coordOk b.y0 ∧ coordOk b.x1 ∧ coordOk b.y1 ∧ b.x0 ≤ b.x1 ∧ b.y0 ≤ b.y1
instance (b : Bx) : Decidable (boxOk b) := by unfold boxOk; infer_instance
def nodeOk (x : Int) : Prop := 0 ≤ x ∧ x < 8
instance (x : Int) : Decidable (nodeOk x) := by unfold nodeOk; infer_instance
section
variable {P : Program}
theorem isL_one {b : Nat} {α : Type} {R : α → List AV → Prop} {v : AV} {l : List α} (h : IsL b R v l) : v.one = true := by
  rcases h.2 with ⟨rfl, _⟩ | ⟨c, rfl, _⟩ <;> rfl
end
def zeroBox (b : Bx) : Prop := b.x0 = 0 ∧ b.y0 = 0 ∧ b.x1 = 0 ∧ b.y1 = 0
instance (b : Bx) : Decidable (zeroBox b) := by unfold zeroBox; infer_instance
end Go.Proofs.Ythmkenkjfmbkiaa.VM
namespace Go.Proofs.Ythmkenkjfmbkiaa.VM
attribute [local irreducible] Af Nx EvO Ev Un Gd Cd EvR EvQ EvC Nc Gc Lp EvM NxM AfM GdM EvMR EvMQ EvMD EvMC Nm Gm
end Go.Proofs.Ythmkenkjfmbkiaa.VM
namespace Go.Proofs.Ythmkenkjfmbkiaa.VM
attribute [local irreducible] Af Nx EvO Ev Un Gd Cd EvR EvQ EvC Nc Gc Lp EvM NxM AfM GdM EvMR EvMQ EvMD EvMC Nm Gm
end Go.Proofs.Ythmkenkjfmbkiaa.VM
namespace Go.Proofs.Ythmkenkjfmbkiaa.VM
attribute [local irreducible] Af Nx EvO Ev Un Gd Cd EvR EvQ EvC Nc Gc Lp EvM NxM AfM GdM EvMR EvMQ EvMD EvMC Nm Gm
end Go.Proofs.Ythmkenkjfmbkiaa.VM
namespace Go.Proofs.Ythmkenkjfmbkiaa.VM
attribute [local irreducible] Af Nx EvO Ev Un Gd Cd EvR EvQ EvC Nc Gc Lp EvM NxM AfM GdM EvMR EvMQ EvMD EvMC Nm Gm
/-- the stretch that has a place -/
def IxAt (l : List Int) (d : Int) (k : Nat) : Prop := k < l.length ∧ l.getD k 0 ≤ d ∧ (k + 1 < l.length → d < l.getD (k + 1) 0)
def Rise (l : List Int) : Prop := ∀ i, i + 1 < l.length → l.getD i 0 < l.getD (i + 1) 0
theorem Rise.lt {l : List Int} (h : Rise l) : ∀ {j i : Nat}, i < j → j < l.length → l.getD i 0 < l.getD j 0
  | 0, i, h1, _ => by omega
  | j + 1, i, h1, h2 => by
    have h3 := h j h2
    rcases Nat.lt_or_ge i j with h4 | h4
    · exact Int.lt_trans (Rise.lt h h4 (by omega)) h3
    · rw [show i = j by omega]; exact h3
theorem IxAt.uniq {l : List Int} {d : Int} {a b : Nat} (h : Rise l) (x : IxAt l d a) (y : IxAt l d b) : a = b := by
  obtain ⟨x1, x2, x3⟩ := x
  obtain ⟨y1, y2, y3⟩ := y
  rcases Nat.lt_trichotomy a b with c | c | c
  · have h1 := x3 (by omega)
    rcases Nat.lt_or_ge (a + 1) b with e | e
    · have := h.lt e y1; omega
    · have : a + 1 = b := by omega
      rw [this] at h1; omega
  · exact c
  · have h1 := y3 (by omega)
    rcases Nat.lt_or_ge (b + 1) a with e | e
    · have := h.lt e x1; omega
    · have : b + 1 = a := by omega
      rw [this] at h1; omega
section
variable {P : Program}
theorem nan121 (g : Pg P tab) (a : Int) : Pu P 121 [.int .i64 a] (fun v => v = .bool false) := by
  refine g.pu (vf := v121) rfl rfl ?_
  simp only [v121, RX, VOp.fresh, bxC, bsC, un, most, callsOf, seval, Int.reducePow, ↓reduceIte, Nat.reduceEqDiff, reduceCtorEq]
theorem nan102 (g : Pg P tab) (a : Int) : Pu P 102 [.int .i64 a] (fun v => v = .bool false) := by
  refine g.pu (vf := v102) rfl rfl ?_
  simp only [v102, RX, VOp.fresh, bxC, bsC, un, most, callsOf, seval, Int.reducePow, ↓reduceIte, Nat.reduceEqDiff, reduceCtorEq]
theorem less_pu (g : Pg P tab) (a b : Int) : Pu P 101 [.int .i64 a, .int .i64 b] (fun v => v = .bool (decide (a < b))) := by
  refine g.pu (vf := v101) rfl rfl ?_
  simp only [v101, RX, VOp.fresh, bxC, bsC, un, most, callsOf, seval, Int.reducePow, ↓reduceIte, Nat.reduceEqDiff, reduceCtorEq]
  refine (nan121 g _).go rfl ?_
  rintro v rfl
  simp only [RX, VOp.fresh, bxC, bsC, un, most, callsOf, seval, Int.reducePow, ↓reduceIte, Nat.reduceEqDiff, reduceCtorEq]
theorem bs_loop (g : Pg P tab) {l : List Int} {w : AV} (hw : IsL 8 RInt w l) (hr : Rise l) {d : Int} (n : Nat) : ∀ (i j : Nat) (s : T AV) (h : Heap) (k : List Fr) (Q : Ex → T AV → Heap → Prop), j ≤ i + n → i ≤ j → j ≤ l.length → (∀ a, a < i → l.getD a 0 < d) → (∀ a, j ≤ a → a < l.length → d ≤ l.getD a 0) →
    sg s 0 = w → sg s 1 = .int .i64 d → sg s 6 = .int .i64 l.length → sg s 7 = .int .i64 i → sg s 8 = .int .i64 j →
    (∀ s' m, m ≤ l.length → (∀ a, a < m → l.getD a 0 < d) → (∀ a, m ≤ a → a < l.length → d ≤ l.getD a 0) → sg s' 0 = w → sg s' 1 = .int .i64 d → sg s' 6 = .int .i64 l.length → sg s' 7 = .int .i64 m → Un P k Q (.exit 0) s' h) → Lp P b82_0 s h (Un P k Q) := by
  have hbd := hw.bound (by decide)
  induction n with
  | zero =>
    intro i j s h k Q hn hij hj hlo hhi t0 t1 t6 t7 t8 hQ
    refine g.lpe b82_0.eq_1 ?_
    obtain rfl : i = j := by omega
    have c1 : ¬ (i : Int) < (i : Int) := by omega
    simp only [t7, t8, c1, RX, VOp.fresh, bxC, bsC, un, most, callsOf, seval, Int.reducePow, ↓reduceIte, Nat.reduceEqDiff, reduceCtorEq]
    refine hQ _ i hj hlo hhi ?_ ?_ ?_ ?_
    · simp only [t0, sg_set, Nat.reduceEqDiff, ↓reduceIte]
    · simp only [t1, sg_set, Nat.reduceEqDiff, ↓reduceIte]
    · simp only [t6, sg_set, Nat.reduceEqDiff, ↓reduceIte]
    · simp only [t7, sg_set, Nat.reduceEqDiff, ↓reduceIte]
  | succ n ih =>
    intro i j s h k Q hn hij hj hlo hhi t0 t1 t6 t7 t8 hQ
    by_cases hlt : i < j
    · refine g.lpe b82_0.eq_1 ?_
      have c1 : (i : Int) < (j : Int) := by omega
      obtain ⟨m, hm⟩ : ∃ m : Nat, m = (i + j) / 2 := ⟨_, rfl⟩
      have w1 : IntKind.i64.wrap ((i : Int) + (j : Int)) = ((i + j : Nat) : Int) := by rw [w64 (by omega) (by omega)]; push_cast; rfl
      have w2 : IntKind.u64.wrap ((i + j : Nat) : Int) = ((i + j : Nat) : Int) := wu64 (by omega) (by omega)
      have w3 : ((i + j : Nat) : Int) / 2 = (m : Int) := by omega
      have w4 : IntKind.i64.wrap (m : Int) = (m : Int) := w64 (by omega) (by omega)
      have w5 : IntKind.i64.wrap ((m : Int) + 1) = ((m + 1 : Nat) : Int) := by rw [w64 (by omega) (by omega)]; push_cast; rfl
      obtain ⟨r, ht, hia⟩ := getInt hw m (by omega)
      simp only [t0, t1, t7, t8, c1, w1, w2, w3, w4, hia, RX, VOp.fresh, bxC, bsC, un, most, callsOf, seval, Int.reducePow, ↓reduceIte, Nat.reduceEqDiff, reduceCtorEq]
      refine (less_pu g _ _).go rfl ?_
      rintro v rfl
      by_cases hc : l.getD m 0 < d
      · simp only [hc, w5, RX, VOp.fresh, bxC, bsC, un, most, callsOf, seval, Int.reducePow, ↓reduceIte, Nat.reduceEqDiff, reduceCtorEq]
        refine ih (m + 1) j _ h k Q (by omega) (by omega) hj (fun a ha => ?_) hhi ?_ ?_ ?_ ?_ ?_ hQ
        · rcases Nat.lt_or_ge a m with e | e
          · exact Int.lt_trans (hr.lt e (by omega)) hc
          · rw [show a = m by omega]; exact hc
        · simp only [t0, sg_set, Nat.reduceEqDiff, ↓reduceIte]
        · simp only [t1, sg_set, Nat.reduceEqDiff, ↓reduceIte]
        · simp only [t6, sg_set, Nat.reduceEqDiff, ↓reduceIte]
        · simp only [sg_set, Nat.reduceEqDiff, ↓reduceIte]
        · simp only [t8, sg_set, Nat.reduceEqDiff, ↓reduceIte]
      · simp only [hc, RX, VOp.fresh, bxC, bsC, un, most, callsOf, seval, Int.reducePow, ↓reduceIte, Nat.reduceEqDiff, reduceCtorEq]
        refine ih i m _ h k Q (by omega) (by omega) (by omega) hlo (fun a ha hb => ?_) ?_ ?_ ?_ ?_ ?_ hQ
        · rcases Nat.lt_or_ge m a with e | e
          · have := hr.lt e hb; omega
          · rw [show a = m by omega]; omega
        · simp only [t0, sg_set, Nat.reduceEqDiff, ↓reduceIte]
        · simp only [t1, sg_set, Nat.reduceEqDiff, ↓reduceIte]
        · simp only [t6, sg_set, Nat.reduceEqDiff, ↓reduceIte]
        · simp only [t7, sg_set, Nat.reduceEqDiff, ↓reduceIte]
        · simp only [sg_set, Nat.reduceEqDiff, ↓reduceIte]
    · refine g.lpe b82_0.eq_1 ?_
      obtain rfl : i = j := by omega
      have c1 : ¬ (i : Int) < (i : Int) := by omega
      simp only [t7, t8, c1, RX, VOp.fresh, bxC, bsC, un, most, callsOf, seval, Int.reducePow, ↓reduceIte, Nat.reduceEqDiff, reduceCtorEq]
      refine hQ _ i hj hlo hhi ?_ ?_ ?_ ?_
      · simp only [t0, sg_set, Nat.reduceEqDiff, ↓reduceIte]
      · simp only [t1, sg_set, Nat.reduceEqDiff, ↓reduceIte]
      · simp only [t6, sg_set, Nat.reduceEqDiff, ↓reduceIte]
      · simp only [t7, sg_set, Nat.reduceEqDiff, ↓reduceIte]
theorem bs_pu (g : Pg P tab) {l : List Int} {w : AV} (hw : IsL 8 RInt w l) (hr : Rise l) (d : Int) : Pu P 82 [w, .int .i64 d] (fun v => ∃ (m : Nat) (f : Bool), v = .tup [.int .i64 m, .bool f] ∧ m ≤ l.length ∧ (∀ a, a < m → l.getD a 0 < d) ∧ (∀ a, m ≤ a → a < l.length → d ≤ l.getD a 0) ∧ (f = true ↔ m < l.length ∧ l.getD m 0 = d)) := by
  refine g.pu (vf := v82) rfl rfl ?_
  simp only [v82, hw.len, RX, VOp.fresh, bxC, bsC, un, most, callsOf, seval, Int.reducePow, ↓reduceIte, Nat.reduceEqDiff, reduceCtorEq]
  refine bs_loop g hw hr (d := d) l.length 0 l.length _ _ _ _ (by omega) (by omega) (Nat.le_refl _) (fun a ha => by omega) (fun a h1 h2 => by omega) ?_ ?_ ?_ ?_ ?_ ?_
  · simp only [sg_set, Nat.reduceEqDiff, ↓reduceIte]
  · simp only [sg_set, Nat.reduceEqDiff, ↓reduceIte]
  · simp only [sg_set, Nat.reduceEqDiff, ↓reduceIte]
  · simp only [sg_set, Nat.reduceEqDiff, ↓reduceIte]
    rfl
  · simp only [sg_set, Nat.reduceEqDiff, ↓reduceIte]
  intro s' m hm hlo hhi t0 t1 t6 t7
  have told : ∀ (m : Nat) (f : Bool) (hh : Heap) {R : AV → Prop}, R (.tup [.int .i64 m, .bool f]) → Tl hh (.tup [.int .i64 m, .bool f]) R := fun m f hh R r => ⟨_, .tup (.cons (.int _ _) (.cons (.bool _) .nil)), r⟩
  by_cases hml : m < l.length
  · have c1 : (m : Int) < (l.length : Int) := by omega
    obtain ⟨r, ht, hia⟩ := getInt hw m hml
    by_cases he : l.getD m 0 = d
    · simp only [t0, t1, t6, t7, c1, hia, he, RX, VOp.fresh, bxC, bsC, un, most, callsOf, seval, Int.reducePow, ↓reduceIte, Nat.reduceEqDiff, reduceCtorEq]
      exact told m true _ ⟨m, true, rfl, hm, hlo, hhi, ⟨fun _ => ⟨hml, he⟩, fun _ => rfl⟩⟩
    · simp only [t0, t1, t6, t7, c1, hia, he, RX, VOp.fresh, bxC, bsC, un, most, callsOf, seval, Int.reducePow, ↓reduceIte, Nat.reduceEqDiff, reduceCtorEq]
      refine (nan102 g _).go rfl ?_
      rintro v rfl
      simp only [RX, VOp.fresh, bxC, bsC, un, most, callsOf, seval, Int.reducePow, ↓reduceIte, Nat.reduceEqDiff, reduceCtorEq]
      exact told m false _ ⟨m, false, rfl, hm, hlo, hhi, ⟨fun c => (by cases c), fun c => absurd c.2 he⟩⟩
  · have c1 : ¬ (m : Int) < (l.length : Int) := by omega
    simp only [t0, t1, t6, t7, c1, RX, VOp.fresh, bxC, bsC, un, most, callsOf, seval, Int.reducePow, ↓reduceIte, Nat.reduceEqDiff, reduceCtorEq]
    exact told m false _ ⟨m, false, rfl, hm, hlo, hhi, ⟨fun c => (by cases c), fun c => absurd c.1 hml⟩⟩
theorem Cl.exact {f : Nat} {args : List AV} {h h2 : Heap} {a : AV} (c : Cl P f args h fun v h' => v = a ∧ h' = h2) : OK P f args h a h2 := by
  obtain ⟨v, h', o, rfl, rfl⟩ := c
  exact o
theorem at_ok (g : Pg P tab) {l : List Int} {w ep u : AV} (hw : IsL 8 RInt w l) (hr : Rise l) {d : Int} {k : Nat} (hk : IxAt l d k) {h : Heap} {b e ver : Nat} (hg : h.get b = some (.cells [ep, w, u] e ver)) : OK P 58 [.ptr b 0, .int .i64 d] h (.int .i64 k) h := by
  have hbd := hw.bound (by decide)
  refine Cl.exact ?_
  refine g.cl (vf := v58) rfl rfl ?_
  simp only [v58, hg, RX, VOp.fresh, bxC, bsC, un, most, callsOf, seval, Int.reducePow, ↓reduceIte, Nat.reduceEqDiff, reduceCtorEq]
  refine (bs_pu g hw hr d).go (by simp [AV.tolds, AV.told, hw.told tInt]) ?_
  rintro v ⟨m, f, rfl, hm, hlo, hhi, hf⟩
  obtain ⟨k1, k2, k3⟩ := hk
  cases f with
  | true =>
    obtain ⟨f1, f2⟩ := hf.1 rfl
    have : m = k := IxAt.uniq hr (d := d) ⟨f1, by omega, fun h => by have := hr m h; omega⟩ ⟨k1, k2, k3⟩
    subst this
    simp only [RX, VOp.fresh, bxC, bsC, un, most, callsOf, seval, Int.reducePow, ↓reduceIte, Nat.reduceEqDiff, reduceCtorEq]
  | false =>
    have hkm : k < m := by
      rcases Nat.lt_or_ge k m with e | e
      · exact e
      · exfalso
        have h1 := hhi k e k1
        have h2 : l.getD k 0 = d := by omega
        rcases Nat.lt_or_ge m k with e2 | e2
        · have := hhi m (Nat.le_refl _) (by omega)
          have := hr.lt e2 k1
          omega
        · have : m = k := by omega
          subst this
          have := hf.2 ⟨k1, h2⟩
          cases this
    have hmk : m = k + 1 := by
      rcases Nat.lt_or_ge (k + 1) m with e | e
      · have := hlo (k + 1) e
        have := k3 (by omega)
        omega
      · omega
    have w1 : IntKind.i64.wrap ((m : Int) - 1) = (k : Int) := by rw [w64 (by omega) (by omega)]; omega
    simp only [w1, RX, VOp.fresh, bxC, bsC, un, most, callsOf, seval, Int.reducePow, ↓reduceIte, Nat.reduceEqDiff, reduceCtorEq]
theorem ixAt_ex {l : List Int} (hr : Rise l) {d : Int} (h0 : 0 < l.length) (h1 : l.getD 0 0 ≤ d) : ∃ k, IxAt l d k := by
  have go : ∀ n i, i + n = l.length → i < l.length → l.getD i 0 ≤ d → ∃ k, IxAt l d k := by
    intro n
    induction n with
    | zero => intro i hi hl; omega
    | succ n ih =>
      intro i hi hl hd
      by_cases hc : i + 1 < l.length ∧ l.getD (i + 1) 0 ≤ d
      · exact ih (i + 1) (by omega) hc.1 hc.2
      · exact ⟨i, hl, hd, fun h => by
          rcases Int.lt_or_le d (l.getD (i + 1) 0) with e | e
          · exact e
          · exact absurd ⟨h, e⟩ hc⟩
  exact go l.length 0 (by omega) h0 h1
theorem mpOk.rise {nodes : Int} {m : Mp} (h : mpOk nodes m) : Rise m.starts := fun i hi => by
  have := h.2.2.2.2.2.2.2.2 (i + 1) hi
  unfold mpAt at this
  rcases this.2.1 with h | h
  · omega
  · exact h
end
end Go.Proofs.Ythmkenkjfmbkiaa.VM
namespace Go.Proofs.Ythmkenkjfmbkiaa.VM
attribute [local irreducible] Af Nx EvO Ev Un Gd Cd EvR EvQ EvC Nc Gc Lp EvM NxM AfM GdM EvMR EvMQ EvMD EvMC Nm Gm
abbrev ic (l : List Int) : List AV := l.map (.int .i64)
theorem ic_len (l : List Int) : (ic l).length = l.length := List.length_map _
theorem ic_one (l : List Int) : (ic l).all AV.one = true := by simp [ic, AV.one]
section
variable {P : Program}
theorem cat_int {l : List Int} {c : List AV} (h : Cat RInt l c) : c = ic l := by
  induction h with
  | nil => rfl
  | cons h t ih => rw [h.1, ih]; rfl
theorem owner_pu (g : Pg P tab) {m : Mp} {v u : AV} (hv : IsL 8 RInt v m.starts) (hu : IsL 8 RInt u m.owners) (d : Int) :
    (mpOk 8 m → 0 ≤ d → d < 4294967296 → ∀ k, IxAt m.starts d k → Pu P 33 [.agg [.int .i64 m.epoch, v, u], .int .i64 d] (fun x => x = .tup [.int .i64 (m.owners.getD k 0), .int .i64 0])) ∧
    (¬ (mpOk 8 m ∧ 0 ≤ d ∧ d < 4294967296) → Pu P 33 [.agg [.int .i64 m.epoch, v, u], .int .i64 d] (fun x => x = .tup [.int .i64 0, .int .i64 700])) := by
  have ht : AV.tolds [.agg [.int .i64 m.epoch, v, u], .int .i64 8] = true := by simp [AV.tolds, AV.told, hv.told tInt, hu.told tInt]
  constructor
  · intro ok d0 d1 k hk
    refine g.pu (vf := v33) rfl rfl ?_
    have c1 : ¬ d < 0 := by omega
    have c2 : ¬ 4294967296 ≤ d := by omega
    simp only [v33, RX, VOp.fresh, bxC, bsC, un, most, callsOf, seval, Int.reducePow, ↓reduceIte, Nat.reduceEqDiff, reduceCtorEq]
    refine (mapMay_pu g hv hu).go ht ?_
    rintro x ⟨b, rfl, hb⟩
    obtain rfl : b = true := hb.2 ok
    have o58 := at_ok g hv ok.rise hk (h := ({ next := 0, t := T.e } : Heap).mk' 0 (.cells [.int .i64 m.epoch, v, u] 24 0)) (b := 0) (by rw [Heap.get_mk, if_pos rfl])
    have hkl : k < m.owners.length := by rw [ok.2.2.2.2.2.2.1]; exact hk.1
    obtain ⟨r, ht', hia⟩ := getInt hu k hkl
    simp only [c1, c2, RX, VOp.fresh, bxC, bsC, un, most, callsOf, seval, Int.reducePow, ↓reduceIte, Nat.reduceEqDiff, reduceCtorEq]
    refine EvD.lk (fun _ _ h => (.int .i64 k, h)) ?_
    simp only [o58, hia, RX, VOp.fresh, bxC, bsC, un, most, callsOf, seval, Int.reducePow, ↓reduceIte, Nat.reduceEqDiff, reduceCtorEq]
    refine ⟨⟨?_, trivial⟩, trivial⟩
    show Lk _ _ _ _
    simp only [Lk, wanted, RX, VOp.fresh, bxC, bsC, un, most, callsOf, seval, Int.reducePow, ↓reduceIte, Nat.reduceEqDiff, reduceCtorEq]
  · intro no
    refine g.pu (vf := v33) rfl rfl ?_
    simp only [v33, RX, VOp.fresh, bxC, bsC, un, most, callsOf, seval, Int.reducePow, ↓reduceIte, Nat.reduceEqDiff, reduceCtorEq]
    refine (mapMay_pu g hv hu).go ht ?_
    rintro x ⟨b, rfl, hb⟩
    cases b
    · simp only [RX, VOp.fresh, bxC, bsC, un, most, callsOf, seval, Int.reducePow, ↓reduceIte, Nat.reduceEqDiff, reduceCtorEq]
    · have ok := hb.1 rfl
      by_cases c1 : d < 0
      · simp only [c1, RX, VOp.fresh, bxC, bsC, un, most, callsOf, seval, Int.reducePow, ↓reduceIte, Nat.reduceEqDiff, reduceCtorEq]
      · have c2 : 4294967296 ≤ d := by
          rcases Int.lt_or_le d 4294967296 with e | e
          · exact absurd ⟨ok, by omega, e⟩ no
          · exact e
        simp only [c1, c2, RX, VOp.fresh, bxC, bsC, un, most, callsOf, seval, Int.reducePow, ↓reduceIte, Nat.reduceEqDiff, reduceCtorEq]
/-- a row of numbers, told, as cells -/
theorem isL_cells {l : List Int} {w : AV} (hw : IsL 8 RInt w l) (hh : Heap) : lenV w = some l.length ∧ cellsOf hh 1 l.length w = some (ic l) := by
  rcases hw.2 with ⟨rfl, rfl⟩ | ⟨c, rfl, hc⟩
  · exact ⟨rfl, rfl⟩
  · refine ⟨rfl, ?_⟩
    rw [cat_int hc]
    simp only [cellsOf, Nat.mul_one]
    rw [cut_eq, List.drop_zero, List.take_of_length_le (by rw [ic_len]; exact Nat.le_refl _), if_pos (ic_len l)]
theorem clone_cl (g : Pg P tab) {l : List Int} {w : AV} (hw : IsL 8 RInt w l) (h0 : 0 < l.length) {h : Heap} {Q : AV → Heap → Prop} (q : ∀ h' b, h.next ≤ b → b < h'.next → (∃ e ver, h'.get b = some (.cells (ic l) e ver)) → Ext h h' → Q (.sl b 0 l.length l.length 1) h') : Cl P 83 [w] h Q := by
  refine g.cl (vf := v83) rfl rfl ?_
  have hne : eqv .sl w .nils = some false := by
    rcases hw.2 with ⟨rfl, rfl⟩ | ⟨c, rfl, hc⟩
    · simp at h0
    · rfl
  have x1 := Ext.mk (h := h) (.cells [] 3 0)
  have n1 : (h.mk' h.next (.cells [] 3 0)).next = h.next + 1 := by rw [mk_next]; omega
  obtain ⟨hl, hc⟩ := isL_cells hw (h.mk' h.next (.cells [] 3 0))
  have hm : l.length * 8 ≤ most2 := by have := hw.1; rw [reach_eq] at this; unfold most2; omega
  have hm0 : ¬ l.length ≤ 0 := by omega
  have hold : cellsOf (h.mk' h.next (.cells [] 3 0)) 1 0 (.sl h.next 0 0 0 1) = some [] := cells_of (by rw [Heap.get_mk, if_pos rfl]) rfl 0
  have ha : appendV (h.mk' h.next (.cells [] 3 0)) 1 8 3 (.sl h.next 0 0 0 1) w = some (.sl (h.next + 1) 0 l.length l.length 1, ((h.mk' h.next (.cells [] 3 0)).put h.next .dead).mk' (h.next + 1) (.cells (ic l) 3 0)) := by
    have o1 := ic_one l
    have il := ic_len l
    simp only [appendV, hl, hc, il, Nat.mul_one, o1, and_self, if_true, Nat.beq_refl, cond_true, hm0, if_false, hm, hold, n1, Nat.zero_add, List.nil_append]
  simp only [v83, HE, hne, ha, RX, VOp.fresh, bxC, bsC, un, most, callsOf, seval, Int.reducePow, ↓reduceIte, Nat.reduceEqDiff, reduceCtorEq]
  refine q _ _ (Nat.le_succ _) ?_ ⟨3, 0, ?_⟩ ⟨?_, fun b hb => ?_⟩
  · rw [mk_next, put_next, n1]; omega
  · rw [Heap.get_mk, if_pos rfl]
  · rw [mk_next, put_next, n1]; omega
  · rw [Heap.get_mk, if_neg (by omega), Heap.get_put, if_neg (by omega)]; exact x1.2 b hb
/-- a map of one's own -/
structure OMap (h : Heap) (N : Nat) (m : Mp) (sv ov : AV) : Prop where
  s : ∃ b e ver, sv = .sl b 0 m.starts.length m.starts.length 1 ∧ N ≤ b ∧ b < h.next ∧ h.get b = some (.cells (ic m.starts) e ver)
  o : ∃ b e ver, ov = .sl b 0 m.owners.length m.owners.length 1 ∧ N ≤ b ∧ b < h.next ∧ h.get b = some (.cells (ic m.owners) e ver)
  ne : blkOf sv ≠ blkOf ov
theorem mapCopy_cl (g : Pg P tab) {m : Mp} {v u : AV} (hv : IsL 8 RInt v m.starts) (hu : IsL 8 RInt u m.owners) (h0 : 0 < m.starts.length) (h1 : 0 < m.owners.length) {h : Heap} {Q : AV → Heap → Prop} (q : ∀ h' sv ov, OMap h' h.next m sv ov → Ext h h' → Q (.agg [.int .i64 m.epoch, sv, ov]) h') : Cl P 59 [.agg [.int .i64 m.epoch, v, u]] h Q := by
  refine g.cl (vf := v59) rfl rfl ?_
  have ov := isL_one hv
  have ou := isL_one hu
  simp only [v59, RX, VOp.fresh, bxC, bsC, un, most, callsOf, seval, Int.reducePow, ↓reduceIte, Nat.reduceEqDiff, reduceCtorEq]
  obtain ⟨_, h2, ok1, b1, rfl, p1, p2, ⟨e1, ver1, p3⟩, x1⟩ := clone_cl g hv h0 (h := (h.mk' h.next (.cells [.int .i64 m.epoch, v, u] 24 0)).mk' (h.next + 1) (.cells [.int .i64 0, .nils, .nils] 24 0)) (Q := fun v h' => ∃ b, v = .sl b 0 m.starts.length m.starts.length 1 ∧ _ ≤ b ∧ b < h'.next ∧ (∃ e ver, h'.get b = some (.cells (ic m.starts) e ver)) ∧ Ext _ h') (fun h' b a c d e => ⟨b, rfl, a, c, d, e⟩)
  obtain ⟨_, h3, ok2, b2, rfl, r1, r2, ⟨e2, ver2, r3⟩, x2⟩ := clone_cl g hu h1 (h := h2) (Q := fun v h' => ∃ b, v = .sl b 0 m.owners.length m.owners.length 1 ∧ _ ≤ b ∧ b < h'.next ∧ (∃ e ver, h'.get b = some (.cells (ic m.owners) e ver)) ∧ Ext _ h') (fun h' b a c d e => ⟨b, rfl, a, c, d, e⟩)
  have nH : ((h.mk' h.next (.cells [.int .i64 m.epoch, v, u] 24 0)).mk' (h.next + 1) (.cells [.int .i64 0, .nils, .nils] 24 0)).next = h.next + 2 := by rw [mk_next, mk_next]; omega
  rw [nH] at p1
  have x1n := x1.1
  rw [nH] at x1n
  have x2n := x2.1
  have n2 : ¬ h2.next = h.next + 2 := by omega
  have g0 : h2.get h.next = some (.cells [.int .i64 m.epoch, v, u] 24 0) := (x1.2 _ (by omega)).trans (by rw [Heap.get_mk, if_neg (by omega), Heap.get_mk, if_pos rfl])
  have g1 : h2.get (h.next + 1) = some (.cells [.int .i64 0, .nils, .nils] 24 0) := (x1.2 _ (by omega)).trans (by rw [Heap.get_mk, if_pos rfl])
  have g03 := (x2.2 h.next (by omega)).trans g0
  have g13 := (x2.2 (h.next + 1) (by omega)).trans g1
  have k3 : ∀ b, b < h.next → h3.get b = h.get b := fun b hb => by rw [x2.2 b (by omega), x1.2 b (by omega), Heap.get_mk, if_neg (by omega), Heap.get_mk, if_neg (by omega)]
  have pb1 := (x2.2 b1 (by omega)).trans p3
  refine EvD.lk (fun _ _ hh => if hh.next = h.next + 2 then (.sl b1 0 m.starts.length m.starts.length 1, h2) else (.sl b2 0 m.owners.length m.owners.length 1, h3)) ?_
  simp only [nH, n2, ok1, ok2, g0, g1, g03, g13, HN, RW, RX, VOp.fresh, bxC, bsC, un, most, callsOf, seval, Int.reducePow, ↓reduceIte, Nat.reduceEqDiff, reduceCtorEq]
  refine ⟨⟨⟨?_, trivial⟩, trivial⟩, ?_⟩
  · show Lk _ _ _ _
    simp only [Lk, wanted, HN, RX, VOp.fresh, bxC, bsC, un, most, callsOf, seval, Int.reducePow, ↓reduceIte, Nat.reduceEqDiff, reduceCtorEq]
  refine q _ _ _ ⟨⟨b1, e1, ver1, rfl, by omega, by rw [put_next, put_next, put_next]; omega, ?_⟩, ⟨b2, e2, ver2, rfl, by omega, by rw [put_next, put_next, put_next]; omega, ?_⟩, ?_⟩ ⟨by rw [put_next, put_next, put_next]; omega, fun b hb => ?_⟩
  · rw [Heap.get_put, if_neg (by omega), Heap.get_put, if_neg (by omega), Heap.get_put, if_neg (by omega)]; exact pb1
  · rw [Heap.get_put, if_neg (by omega), Heap.get_put, if_neg (by omega), Heap.get_put, if_neg (by omega)]; exact r3
  · simp only [blkOf, ne_eq, List.cons.injEq, and_true]; omega
  · rw [Heap.get_put, if_neg (by omega), Heap.get_put, if_neg (by omega), Heap.get_put, if_neg (by omega)]; exact k3 b hb
/-- a part of a row goes to the front -/
theorem del_cells {A B C z y : List AV} (hb : B.length = y.length) : (((A ++ B ++ C ++ z).take A.length ++ C ++ (A ++ B ++ C ++ z).drop (A.length + C.length)).take (A.length + C.length) ++ y ++ ((A ++ B ++ C ++ z).take A.length ++ C ++ (A ++ B ++ C ++ z).drop (A.length + C.length)).drop (A.length + C.length + y.length)) = A ++ C ++ (y ++ z) := by
  have e1 : (A ++ B ++ C ++ z).take A.length = A := by rw [List.append_assoc, List.append_assoc, List.take_left' rfl]
  rw [e1]
  have e2 : (A ++ C ++ (A ++ B ++ C ++ z).drop (A.length + C.length)).take (A.length + C.length) = A ++ C := List.take_left' (by rw [List.length_append])
  rw [e2]
  have e3 : (A ++ C ++ (A ++ B ++ C ++ z).drop (A.length + C.length)).drop (A.length + C.length + y.length) = z := by
    rw [← List.drop_drop, List.drop_left' (by rw [List.length_append]), List.drop_drop, show A.length + C.length + y.length = (A ++ B ++ C).length by simp only [List.length_append]; omega, List.drop_left' rfl]
  rw [e3, List.append_assoc]
theorem delI_cl (g : Pg P tab) {h : Heap} {b e ver : Nat} {l : List Int} {i : Nat} (hi : i < l.length) (hx : l.length ≤ 1000) (hb : b < h.next) (hg : h.get b = some (.cells (ic l) e ver)) {Q : AV → Heap → Prop}
    (q : ∀ h' ver', h'.next = h.next → (∀ c, c ≠ b → h'.get c = h.get c) → h'.get b = some (.cells (ic (l.eraseIdx i) ++ [AV.int .i64 0]) e ver') → Q (.sl b 0 (l.length - 1) l.length 1) h') : Cl P 61 [.sl b 0 l.length l.length 1, .int .i64 i, .int .i64 ((i + 1 : Nat) : Int)] h Q := by
  refine g.cl (vf := v61) rfl rfl ?_
  obtain ⟨n, hn⟩ : ∃ n, n = l.length := ⟨_, rfl⟩
  have s1 := slV3 (b := b) (off := 0) (len := l.length) (cap := l.length) (sz := 1) (k1 := .i64) (k2 := .i64) (k3 := .i64) (show i ≤ i + 1 by omega) (show i + 1 ≤ l.length by omega) (Nat.le_refl _)
  have s2 := slVhi (b := b) (off := 0) (len := l.length) (cap := l.length) (sz := 1) (k2 := .i64) (hi := i) (by omega)
  have s3 := slVlo (b := b) (off := 0) (len := l.length) (cap := l.length) (sz := 1) (k1 := .i64) (lo := i + 1) (by omega)
  have s4 := slV2 (b := b) (off := 0) (len := l.length - 1) (cap := l.length) (sz := 1) (k1 := .i64) (k2 := .i64) (lo := l.length - 1) (hi := l.length) (by omega) (by omega)
  have n1 : ¬ ((i : Int) = ((i + 1 : Nat) : Int)) := by omega
  obtain ⟨A, x, C, hl, hA⟩ : ∃ A x C, l = A ++ x :: C ∧ A.length = i := ⟨l.take i, l[i], l.drop (i + 1), by rw [List.getElem_cons_drop, List.take_append_drop], by rw [List.length_take]; omega⟩
  have er : l.eraseIdx i = A ++ C := by rw [hl, ← hA, List.eraseIdx_append_of_length_le (Nat.le_refl _)]; simp
  have eR : ic l = ic A ++ [AV.int .i64 x] ++ ic C ++ [] := by rw [hl]; simp
  have lA := ic_len A
  have lC := ic_len C
  have ll : l.length = A.length + C.length + 1 := by rw [hl]; simp; omega
  have oC := ic_one C
  rw [eR] at hg
  have hc : cellsOf h 1 (l.length - (i + 1)) (.sl b (i + 1) (l.length - (i + 1)) (l.length - (i + 1)) 1) = some (ic C) := by
    have h1 := cells_part (sz := 1) (lo := i + 1) (k := l.length - (i + 1)) (cap := l.length - (i + 1)) hg (by simp only [List.length_append, lA, lC, List.length_singleton, List.length_nil]; omega)
    simp only [Nat.mul_one] at h1
    rw [h1, List.append_nil, List.drop_left' (by rw [List.length_append, lA, List.length_singleton]; omega), List.take_of_length_le (by omega)]
  have hw : writeAt h b i (ic C) = some (h.put b (.cells ((ic A ++ [AV.int .i64 x] ++ ic C ++ []).take (ic A).length ++ ic C ++ (ic A ++ [AV.int .i64 x] ++ ic C ++ []).drop ((ic A).length + (ic C).length)) e (ver + 1))) := by
    rw [writeAt_go, hg, wrB_some, if_pos ⟨by simp only [List.length_append, lA, lC, List.length_singleton, List.length_nil]; omega, oC⟩, show i = (ic A).length by omega]
  have ha : appendV h 1 8 3 (.sl b 0 i l.length 1) (.sl b (i + 1) (l.length - (i + 1)) (l.length - (i + 1)) 1) = some (.sl b 0 (l.length - 1) l.length 1, h.put b (.cells ((ic A ++ [AV.int .i64 x] ++ ic C ++ []).take (ic A).length ++ ic C ++ (ic A ++ [AV.int .i64 x] ++ ic C ++ []).drop ((ic A).length + (ic C).length)) e (ver + 1))) := by
    have e1 : (ic C).length = l.length - (i + 1) := by omega
    have e2 : l.length - 1 ≤ l.length := by omega
    have e3 : i + (l.length - (i + 1)) = l.length - 1 := by omega
    simp only [appendV, lenV, hc, e1, oC, Nat.mul_one, and_self, if_true, Nat.beq_refl, cond_true, Nat.zero_add, hw, e3, e2]
  have hw2 : writeAt (h.put b (.cells ((ic A ++ [AV.int .i64 x] ++ ic C ++ []).take (ic A).length ++ ic C ++ (ic A ++ [AV.int .i64 x] ++ ic C ++ []).drop ((ic A).length + (ic C).length)) e (ver + 1))) b (l.length - 1) [AV.int .i64 0] = some ((h.put b (.cells ((ic A ++ [AV.int .i64 x] ++ ic C ++ []).take (ic A).length ++ ic C ++ (ic A ++ [AV.int .i64 x] ++ ic C ++ []).drop ((ic A).length + (ic C).length)) e (ver + 1))).put b (.cells (ic A ++ ic C ++ ([AV.int .i64 0] ++ [])) e (ver + 1 + 1))) := by
    rw [writeAt_go, Heap.get_put, if_pos rfl, wrB_some, if_pos ⟨by simp only [List.length_append, List.length_take, List.length_drop, lA, lC, List.length_singleton, List.length_nil]; omega, by rfl⟩, show l.length - 1 = (ic A).length + (ic C).length by omega, del_cells (A := ic A) (B := [AV.int .i64 x]) (C := ic C) (z := []) (y := [AV.int .i64 0]) rfl]
  have hcl : l.length - (l.length - 1) = 1 := by omega
  simp only [Nat.zero_add, Nat.mul_one] at s1 s2 s3 s4
  rw [hcl] at s4
  have hcs := clS_go (z := [AV.int .i64 0]) (b := b) (off := l.length - 1) (len := 1) (cap := l.length - (l.length - 1)) (sz := 1) (by decide) ((by rw [List.replicate_one, List.flatten_singleton]; exact hw2 : writeAt _ b (l.length - 1) (List.replicate 1 [AV.int .i64 0]).flatten = _))
  rw [hcl] at hcs
  simp only [v61, s1, s2, s3, s4, n1, ha, vop_clearS, hcs, RX, VOp.fresh, bxC, bsC, un, most, callsOf, seval, Int.reducePow, ↓reduceIte, Nat.reduceEqDiff, reduceCtorEq]
  refine q _ (ver + 1 + 1) rfl (fun c hc => by rw [Heap.get_put, if_neg hc, Heap.get_put, if_neg hc]) ?_
  rw [Heap.get_put, if_pos rfl, er]
  simp
end
end Go.Proofs.Ythmkenkjfmbkiaa.VM
namespace Go.Proofs.Ythmkenkjfmbkiaa.VM
attribute [local irreducible] Af Nx EvO Ev Un Gd Cd EvR EvQ EvC Nc Gc Lp EvM NxM AfM GdM EvMR EvMQ EvMD EvMC Nm Gm
def ins (l : List Int) (i : Nat) (x : Int) : List Int := l.take i ++ x :: l.drop i
theorem ins_len {l : List Int} {i : Nat} (h : i ≤ l.length) (x : Int) : (ins l i x).length = l.length + 1 := by
  simp [ins]; omega
theorem ins_ic {l : List Int} {i : Nat} {x : Int} : (ic l).take i ++ .int .i64 x :: (ic l).drop i = ic (ins l i x) := by
  simp [ins, ic]
/-- what a change makes, at the stretch i -/
def chgR (m : Mp) (k a t : Int) (i : Nat) : Mp :=
  if k = 0 then ⟨m.epoch + 1, ins m.starts (i + 1) a, ins m.owners (i + 1) (m.owners.getD i 0)⟩
  else if k = 1 then ⟨m.epoch + 1, m.starts, m.owners.set i t⟩
  else ⟨m.epoch + 1, m.starts.eraseIdx (i + 1), m.owners.eraseIdx (i + 1)⟩
/-- what slices.Insert does -/
def InsOk (P : Program) : Prop := ∀ {H : Heap} {b n cap i vb e e2 ver ver2 : Nat} {cs : List AV} {x : AV}, H.get b = some (.cells cs e ver) → cs.length = n → cs.all AV.one = true → x.one = true → i ≤ n → H.get vb = some (.cells [x] e2 ver2) → vb ≠ b → n < 1000000 →
  OK P 60 [.sl b 0 n cap 1, .int .i64 i, .sl vb 0 1 1 1] H (.sl H.next 0 (n + 1) (n + 1) 1) ((H.put b .dead).mk' H.next (.cells (cs.take i ++ x :: cs.drop i) 3 0))
/-- a row of one's own, there may be more behind -/
def WRow (h : Heap) (N : Nat) (l : List Int) (v : AV) (b : Nat) : Prop := ∃ cap e ver z, v = .sl b 0 l.length cap 1 ∧ N ≤ b ∧ b < h.next ∧ h.get b = some (.cells (ic l ++ z) e ver)
def tI (l : List Int) : AV := .rs (ic l) l.length
theorem tI_is {l : List Int} (h64 : ∀ x ∈ l, I64 x) (hl : l.length ≤ 1000000) : IsL 8 RInt (tI l) l := by
  refine isL_rs ?_ (by rw [reach_eq]; omega)
  clear hl
  induction l with
  | nil => exact .nil
  | cons x l ih => exact .cons (l := l) (c := [.int .i64 x]) ⟨rfl, h64 x (.head _)⟩ (ih fun y hy => h64 y (.tail _ hy))
section
variable {P : Program} {h h' : Heap} {N : Nat} {l : List Int} {v : AV} {b : Nat}
theorem ic_told (l : List Int) : AV.tolds (ic l) = true := by
  induction l with
  | nil => rfl
  | cons x l ih => simpa [ic, AV.tolds, AV.told] using ih
theorem WRow.frame (r : WRow h N l v b) (hn : h.next ≤ h'.next) (k : h'.get b = h.get b) : WRow h' N l v b := by
  obtain ⟨cap, e, ver, z, h1, h2, h3, h4⟩ := r
  exact ⟨cap, e, ver, z, h1, h2, by omega, k.trans h4⟩
theorem WRow.ext (r : WRow h N l v b) (x : Ext h h') : WRow h' N l v b := by
  obtain ⟨cap, e, ver, z, h1, h2, h3, h4⟩ := r
  exact ⟨cap, e, ver, z, h1, h2, Nat.lt_of_lt_of_le h3 x.1, (x.2 _ h3).trans h4⟩
theorem WRow.fz {r : Bool} (w : WRow h N l v b) (h0 : 0 < l.length) (hr : r = true) : Fz r h v (tI l) := by
  obtain ⟨cap, e, ver, z, rfl, h2, h3, h4⟩ := w
  refine .sl (cs := ic l) h0 h4 ?_ (by subst hr; exact Fzs.refl (ic_told l))
  rw [cut_eq, List.drop_zero, Nat.mul_one, List.take_left' (ic_len l), if_pos (ic_len l)]
theorem WRow.one (w : WRow h N l v b) : v.one = true := by obtain ⟨cap, e, ver, z, rfl, _⟩ := w; rfl
theorem WRow.cells (w : WRow h N l v b) : v.cells = some [v] := by obtain ⟨cap, e, ver, z, rfl, _⟩ := w; rfl
/-- what goes before -/
def ChP (nodes : Int) (m : Mp) (k a : Int) : Prop := mpOk nodes m ∧ 0 ≤ k ∧ k ≤ 2 ∧ 0 ≤ a ∧ a < 4294967296
abbrev z3 : List AV := [.int .i64 0, .nils, .nils]
def blkC (n : Nat) : VCode := blk n v32.body
theorem chg_a (g : Pg P tab) {m : Mp} {v u : AV} (hv : IsL 8 RInt v m.starts) (hu : IsL 8 RInt u m.owners) {nodes k a t : Int} {Q : AV → Heap → Prop} {B : VCode}
    (q7 : ∀ h' e, Ext h h' → ((¬ ChP nodes m k a ∧ e = 700) ∨ (ChP nodes m k a ∧ m.epoch = 65535 ∧ e = 701)) → Q (.tup [.agg z3, .int .i64 e]) h')
    (hK : ChP nodes m k a → m.epoch ≠ 65535 → ∀ s' h' i sv ov, IxAt m.starts a i → sg s' 1 = .int .i64 nodes → sg s' 3 = .ptr h.next 0 → sg s' 5 = .ptr (h.next + 1) 0 → sg s' 6 = .ptr (h.next + 2) 0 → sg s' 8 = .int .i64 i → (∃ d, sg s' 9 = .ptr d 0 ∧ h.next + 2 < d ∧ Has h' [(d, [.int .i64 (m.epoch + 1), sv, ov]), (h.next, [.int .i64 m.epoch, v, u]), (h.next + 1, [.int .i64 k, .int .i64 a, .int .i64 t]), (h.next + 2, z3)] ∧
      (∃ b b', WRow h' (h.next + 3) m.starts sv b ∧ WRow h' (h.next + 3) m.owners ov b' ∧ b ≠ b' ∧ b ≠ d ∧ b' ≠ d ∧ ∃ e ver e' ver', h'.get b = some (.cells (ic m.starts) e ver) ∧ h'.get b' = some (.cells (ic m.owners) e' ver') ∧ sv = .sl b 0 m.starts.length m.starts.length 1 ∧ ov = .sl b' 0 m.owners.length m.owners.length 1)) → Ext h h' → Ev P B s' h' (Un P [] (Fin v32.res Q))) :
    Ev P (.seq (blkC 0) (.seq (blkC 1) (.seq (blkC 2) (.seq (blkC 3) (.seq (blkC 4) B))))) (argsT [.agg [.int .i64 m.epoch, v, u], .int .i64 nodes, .agg [.int .i64 k, .int .i64 a, .int .i64 t]] 0 .e) h (Un P [] (Fin v32.res Q)) := by
  have ov := isL_one hv
  have ou := isL_one hu
  have ht : AV.tolds [.agg [.int .i64 m.epoch, v, u], .int .i64 nodes] = true := by simp [AV.tolds, AV.told, hv.told tInt, hu.told tInt]
  simp only [blkC, v32, blk, HN, RW, RX, VOp.fresh, bxC, bsC, un, most, callsOf, seval, Int.reducePow, ↓reduceIte, Nat.reduceEqDiff, reduceCtorEq]
  refine (mapMay_pu g hv hu).go ht ?_
  rintro x ⟨b, rfl, hb⟩
  have bad : ∀ H : Heap, Ext h H → ∀ c e ver, Ext h (H.put (h.next + 2) (.cells c e ver)) := fun H x c e ver => x.putn (by omega) _
  have x3 : Ext h (((h.mk' h.next (.cells [.int .i64 m.epoch, v, u] 24 0)).mk' (h.next + 1) (.cells [.int .i64 k, .int .i64 a, .int .i64 t] 26 0)).mk' (h.next + 2) (.cells z3 24 0)) := (((Ext.refl h).mkn (Nat.le_refl _) _).mkn (by omega) _).mkn (by omega) _
  by_cases pre : ChP nodes m k a
  · have hb1 : b = true := hb.2 pre.1
    subst hb1
    obtain ⟨p1, p2, p3, p4, p5⟩ := id pre
    have c1 : ¬ k < 0 := by omega
    have c2 : ¬ 2 < k := by omega
    have c3 : ¬ a < 0 := by omega
    have c4 : ¬ 4294967296 ≤ a := by omega
    by_cases he : m.epoch = 65535
    · simp only [c1, c2, c3, c4, he, HN, RW, RX, VOp.fresh, bxC, bsC, un, most, callsOf, seval, Int.reducePow, ↓reduceIte, Nat.reduceEqDiff, reduceCtorEq]
      exact q7 _ _ (bad _ (he ▸ x3) _ _ _) (.inr ⟨pre, he, rfl⟩)
    · simp only [c1, c2, c3, c4, he, HN, RW, RX, VOp.fresh, bxC, bsC, un, most, callsOf, seval, Int.reducePow, ↓reduceIte, Nat.reduceEqDiff, reduceCtorEq]
      have h0 : 0 < m.starts.length := p1.2.2.2.2.1
      have h1 : 0 < m.owners.length := by rw [p1.2.2.2.2.2.2.1]; exact h0
      have he2 := p1.2.2.2.1
      have he1 := p1.2.2.1
      have w1 : IntKind.i64.wrap (m.epoch + 1) = m.epoch + 1 := w64 (by omega) (by omega)
      obtain ⟨i, hi⟩ := ixAt_ex p1.rise h0 (d := a) (by have := p1.2.2.2.2.2.2.2.1; omega)
      have H3 : Has (((h.mk' h.next (.cells [.int .i64 m.epoch, v, u] 24 0)).mk' (h.next + 1) (.cells [.int .i64 k, .int .i64 a, .int .i64 t] 26 0)).mk' (h.next + 2) (.cells z3 24 0)) [(h.next + 2, z3), (h.next + 1, [.int .i64 k, .int .i64 a, .int .i64 t]), (h.next, [.int .i64 m.epoch, v, u])] :=
        ((Has.nil.mk (Nat.le_refl _)).mk (by rw [mk_next]; omega)).mk (by rw [mk_next, mk_next]; omega)
      have n3 : (((h.mk' h.next (.cells [.int .i64 m.epoch, v, u] 24 0)).mk' (h.next + 1) (.cells [.int .i64 k, .int .i64 a, .int .i64 t] 26 0)).mk' (h.next + 2) (.cells z3 24 0)).next = h.next + 3 := by rw [mk_next, mk_next, mk_next]; omega
      generalize ((h.mk' h.next (.cells [.int .i64 m.epoch, v, u] 24 0)).mk' (h.next + 1) (.cells [.int .i64 k, .int .i64 a, .int .i64 t] 26 0)).mk' (h.next + 2) (.cells z3 24 0) = h3 at *
      obtain ⟨e0, v0, g0⟩ := H3.get (b := h.next) (.tail _ (.tail _ (.head _)))
      refine (at_ok g hv p1.rise hi g0).cl ?_
      simp only [g0, RX, VOp.fresh, bxC, bsC, un, most, callsOf, seval, Int.reducePow, ↓reduceIte, Nat.reduceEqDiff, reduceCtorEq]
      refine mapCopy_cl g hv hu h0 h1 fun h4 sv ov om x4 => ?_
      obtain ⟨⟨b1, e1, r1, rfl, o1, o2, o3⟩, ⟨b2, e2, r2, rfl, s1, s2, s3⟩, hne⟩ := om
      have x4n := x4.1
      have H4 := H3.ext x4
      have n5 : ((h4.mk' h4.next (.cells z3 24 0)).put h4.next (.cells [.int .i64 m.epoch, .sl b1 0 m.starts.length m.starts.length 1, .sl b2 0 m.owners.length m.owners.length 1] 24 1)).next = h4.next + 1 := new_next
      have z0 : ¬ h.next = h4.next := by omega
      simp only [w1, RW, RX, VOp.fresh, bxC, bsC, un, most, callsOf, seval, Int.reducePow, ↓reduceIte, Nat.reduceEqDiff, reduceCtorEq]
      have ne12 : b1 ≠ b2 := fun e => hne (by simp [blkOf, e])
      have kk : ∀ c X Y, c < h4.next → (((h4.mk' h4.next (.cells z3 24 0)).put h4.next X).put h4.next Y).get c = h4.get c := fun c X Y hc => by rw [Heap.get_put, if_neg (by omega), Heap.get_put, if_neg (by omega), Heap.get_mk, if_neg (by omega)]
      have nn : ∀ X Y, (((h4.mk' h4.next (.cells z3 24 0)).put h4.next X).put h4.next Y).next = h4.next + 1 := fun X Y => by rw [put_next, new_next]
      have xh : Ext h h4 := x3.trans x4
      refine hK pre he _ _ i _ _ hi ?_ ?_ ?_ ?_ ?_ ⟨h4.next, ?_, by omega, ?_, b1, b2, ⟨_, e1, r1, [], rfl, by omega, by rw [nn]; omega, by rw [kk _ _ _ o2, o3, List.append_nil]⟩, ⟨_, e2, r2, [], rfl, by omega, by rw [nn]; omega, by rw [kk _ _ _ s2, s3, List.append_nil]⟩, ne12, by omega, by omega, e1, r1, e2, r2, by rw [kk _ _ _ o2, o3], by rw [kk _ _ _ s2, s3], rfl, rfl⟩ ⟨by rw [nn]; have := xh.1; omega, fun c hc => by rw [kk _ _ _ (by have := xh.1; omega)]; exact xh.2 c hc⟩
      · simp only [sg_set, Nat.reduceEqDiff, ↓reduceIte]
      · simp only [sg_set, Nat.reduceEqDiff, ↓reduceIte]
      · simp only [sg_set, Nat.reduceEqDiff, ↓reduceIte]
      · simp only [sg_set, Nat.reduceEqDiff, ↓reduceIte]
      · simp only [sg_set, Nat.reduceEqDiff, ↓reduceIte]
      · simp only [sg_set, Nat.reduceEqDiff, ↓reduceIte]
      · refine (H4.new.put ?_).sub ?_
        · intro p hp
          have := (H4 p hp).1
          omega
        · intro p hp
          simp only [List.mem_cons, List.not_mem_nil, or_false] at hp ⊢
          rcases hp with rfl | rfl | rfl | rfl <;> simp
  · have go : ∀ H : Heap, Ext h H → ∀ c e ver, Q (.tup [.agg z3, .int .i64 700]) (H.put (h.next + 2) (.cells c e ver)) := fun H x c e ver => q7 _ _ (bad H x c e ver) (.inl ⟨pre, rfl⟩)
    cases b with
    | false =>
      simp only [HN, RW, RX, VOp.fresh, bxC, bsC, un, most, callsOf, seval, Int.reducePow, ↓reduceIte, Nat.reduceEqDiff, reduceCtorEq]
      exact go _ x3 _ _ _
    | true =>
      have p1 := hb.1 rfl
      by_cases c1 : k < 0
      · simp only [c1, HN, RW, RX, VOp.fresh, bxC, bsC, un, most, callsOf, seval, Int.reducePow, ↓reduceIte, Nat.reduceEqDiff, reduceCtorEq]
        exact go _ x3 _ _ _
      by_cases c2 : 2 < k
      · simp only [c1, c2, HN, RW, RX, VOp.fresh, bxC, bsC, un, most, callsOf, seval, Int.reducePow, ↓reduceIte, Nat.reduceEqDiff, reduceCtorEq]
        exact go _ x3 _ _ _
      by_cases c3 : a < 0
      · simp only [c1, c2, c3, HN, RW, RX, VOp.fresh, bxC, bsC, un, most, callsOf, seval, Int.reducePow, ↓reduceIte, Nat.reduceEqDiff, reduceCtorEq]
        exact go _ x3 _ _ _
      by_cases c4 : 4294967296 ≤ a
      · simp only [c1, c2, c3, c4, HN, RW, RX, VOp.fresh, bxC, bsC, un, most, callsOf, seval, Int.reducePow, ↓reduceIte, Nat.reduceEqDiff, reduceCtorEq]
        exact go _ x3 _ _ _
      · exact absurd ⟨p1, by omega, by omega, by omega, by omega⟩ pre
end
end Go.Proofs.Ythmkenkjfmbkiaa.VM
namespace Go.Proofs.Ythmkenkjfmbkiaa.VM
attribute [local irreducible] Af Nx EvO Ev Un Gd Cd EvR EvQ EvC Nc Gc Lp EvM NxM AfM GdM EvMR EvMQ EvMD EvMC Nm Gm
/-- what stands while a map is changed: N: names from here on are one's own -/
structure CS (h : Heap) (N d : Nat) (m : Mp) (x : Mp) (v u : AV) (k a t : Int) : Prop where
  r : ∃ sv ov b b', Has h [(d, [.int .i64 x.epoch, sv, ov]), (N, [.int .i64 m.epoch, v, u]), (N + 1, [.int .i64 k, .int .i64 a, .int .i64 t]), (N + 2, z3)] ∧ WRow h (N + 3) x.starts sv b ∧ WRow h (N + 3) x.owners ov b' ∧ b ≠ b' ∧ b ≠ d ∧ b' ≠ d
  d : N + 2 < d
section
variable {P : Program} {h : Heap} {s : T AV} {N d i : Nat} {m : Mp} {v u sv ov : AV} {k a t nodes : Int} {kk : List Fr} {Q : Ex → T AV → Heap → Prop} {b b' e ver e' ver' : Nat}
theorem chg_give (g : Pg P tab) (t5 : sg s 5 = .ptr (N + 1) 0) (t8 : sg s 8 = .int .i64 i) (t9 : sg s 9 = .ptr d 0) (hd : N + 2 < d) (H : Has h [(d, [.int .i64 (m.epoch + 1), sv, ov]), (N, [.int .i64 m.epoch, v, u]), (N + 1, [.int .i64 1, .int .i64 a, .int .i64 t]), (N + 2, z3)])
    (ws : WRow h (N + 3) m.starts sv b) (wo : WRow h (N + 3) m.owners ov b') (hne : b ≠ b') (hbd : b ≠ d) (hbd' : b' ≠ d) (hg : h.get b' = some (.cells (ic m.owners) e' ver')) (hov : ov = .sl b' 0 m.owners.length m.owners.length 1) (hi : i < m.owners.length)
    (hK : ∀ s' h', (∀ j, j < 10 → sg s' j = sg s j) → CS h' N d m (chgR m 1 a t i) v u 1 a t → h.next ≤ h'.next → (∀ c, c < N → h'.get c = h.get c) → Un P kk Q .normal s' h') : Ev P (blkC 5) s h (Un P kk Q) := by
  obtain ⟨ed, vd, gd⟩ := H.get (b := d) (.head _)
  obtain ⟨ec, vc, gc⟩ := H.get (b := N + 1) (.tail _ (.tail _ (.head _)))
  have o1 := wo
  obtain ⟨cap, eo, vo, z, rfl, p2, p3, p4⟩ := o1
  cases hov
  have hia : ∀ (hh : Heap) (q : IntKind), iaV hh 1 none (.sl b' 0 m.owners.length m.owners.length 1) (.int q (i : Int)) = .val (.ptr b' i) hh := fun hh q => by
    have : 0 ≤ (i : Int) ∧ (i : Int) < (m.owners.length : Int) ∧ 1 = 1 := ⟨by omega, by omega, rfl⟩
    simp only [iaV, this, and_self, if_true, Int.toNat_natCast, Nat.zero_add, Nat.mul_one]
  have hw := wr_at hg (show i < (ic m.owners).length by rw [ic_len]; exact hi) (x := .int .i64 t) rfl
  simp only [blkC, v32, blk, t5, t8, t9, gd, gc, hia, hw, RX, VOp.fresh, bxC, bsC, un, most, callsOf, seval, Int.reducePow, ↓reduceIte, Nat.reduceEqDiff, reduceCtorEq]
  have hset : (ic m.owners).set i (.int .i64 t) = ic (m.owners.set i t) := by simp [ic]
  have kp : ∀ c, c ≠ b' → (h.put b' (.cells ((ic m.owners).set i (.int .i64 t)) e' (ver' + 1))).get c = h.get c := fun c hc => by rw [Heap.get_put, if_neg hc]
  refine hK _ _ (fun j hj => by simp only [sg_set]; repeat rw [if_neg (by omega)]) ⟨⟨sv, .sl b' 0 m.owners.length m.owners.length 1, b, b', ?_, ?_, ?_, hne, hbd, hbd'⟩, hd⟩ (by rw [put_next]; exact Nat.le_refl _) fun c hc => kp c (by omega)
  · exact fun p hp => ⟨by rw [put_next]; exact (H p hp).1, let ⟨e1, v1, g1⟩ := (H p hp).2; ⟨e1, v1, (kp _ (by
      simp only [List.mem_cons, List.not_mem_nil, or_false] at hp
      rcases hp with rfl | rfl | rfl | rfl <;> simp only <;> omega)).trans g1⟩⟩
  · exact ws.frame (by rw [put_next]; exact Nat.le_refl _) (kp b hne)
  · refine ⟨m.owners.length, e', ver' + 1, [], ?_, p2, by rw [put_next]; exact p3, ?_⟩
    · simp [chgR]
    · rw [Heap.get_put, if_pos rfl, List.append_nil, hset]; rfl
theorem chg_join (g : Pg P tab) (t3 : sg s 3 = .ptr N 0) (t5 : sg s 5 = .ptr (N + 1) 0) (t8 : sg s 8 = .int .i64 i) (t9 : sg s 9 = .ptr d 0) (hd : N + 2 < d) (H : Has h [(d, [.int .i64 (m.epoch + 1), sv, ov]), (N, [.int .i64 m.epoch, v, u]), (N + 1, [.int .i64 2, .int .i64 a, .int .i64 t]), (N + 2, z3)])
    (hv : IsL 8 RInt v m.starts) (hls : m.starts.length ≤ 32) (hlo : m.owners.length = m.starts.length)
    (ws : WRow h (N + 3) m.starts sv b) (wo : WRow h (N + 3) m.owners ov b') (hne : b ≠ b') (hbd : b ≠ d) (hbd' : b' ≠ d) (hgs : h.get b = some (.cells (ic m.starts) e ver)) (hgo : h.get b' = some (.cells (ic m.owners) e' ver')) (hsv : sv = .sl b 0 m.starts.length m.starts.length 1) (hov : ov = .sl b' 0 m.owners.length m.owners.length 1) (hi : i + 1 < m.starts.length)
    (hK : ∀ s' h', (∀ j, j < 10 → sg s' j = sg s j) → CS h' N d m (chgR m 2 a t i) v u 2 a t → h.next ≤ h'.next → (∀ c, c < N → h'.get c = h.get c) → Un P kk Q .normal s' h') : Ev P (blkC 5) s h (Un P kk Q) := by
  obtain ⟨ed, vd, gd⟩ := H.get (b := d) (.head _)
  obtain ⟨em, vm, gm⟩ := H.get (b := N) (.tail _ (.head _))
  obtain ⟨ec, vc, gc⟩ := H.get (b := N + 1) (.tail _ (.tail _ (.head _)))
  obtain ⟨cs, es, vs, zs, _, q2, q3, _⟩ := id ws
  obtain ⟨co, eo, vo, zo, _, p2, p3, _⟩ := id wo
  subst hsv hov
  have w1 : IntKind.i64.wrap ((i : Int) + 1) = ((i + 1 : Nat) : Int) := by rw [w64 (by omega) (by omega)]; push_cast; rfl
  have w2 : IntKind.i64.wrap ((i : Int) + 2) = ((i + 1 + 1 : Nat) : Int) := by rw [w64 (by omega) (by omega)]; push_cast; omega
  have c1 : ¬ ((i + 1 : Nat) : Int) = ((m.starts.length : Nat) : Int) := by omega
  simp only [blkC, v32, blk, t3, t5, t8, t9, gd, gc, gm, hv.len, w1, w2, c1, RX, VOp.fresh, bxC, bsC, un, most, callsOf, seval, Int.reducePow, ↓reduceIte, Nat.reduceEqDiff, reduceCtorEq]
  refine delI_cl g (i := i + 1) hi (by omega) q3 hgs fun h1 v1 n1 k1 g1 => ?_
  have gd1 := (k1 d (Ne.symm hbd)).trans gd
  have hgo1 := (k1 b' (Ne.symm hne)).trans hgo
  have gn1 := (k1 N (by omega)).trans gm
  have gc1 := (k1 (N + 1) (by omega)).trans gc
  have hdN : ¬ d = N := by omega
  have hdC : ¬ d = N + 1 := by omega
  simp only [t8, t9, gd1, hgo1, w1, w2, RW, RX, VOp.fresh, bxC, bsC, un, most, callsOf, seval, Int.reducePow, ↓reduceIte, Nat.reduceEqDiff, reduceCtorEq]
  have g2 : (h1.put d (.cells [.int .i64 (m.epoch + 1), .sl b 0 (m.starts.length - 1) m.starts.length 1, .sl b' 0 m.owners.length m.owners.length 1] ed (vd + 1))).get b' = some (.cells (ic m.owners) e' ver') := by rw [Heap.get_put, if_neg hbd']; exact hgo1
  refine delI_cl g (i := i + 1) (by omega) (by omega) (by rw [put_next, n1]; exact p3) g2 fun h2 v2 n2 k2 g22 => ?_
  have gd2 := (k2 d (Ne.symm hbd')).trans ((by rw [Heap.get_put, if_pos rfl]) : (h1.put d (.cells [.int .i64 (m.epoch + 1), .sl b 0 (m.starts.length - 1) m.starts.length 1, .sl b' 0 m.owners.length m.owners.length 1] ed (vd + 1))).get d = some (.cells [.int .i64 (m.epoch + 1), .sl b 0 (m.starts.length - 1) m.starts.length 1, .sl b' 0 m.owners.length m.owners.length 1] ed (vd + 1)))
  simp only [t9, gd2, RW, RX, VOp.fresh, bxC, bsC, un, most, callsOf, seval, Int.reducePow, ↓reduceIte, Nat.reduceEqDiff, reduceCtorEq]
  rw [put_next, n1] at n2
  have kp : ∀ c, c ≠ b → c ≠ b' → c ≠ d → ∀ X, (h2.put d X).get c = h.get c := fun c c1 c2 c3 X => by rw [Heap.get_put, if_neg c3, k2 c c2, Heap.get_put, if_neg c3, k1 c c1]
  have ls : (m.starts.eraseIdx (i + 1)).length = m.starts.length - 1 := List.length_eraseIdx_of_lt hi
  have lo : (m.owners.eraseIdx (i + 1)).length = m.owners.length - 1 := List.length_eraseIdx_of_lt (by omega)
  refine hK _ _ (fun j hj => by simp only [sg_set]; repeat rw [if_neg (by omega)]) ⟨⟨.sl b 0 (m.starts.length - 1) m.starts.length 1, .sl b' 0 (m.owners.length - 1) m.owners.length 1, b, b', ?_, ?_, ?_, hne, hbd, hbd'⟩, hd⟩ (by rw [put_next, n2]; exact Nat.le_refl _) fun c hc => kp c (by omega) (by omega) (by omega) _
  rotate_left
  · refine ⟨m.starts.length, e, v1, [.int .i64 0], ?_, q2, by rw [put_next, n2]; exact q3, ?_⟩
    rotate_left
    · rw [Heap.get_put, if_neg hbd, k2 b hne, Heap.get_put, if_neg hbd, g1]; rfl
    · rw [show chgR m 2 a t i = ⟨m.epoch + 1, m.starts.eraseIdx (i + 1), m.owners.eraseIdx (i + 1)⟩ from rfl, ls]
  · refine ⟨m.owners.length, e', v2, [.int .i64 0], ?_, p2, by rw [put_next, n2]; exact p3, ?_⟩
    rotate_left
    · rw [Heap.get_put, if_neg hbd', g22]; rfl
    · rw [show chgR m 2 a t i = ⟨m.epoch + 1, m.starts.eraseIdx (i + 1), m.owners.eraseIdx (i + 1)⟩ from rfl, lo]
  · intro p hp
    simp only [List.mem_cons, List.not_mem_nil, or_false] at hp
    rcases hp with rfl | rfl | rfl | rfl
    · exact ⟨by rw [put_next, n2]; exact H.lt (.head _), ed, vd + 1 + 1, by rw [Heap.get_put, if_pos rfl]; rfl⟩
    · exact ⟨by rw [put_next, n2]; exact H.lt (.tail _ (.head _)), _, _, (kp _ (by omega) (by omega) (by omega) _).trans gm⟩
    · exact ⟨by rw [put_next, n2]; exact H.lt (.tail _ (.tail _ (.head _))), _, _, (kp _ (by omega) (by omega) (by omega) _).trans gc⟩
    · obtain ⟨ez, vz, gz⟩ := H.get (b := N + 2) (.tail _ (.tail _ (.tail _ (.head _))))
      exact ⟨by rw [put_next, n2]; exact H.lt (.tail _ (.tail _ (.tail _ (.head _)))), _, _, (kp _ (by omega) (by omega) (by omega) _).trans gz⟩
theorem chg_split (g : Pg P tab) (hins : InsOk P) (t3 : sg s 3 = .ptr N 0) (t5 : sg s 5 = .ptr (N + 1) 0) (t8 : sg s 8 = .int .i64 i) (t9 : sg s 9 = .ptr d 0) (hd : N + 2 < d) (H : Has h [(d, [.int .i64 (m.epoch + 1), sv, ov]), (N, [.int .i64 m.epoch, v, u]), (N + 1, [.int .i64 0, .int .i64 a, .int .i64 t]), (N + 2, z3)])
    (hu : IsL 8 RInt u m.owners) (hls : m.starts.length ≤ 32) (hlo : m.owners.length = m.starts.length)
    (ws : WRow h (N + 3) m.starts sv b) (wo : WRow h (N + 3) m.owners ov b') (hne : b ≠ b') (hbd : b ≠ d) (hbd' : b' ≠ d) (hgs : h.get b = some (.cells (ic m.starts) e ver)) (hgo : h.get b' = some (.cells (ic m.owners) e' ver')) (hsv : sv = .sl b 0 m.starts.length m.starts.length 1) (hov : ov = .sl b' 0 m.owners.length m.owners.length 1) (hi : i < m.starts.length)
    (hK : ∀ s' h', (∀ j, j < 10 → sg s' j = sg s j) → CS h' N d m (chgR m 0 a t i) v u 0 a t → h.next ≤ h'.next → (∀ c, c < N → h'.get c = h.get c) → Un P kk Q .normal s' h') : Ev P (blkC 5) s h (Un P kk Q) := by
  obtain ⟨ed, vd, gd⟩ := H.get (b := d) (.head _)
  obtain ⟨em, vm, gm⟩ := H.get (b := N) (.tail _ (.head _))
  obtain ⟨ec, vc, gc⟩ := H.get (b := N + 1) (.tail _ (.tail _ (.head _)))
  obtain ⟨ez, vz, gz⟩ := H.get (b := N + 2) (.tail _ (.tail _ (.tail _ (.head _))))
  have ld := H.lt (b := d) (.head _)
  obtain ⟨cs, es, vs, zs, _, q2, q3, _⟩ := id ws
  obtain ⟨co, eo, vo, zo, _, p2, p3, _⟩ := id wo
  subst hsv hov
  have w1 : IntKind.i64.wrap ((i : Int) + 1) = ((i + 1 : Nat) : Int) := by rw [w64 (by omega) (by omega)]; push_cast; rfl
  -- the starts
  have x1 := Ext.mk (h := h) (.cells [.int .i64 a] 3 0)
  have n1 : (h.mk' h.next (.cells [.int .i64 a] 3 0)).next = h.next + 1 := by rw [mk_next]; omega
  have ok1 := hins (H := h.mk' h.next (.cells [.int .i64 a] 3 0)) (b := b) (n := m.starts.length) (cap := m.starts.length) (i := i + 1) (vb := h.next) ((x1.2 b q3).trans hgs) (ic_len _) (ic_one _) rfl (by omega) (by rw [Heap.get_mk, if_pos rfl]) (by omega) (by omega)
  rw [n1, ins_ic] at ok1
  have k2 : ∀ c, c < h.next → c ≠ b → (((h.mk' h.next (.cells [.int .i64 a] 3 0)).put b .dead).mk' (h.next + 1) (.cells (ic (ins m.starts (i + 1) a)) 3 0)).get c = h.get c := fun c hc hb => by rw [Heap.get_mk, if_neg (by omega), Heap.get_put, if_neg hb, Heap.get_mk, if_neg (by omega)]
  have g2 : (((h.mk' h.next (.cells [.int .i64 a] 3 0)).put b .dead).mk' (h.next + 1) (.cells (ic (ins m.starts (i + 1) a)) 3 0)).get (h.next + 1) = some (.cells (ic (ins m.starts (i + 1) a)) 3 0) := by rw [Heap.get_mk, if_pos rfl]
  have n2 : (((h.mk' h.next (.cells [.int .i64 a] 3 0)).put b .dead).mk' (h.next + 1) (.cells (ic (ins m.starts (i + 1) a)) 3 0)).next = h.next + 2 := by rw [mk_next, put_next, n1]; omega
  simp only [blkC, v32, blk, t3, t5, t8, t9, gd, gc, gm, w1, RX, VOp.fresh, bxC, bsC, un, most, callsOf, seval, Int.reducePow, ↓reduceIte, Nat.reduceEqDiff, reduceCtorEq]
  refine ok1.cl ?_
  generalize ((h.mk' h.next (.cells [.int .i64 a] 3 0)).put b .dead).mk' (h.next + 1) (.cells (ic (ins m.starts (i + 1) a)) 3 0) = h2 at *
  have gd2 := (k2 d ld (Ne.symm hbd)).trans gd
  simp only [t9, gd2, RW, RX, VOp.fresh, bxC, bsC, un, most, callsOf, seval, Int.reducePow, ↓reduceIte, Nat.reduceEqDiff, reduceCtorEq]
  -- the owners
  have k3 : ∀ c, c < h.next → c ≠ b → c ≠ d → (h2.put d (.cells [.int .i64 (m.epoch + 1), .sl (h.next + 1) 0 (m.starts.length + 1) (m.starts.length + 1) 1, .sl b' 0 m.owners.length m.owners.length 1] ed (vd + 1))).get c = h.get c := fun c hc hb hd => by rw [Heap.get_put, if_neg hd]; exact k2 c hc hb
  have g3 : (h2.put d (.cells [.int .i64 (m.epoch + 1), .sl (h.next + 1) 0 (m.starts.length + 1) (m.starts.length + 1) 1, .sl b' 0 m.owners.length m.owners.length 1] ed (vd + 1))).get (h.next + 1) = some (.cells (ic (ins m.starts (i + 1) a)) 3 0) := by rw [Heap.get_put, if_neg (by omega)]; exact g2
  have n3 : (h2.put d (.cells [.int .i64 (m.epoch + 1), .sl (h.next + 1) 0 (m.starts.length + 1) (m.starts.length + 1) 1, .sl b' 0 m.owners.length m.owners.length 1] ed (vd + 1))).next = h.next + 2 := by rw [put_next, n2]
  have gd3 : (h2.put d (.cells [.int .i64 (m.epoch + 1), .sl (h.next + 1) 0 (m.starts.length + 1) (m.starts.length + 1) 1, .sl b' 0 m.owners.length m.owners.length 1] ed (vd + 1))).get d = some (.cells [.int .i64 (m.epoch + 1), .sl (h.next + 1) 0 (m.starts.length + 1) (m.starts.length + 1) 1, .sl b' 0 m.owners.length m.owners.length 1] ed (vd + 1)) := by rw [Heap.get_put, if_pos rfl]
  generalize h2.put d (.cells [.int .i64 (m.epoch + 1), .sl (h.next + 1) 0 (m.starts.length + 1) (m.starts.length + 1) 1, .sl b' 0 m.owners.length m.owners.length 1] ed (vd + 1)) = h3 at *
  obtain ⟨r, ht, hia⟩ := getInt hu i (by omega)
  have x4 := Ext.mk (h := h3) (.cells [.int .i64 (m.owners.getD i 0)] 3 0)
  rw [n3] at x4
  have n4 : (h3.mk' (h.next + 2) (.cells [.int .i64 (m.owners.getD i 0)] 3 0)).next = h.next + 3 := by rw [mk_next, n3]; omega
  have ok2 := hins (H := h3.mk' (h.next + 2) (.cells [.int .i64 (m.owners.getD i 0)] 3 0)) (b := b') (n := m.owners.length) (cap := m.owners.length) (i := i + 1) (vb := h.next + 2) ((x4.2 b' (by omega)).trans ((k3 b' p3 (Ne.symm hne) hbd').trans hgo)) (ic_len _) (ic_one _) rfl (by omega) (by rw [Heap.get_mk, if_pos rfl]) (by omega) (by omega)
  rw [n4, ins_ic] at ok2
  have gm3 := (k3 N (by omega) (by omega) (by omega)).trans gm
  have hNd : ¬ d = h.next + 2 := by omega
  have hNd3 : ¬ d = h.next + 3 := by omega
  have gd4 := (x4.2 d (by omega)).trans gd3
  have gdb : ¬ d = b' := Ne.symm hbd'
  have gd5 : (((h3.mk' (h.next + 2) (.cells [.int .i64 (m.owners.getD i 0)] 3 0)).put b' .dead).mk' (h.next + 3) (.cells (ic (ins m.owners (i + 1) (m.owners.getD i 0))) 3 0)).get d = some (.cells [.int .i64 (m.epoch + 1), .sl (h.next + 1) 0 (m.starts.length + 1) (m.starts.length + 1) 1, .sl b' 0 m.owners.length m.owners.length 1] ed (vd + 1)) := by rw [Heap.get_mk, if_neg hNd3, Heap.get_put, if_neg gdb]; exact gd4
  have kf : ∀ c, c < h.next + 2 → c ≠ b' → (((h3.mk' (h.next + 2) (.cells [.int .i64 (m.owners.getD i 0)] 3 0)).put b' .dead).mk' (h.next + 3) (.cells (ic (ins m.owners (i + 1) (m.owners.getD i 0))) 3 0)).get c = h3.get c := fun c hc hb => by rw [Heap.get_mk, if_neg (by omega), Heap.get_put, if_neg hb, Heap.get_mk, if_neg (by omega)]
  have gf : (((h3.mk' (h.next + 2) (.cells [.int .i64 (m.owners.getD i 0)] 3 0)).put b' .dead).mk' (h.next + 3) (.cells (ic (ins m.owners (i + 1) (m.owners.getD i 0))) 3 0)).get (h.next + 3) = some (.cells (ic (ins m.owners (i + 1) (m.owners.getD i 0))) 3 0) := by rw [Heap.get_mk, if_pos rfl]
  have nf : (((h3.mk' (h.next + 2) (.cells [.int .i64 (m.owners.getD i 0)] 3 0)).put b' .dead).mk' (h.next + 3) (.cells (ic (ins m.owners (i + 1) (m.owners.getD i 0))) 3 0)).next = h.next + 4 := by rw [mk_next, put_next, n4]; omega
  generalize hF : ((h3.mk' (h.next + 2) (.cells [.int .i64 (m.owners.getD i 0)] 3 0)).put b' .dead).mk' (h.next + 3) (.cells (ic (ins m.owners (i + 1) (m.owners.getD i 0))) 3 0) = h5 at *
  refine EvD.lk (fun _ _ _ => (.sl (h.next + 3) 0 (m.owners.length + 1) (m.owners.length + 1) 1, h5)) ?_
  simp only [t3, t8, t9, gd3, gm3, n3, hia, w1, ok2, gd5, RW, RX, VOp.fresh, bxC, bsC, un, most, callsOf, seval, Int.reducePow, ↓reduceIte, Nat.reduceEqDiff, reduceCtorEq]
  refine ⟨⟨⟨?_, trivial⟩, trivial⟩, ?_⟩
  · show Lk _ _ _ _
    simp only [Lk, wanted, gd4, RX, VOp.fresh, bxC, bsC, un, most, callsOf, seval, Int.reducePow, ↓reduceIte, Nat.reduceEqDiff, reduceCtorEq]
  have x5 : ∀ c X e2 v2, c < h.next → c ≠ b → c ≠ b' → c ≠ d → (h5.put d (.cells X e2 v2)).get c = h.get c := fun c X e2 v2 hc hb hb' hd => by
    rw [Heap.get_put, if_neg hd, kf c (by omega) hb']; exact k3 c hc hb hd
  have y1 : ∀ X e2 v2, (h5.put d (.cells X e2 v2)).get (h.next + 1) = some (.cells (ic (ins m.starts (i + 1) a)) 3 0) := fun X e2 v2 => by
    rw [Heap.get_put, if_neg (by omega), kf _ (by omega) (by omega)]; exact g3
  have y2 : ∀ X e2 v2, (h5.put d (.cells X e2 v2)).get (h.next + 3) = some (.cells (ic (ins m.owners (i + 1) (m.owners.getD i 0))) 3 0) := fun X e2 v2 => by
    rw [Heap.get_put, if_neg (by omega)]; exact gf
  have li : (ins m.starts (i + 1) a).length = m.starts.length + 1 := ins_len (by omega) _
  have lo : (ins m.owners (i + 1) (m.owners.getD i 0)).length = m.owners.length + 1 := ins_len (by omega) _
  refine hK _ _ (fun j hj => by simp only [sg_set]; repeat rw [if_neg (by omega)]) ⟨⟨.sl (h.next + 1) 0 (m.starts.length + 1) (m.starts.length + 1) 1, .sl (h.next + 3) 0 (m.owners.length + 1) (m.owners.length + 1) 1, h.next + 1, h.next + 3, ?_, ?_, ?_, by omega, by omega, by omega⟩, hd⟩ (by rw [put_next, nf]; omega) fun c hc => x5 c _ _ _ (by omega) (by omega) (by omega) (by omega)
  · intro p hp
    simp only [List.mem_cons, List.not_mem_nil, or_false] at hp
    rcases hp with rfl | rfl | rfl | rfl
    · exact ⟨by rw [put_next, nf]; simp only; omega, _, _, by rw [Heap.get_put, if_pos rfl]; rfl⟩
    · exact ⟨by rw [put_next, nf]; simp only; omega, _, _, (x5 _ _ _ _ (by omega) (by omega) (by omega) (by omega)).trans gm⟩
    · exact ⟨by rw [put_next, nf]; simp only; omega, _, _, (x5 _ _ _ _ (by omega) (by omega) (by omega) (by omega)).trans gc⟩
    · exact ⟨by rw [put_next, nf]; simp only; omega, _, _, (x5 _ _ _ _ (by omega) (by omega) (by omega) (by omega)).trans gz⟩
  · refine ⟨m.starts.length + 1, _, _, [], ?_, by omega, by rw [put_next, nf]; omega, (y1 _ _ _).trans (by rw [List.append_nil]; rfl)⟩
    show _ = AV.sl _ 0 (ins m.starts (i + 1) a).length _ _
    rw [li]
  · refine ⟨m.owners.length + 1, _, _, [], ?_, by omega, by rw [put_next, nf]; omega, (y2 _ _ _).trans (by rw [List.append_nil]; rfl)⟩
    show _ = AV.sl _ 0 (ins m.owners (i + 1) (m.owners.getD i 0)).length _ _
    rw [lo]
end
end Go.Proofs.Ythmkenkjfmbkiaa.VM
namespace Go.Proofs.Ythmkenkjfmbkiaa.VM
attribute [local irreducible] Af Nx EvO Ev Un Gd Cd EvR EvQ EvC Nc Gc Lp EvM NxM AfM GdM EvMR EvMQ EvMD EvMC Nm Gm
/-- what the map is told as -/
def toldMp (x : Mp) : AV := .agg [.int .i64 x.epoch, tI x.starts, tI x.owners]
/-- when there is none -/
def ChErr (nodes : Int) (m : Mp) (k a t e : Int) : Prop := (¬ ChP nodes m k a ∧ e = 700) ∨ (ChP nodes m k a ∧ m.epoch = 65535 ∧ e = 701) ∨ (ChP nodes m k a ∧ m.epoch ≠ 65535 ∧ e = 700 ∧ ∃ i, IxAt m.starts a i ∧ ((k = 2 ∧ i + 1 = m.starts.length) ∨ ¬ mpOk nodes (chgR m k a t i)))
/-- when there is one -/
def ChYes (nodes : Int) (m : Mp) (k a t : Int) (i : Nat) : Prop := ChP nodes m k a ∧ m.epoch ≠ 65535 ∧ IxAt m.starts a i ∧ ¬ (k = 2 ∧ i + 1 = m.starts.length) ∧ mpOk nodes (chgR m k a t i)
theorem mem_ins {l : List Int} {i : Nat} {x y : Int} (h : y ∈ ins l i x) : y = x ∨ y ∈ l := by
  simp only [ins, List.mem_append, List.mem_cons] at h
  rcases h with h | h | h
  · exact .inr (List.mem_of_mem_take h)
  · exact .inl h
  · exact .inr (List.mem_of_mem_drop h)
theorem getD_mem {l : List Int} {i : Nat} (h : i < l.length) : l.getD i 0 ∈ l := by
  rw [List.getD_eq_getElem?_getD, List.getElem?_eq_getElem h]; exact List.getElem_mem h
theorem cat_i64 {l : List Int} {c : List AV} (h : Cat RInt l c) : ∀ x ∈ l, I64 x := by
  induction h with
  | nil => intro x hx; simp at hx
  | cons h t ih =>
    intro x hx
    rcases List.mem_cons.1 hx with rfl | hx
    · exact h.2
    · exact ih x hx
theorem isL_i64 {l : List Int} {w : AV} (hw : IsL 8 RInt w l) : ∀ x ∈ l, I64 x := by
  rcases hw.2 with ⟨_, rfl⟩ | ⟨c, _, hc⟩
  · intro x hx; simp at hx
  · exact cat_i64 hc
section
variable {P : Program} {h : Heap} {s : T AV} {N d i : Nat} {m x : Mp} {v u sv ov : AV} {k a t nodes : Int} {Q : AV → Heap → Prop}
theorem chg_c (g : Pg P tab) (t1 : sg s 1 = .int .i64 nodes) (t6 : sg s 6 = .ptr (N + 2) 0) (t9 : sg s 9 = .ptr d 0) (c : CS h N d m x v u k a t)
    (h64s : ∀ y ∈ x.starts, I64 y) (h64o : ∀ y ∈ x.owners, I64 y) (l0 : 0 < x.starts.length) (l1 : 0 < x.owners.length) (l2 : x.starts.length ≤ 1000000) (l3 : x.owners.length ≤ 1000000)
    (q7 : ¬ mpOk nodes x → ∀ h', (h.next ≤ h'.next ∧ ∀ c, c < N → h'.get c = h.get c) → Q (.tup [.agg z3, .int .i64 700]) h')
    (qY : mpOk nodes x → ∀ h' sv ov b b', WRow h' N x.starts sv b → WRow h' N x.owners ov b' → b ≠ b' → (h.next ≤ h'.next ∧ ∀ c, c < N → h'.get c = h.get c) → Q (.tup [.agg [.int .i64 x.epoch, sv, ov], .int .i64 0]) h') : Ev P (rst 6 v32.body) s h (Un P [] (Fin v32.res Q)) := by
  obtain ⟨⟨sv, ov, b, b', H, ws, wo, hne, hbd, hbd'⟩, hd⟩ := c
  obtain ⟨ed, vd, gd⟩ := H.get (b := d) (.head _)
  obtain ⟨ez, vz, gz⟩ := H.get (b := N + 2) (.tail _ (.tail _ (.tail _ (.head _))))
  have lz := H.lt (b := N + 2) (.tail _ (.tail _ (.tail _ (.head _))))
  have os := ws.one
  have oo := wo.one
  have cs := ws.cells
  have co := wo.cells
  obtain ⟨cp, es, vs, zs, e1, q2, q3, _⟩ := id ws
  obtain ⟨cp', eo, vo, zo, e2, p2, p3, _⟩ := id wo
  have ha : Fzs true h [.agg [.int .i64 x.epoch, sv, ov], .int .i64 nodes] [toldMp x, .int .i64 nodes] :=
    .cons (.agg (.cons (.int _ _) (.cons (ws.fz l0 rfl) (.cons (wo.fz l1 rfl) .nil)))) (.cons (.int _ _) .nil)
  have hp := mapMay_pu g (nodes := nodes) (tI_is h64s l2) (tI_is h64o l3)
  have kp : ∀ (w : List AV) (e v c : Nat), c ≠ N + 2 → (h.put (N + 2) (.cells w e v)).get c = h.get c := fun w e v c hc => by rw [Heap.get_put, if_neg hc]
  simp only [v32, rst, t1, t9, gd, RW, RX, VOp.fresh, bxC, bsC, un, most, callsOf, seval, Int.reducePow, ↓reduceIte, Nat.reduceEqDiff, reduceCtorEq]
  refine hp.cl ha fun y => ?_
  rintro ⟨bb, rfl, hb⟩
  cases bb with
  | false =>
    simp only [t6, gz, RW, RX, VOp.fresh, bxC, bsC, un, most, callsOf, seval, Int.reducePow, ↓reduceIte, Nat.reduceEqDiff, reduceCtorEq]
    exact q7 (fun ok => by simpa using hb.2 ok) _ ⟨by rw [put_next]; exact Nat.le_refl _, fun c hc => kp _ _ _ _ (by omega)⟩
  | true =>
    simp only [t6, t9, gd, gz, os, oo, cs, co, RW, RX, VOp.fresh, bxC, bsC, un, most, callsOf, seval, Int.reducePow, ↓reduceIte, Nat.reduceEqDiff, reduceCtorEq]
    have f : ∀ {l v b} (w : List AV) (e ver : Nat), b ≠ N + 2 → WRow h (N + 3) l v b → WRow (h.put (N + 2) (.cells w e ver)) N l v b := fun w e ver hb wr => by
      obtain ⟨cap, e1, ver1, z, h1, h2, h3, h4⟩ := wr.frame (h' := h.put (N + 2) (.cells w e ver)) (by rw [put_next]; exact Nat.le_refl _) (kp _ _ _ _ hb)
      exact ⟨cap, e1, ver1, z, h1, by omega, h3, h4⟩
    refine qY (hb.1 rfl) _ sv ov b b' (f _ _ _ (by omega) ws) (f _ _ _ (by omega) wo) hne ⟨by rw [put_next]; exact Nat.le_refl _, fun c hc => kp _ _ _ _ (by omega)⟩
end
end Go.Proofs.Ythmkenkjfmbkiaa.VM
namespace Go.Proofs.Ythmkenkjfmbkiaa.VM
attribute [local irreducible] Af Nx EvO Ev Un Gd Cd EvR EvQ EvC Nc Gc Lp EvM NxM AfM GdM EvMR EvMQ EvMD EvMC Nm Gm
theorem ic_fz {r : Bool} {h : Heap} : ∀ l : List Int, Fzs r h (ic l) (ic l)
  | [] => .nil
  | _ :: l => .cons (.int _ _) (ic_fz l)
theorem WRow.fzr {r : Bool} {h : Heap} {N b : Nat} {l : List Int} {v : AV} (w : WRow h N l v b) (h0 : 0 < l.length) : Fz r h v (tI l) := by
  obtain ⟨cap, e, ver, z, rfl, h2, h3, h4⟩ := w
  refine .sl (cs := ic l) h0 h4 ?_ (ic_fz l)
  rw [cut_eq, List.drop_zero, Nat.mul_one, List.take_left' (ic_len l), if_pos (ic_len l)]
section
variable {P : Program} {h : Heap} {m : Mp} {v u : AV} {k a t nodes : Int}
theorem chgR_ok (hv : IsL 8 RInt v m.starts) (hu : IsL 8 RInt u m.owners) {i : Nat} (hk : 0 ≤ k ∧ k ≤ 2) (ha : I64 a) (ht : I64 t) (hi : IxAt m.starts a i) (hls : m.starts.length ≤ 32) (hlo : m.owners.length = m.starts.length) (hn : ¬ (k = 2 ∧ i + 1 = m.starts.length)) :
    (∀ y ∈ (chgR m k a t i).starts, I64 y) ∧ (∀ y ∈ (chgR m k a t i).owners, I64 y) ∧ 0 < (chgR m k a t i).starts.length ∧ 0 < (chgR m k a t i).owners.length ∧ (chgR m k a t i).starts.length ≤ 1000000 ∧ (chgR m k a t i).owners.length ≤ 1000000 := by
  have v64 := isL_i64 hv
  have u64 := isL_i64 hu
  have hi1 := hi.1
  unfold chgR
  split
  · have li : (ins m.starts (i + 1) a).length = m.starts.length + 1 := ins_len (by omega) _
    have lo : (ins m.owners (i + 1) (m.owners.getD i 0)).length = m.owners.length + 1 := ins_len (by omega) _
    refine ⟨fun y hy => (mem_ins hy).elim (fun e => e ▸ ha) (v64 y), fun y hy => (mem_ins hy).elim (fun e => e ▸ u64 _ (getD_mem (by omega))) (u64 y), ?_, ?_, ?_, ?_⟩ <;> simp only [li, lo] <;> omega
  · split
    · refine ⟨v64, fun y hy => (List.mem_or_eq_of_mem_set hy).elim (u64 y) (fun e => e ▸ ht), ?_, ?_, ?_, ?_⟩ <;> simp only [List.length_set] <;> omega
    · have li : (m.starts.eraseIdx (i + 1)).length = m.starts.length - 1 := List.length_eraseIdx_of_lt (by omega)
      have lo : (m.owners.eraseIdx (i + 1)).length = m.owners.length - 1 := List.length_eraseIdx_of_lt (by omega)
      refine ⟨fun y hy => v64 y (List.mem_of_mem_eraseIdx hy), fun y hy => u64 y (List.mem_of_mem_eraseIdx hy), ?_, ?_, ?_, ?_⟩ <;> simp only [li, lo] <;> omega
theorem change_cl (g : Pg P tab) (hins : InsOk P) (hv : IsL 8 RInt v m.starts) (hu : IsL 8 RInt u m.owners) (ha : I64 a) (ht : I64 t) {Q : AV → Heap → Prop}
    (q7 : ∀ h' e, Ext h h' → ChErr nodes m k a t e → Q (.tup [.agg z3, .int .i64 e]) h')
    (qY : ∀ h' i sv ov b b', ChYes nodes m k a t i → WRow h' h.next (chgR m k a t i).starts sv b → WRow h' h.next (chgR m k a t i).owners ov b' → b ≠ b' → Ext h h' → Q (.tup [.agg [.int .i64 (chgR m k a t i).epoch, sv, ov], .int .i64 0]) h') :
    Cl P 32 [.agg [.int .i64 m.epoch, v, u], .int .i64 nodes, .agg [.int .i64 k, .int .i64 a, .int .i64 t]] h Q := by
  refine g.cl (vf := v32) rfl rfl ?_
  have e0 : v32.body = .seq (blkC 0) (.seq (blkC 1) (.seq (blkC 2) (.seq (blkC 3) (.seq (blkC 4) (.seq (blkC 5) (rst 6 v32.body)))))) := rfl
  rw [e0]
  refine chg_a g hv hu (fun h' e x c => q7 h' e x (c.elim .inl fun c => .inr (.inl c))) ?_
  rintro pre he s2 h2 i sv ov hi t1 t3 t5 t6 t8 ⟨d, t9, hd, H, b, b', ws, wo, hne, hbd, hbd', e1, w1, e2, w2, g1, g2, rfl, rfl⟩ x2
  have x2n := x2.1
  obtain ⟨⟨p1, p2, p3, p4, p5, p6, p7, p8, p9⟩, k0, k2, a0, a1⟩ := id pre
  have hi1 := hi.1
  -- what is left
  have rest : ¬ (k = 2 ∧ i + 1 = m.starts.length) → ∀ s' h', (∀ j, j < 10 → sg s' j = sg s2 j) → CS h' h.next d m (chgR m k a t i) v u k a t → h2.next ≤ h'.next → (∀ c, c < h.next → h'.get c = h2.get c) → Ev P (rst 6 v32.body) s' h' (Un P [] (Fin v32.res Q)) := fun hn s' h' ks c3 n3 k3 => by
    obtain ⟨r1, r2, r3, r4, r5, r6⟩ := chgR_ok hv hu ⟨k0, k2⟩ ha ht hi p6 p7 hn
    refine chg_c g ((ks 1 (by omega)).trans t1) ((ks 6 (by omega)).trans t6) ((ks 9 (by omega)).trans t9) c3 r1 r2 r3 r4 r5 r6 (fun no h4 x4 => ?_) fun ok h4 sv ov b b' ws wo hne x4 => ?_
    · exact q7 h4 700 ⟨Nat.le_trans (Nat.le_trans x2n n3) x4.1, fun c hc => (x4.2 c hc).trans ((k3 c hc).trans (x2.2 c hc))⟩ (.inr (.inr ⟨pre, he, rfl, i, hi, .inr no⟩))
    · exact qY h4 i sv ov b b' ⟨pre, he, hi, hn, ok⟩ ws wo hne ⟨Nat.le_trans (Nat.le_trans x2n n3) x4.1, fun c hc => (x4.2 c hc).trans ((k3 c hc).trans (x2.2 c hc))⟩
  by_cases c0 : k = 0
  · subst c0
    rw [ev_seq]
    refine chg_split g hins t3 t5 t8 t9 hd H hu p6 p7 ws wo hne hbd hbd' g1 g2 rfl rfl hi1 fun s' h' ks c3 n3 k3 => ?_
    rw [un_seq]; exact rest (by simp) s' h' ks c3 n3 k3
  by_cases c1 : k = 1
  · subst c1
    rw [ev_seq]
    refine chg_give g t5 t8 t9 hd H ws wo hne hbd hbd' g2 rfl (by omega) fun s' h' ks c3 n3 k3 => ?_
    rw [un_seq]; exact rest (by simp) s' h' ks c3 n3 k3
  obtain rfl : k = 2 := by omega
  by_cases hl : i + 1 = m.starts.length
  · obtain ⟨ec, vc, gc⟩ := H.get (b := h.next + 1) (.tail _ (.tail _ (.head _)))
    obtain ⟨em, vm, gm⟩ := H.get (b := h.next) (.tail _ (.head _))
    obtain ⟨ez, vz, gz⟩ := H.get (b := h.next + 2) (.tail _ (.tail _ (.tail _ (.head _))))
    have w1 : IntKind.i64.wrap ((i : Int) + 1) = ((m.starts.length : Nat) : Int) := by rw [w64 (by omega) (by omega)]; omega
    simp only [blkC, v32, blk, t3, t5, t6, t8, t9, gc, gm, gz, hv.len, w1, RW, RX, VOp.fresh, bxC, bsC, un, most, callsOf, seval, Int.reducePow, ↓reduceIte, Nat.reduceEqDiff, reduceCtorEq]
    exact q7 _ 700 ⟨by rw [put_next]; exact x2n, fun c hc => by rw [Heap.get_put, if_neg (by omega)]; exact x2.2 c hc⟩ (.inr (.inr ⟨pre, he, rfl, i, hi, .inl ⟨rfl, hl⟩⟩))
  · rw [ev_seq]
    refine chg_join g t3 t5 t8 t9 hd H hv p6 p7 ws wo hne hbd hbd' g1 g2 rfl rfl (by omega) fun s' h' ks c3 n3 k3 => ?_
    rw [un_seq]; exact rest (by simp; exact hl) s' h' ks c3 n3 k3
theorem change_pu (g : Pg P tab) (hins : InsOk P) (hv : IsL 8 RInt v m.starts) (hu : IsL 8 RInt u m.owners) (ha : I64 a) (ht : I64 t) :
    Pu P 32 [.agg [.int .i64 m.epoch, v, u], .int .i64 nodes, .agg [.int .i64 k, .int .i64 a, .int .i64 t]] (fun R => (∃ e, ChErr nodes m k a t e ∧ R = .tup [.agg z3, .int .i64 e]) ∨ ∃ i, ChYes nodes m k a t i ∧ R = .tup [toldMp (chgR m k a t i), .int .i64 0]) := by
  refine Pu.of (change_cl g hins hv hu ha ht (fun h' e _ c => ⟨_, .tup (.cons (.agg (.cons (.int _ _) (.cons .nils (.cons .nils .nil)))) (.cons (.int _ _) .nil)), .inl ⟨e, c, rfl⟩⟩) fun h' i sv ov b b' c ws wo _ _ => ?_)
  obtain ⟨⟨⟨p1, p2, p3, p4, p5, p6, p7, p8, p9⟩, k0, k2, a0, a1⟩, he, hi, hn, ok⟩ := id c
  obtain ⟨r1, r2, r3, r4, r5, r6⟩ := chgR_ok hv hu ⟨k0, k2⟩ ha ht hi p6 p7 hn
  exact ⟨_, .tup (.cons (.agg (.cons (.int _ _) (.cons (ws.fzr r3) (.cons (wo.fzr r4) .nil)))) (.cons (.int _ _) .nil)), .inr ⟨i, c, rfl⟩⟩
end
end Go.Proofs.Ythmkenkjfmbkiaa.VM
namespace Go.Proofs.Ythmkenkjfmbkiaa.VM
attribute [local irreducible] Af Nx EvO Ev Un Gd Cd EvR EvQ EvC Nc Gc Lp EvM NxM AfM GdM EvMR EvMQ EvMD EvMC Nm Gm
/-- slices.Insert, told -/
def insX : Told := fun f args h => bif Nat.beq f 60 then
    match args with
    | [.sl b 0 n cap 1, .int .i64 (.ofNat i), .sl vb 0 1 1 1] => match h.get b, h.get vb with
      | some (.cells cs _ _), some (.cells [x] _ _) => bif Nat.beq cs.length n && cs.all AV.one && x.one && Nat.ble i n && !(Nat.beq vb b) && Nat.ble n 999999 then
          some (.sl h.next 0 (n + 1) (n + 1) 1, (h.put b .dead).mk' h.next (.cells (cs.take i ++ x :: cs.drop i) 3 0)) else none
      | _, _ => none
    | _ => none
  else none
theorem insX_ok {P : Program} (hins : InsOk P) : CallOk P insX := by
  intro f args h v h' e
  unfold insX at e
  rw [T.beq_dec] at e
  by_cases hf : f = 60
  · rw [decide_eq_true hf, cond_true] at e
    subst hf
    split at e
    · split at e
      · rename_i b n cap i vb _ _ cs e1 w1 x e2 w2 g1 g2
        cases hc : (Nat.beq cs.length n && cs.all AV.one && x.one && Nat.ble i n && !(Nat.beq vb b) && Nat.ble n 999999) with
        | false => rw [hc, cond_false] at e; cases e
        | true =>
          rw [hc, cond_true] at e
          cases e
          simp only [Bool.and_eq_true, Bool.not_eq_true', Nat.beq_eq, Nat.ble_eq] at hc
          obtain ⟨⟨⟨⟨⟨a1, a2⟩, a3⟩, a4⟩, a5⟩, a6⟩ := hc
          exact hins g1 a1 a2 a3 a4 g2 (fun e => by rw [e, Nat.beq_refl] at a5; cases a5) (by omega)
      · cases e
    · cases e
  · rw [decide_eq_false hf, cond_false] at e; cases e
section
variable {P : Program} {F : Nat → Option VFun}
theorem Pg.runX (g : Pg P F) {X : Told} (hX : CallOk P X) {n f : Nat} {args : List AV} {w : AV} (hv : (vcall F X n f args ⟨0, .e⟩).bind (fun r => fz false r.2 40 r.1) = some w) : Pu P f args (fun v => v = w) := by
  obtain ⟨⟨v, h'⟩, e1, e2⟩ := Option.bind_eq_some_iff.1 hv
  exact ⟨_, _, h', (vm_ok (drawn_ok g.hm) g.tb hX n).2.2 f args _ _ _ e1, fz_ok _ _ _ e2, rfl⟩
theorem awake7_pu (g : Pg P tab) (hins : InsOk P) : Pu P 31 [] (fun v => v = .bool true) := g.runX (insX_ok hins) (n := 200) (by kernel_rfl)
end
end Go.Proofs.Ythmkenkjfmbkiaa.VM
namespace Go.Proofs.Ythmkenkjfmbkiaa.VM
theorem ins_getD {l : List Int} {i : Nat} {x : Int} (h : i < l.length) (j : Nat) : (ins l (i + 1) x).getD j 0 = if j ≤ i then l.getD j 0 else if j = i + 1 then x else l.getD (j - 1) 0 := by
  have hl : (l.take (i + 1)).length = i + 1 := by rw [List.length_take]; omega
  unfold ins
  rw [List.getD_eq_getElem?_getD]
  by_cases h1 : j ≤ i
  · rw [if_pos h1, List.getElem?_append_left (by omega), List.getElem?_take_of_lt (by omega), List.getD_eq_getElem?_getD]
  · rw [if_neg h1, List.getElem?_append_right (by omega), hl]
    by_cases h2 : j = i + 1
    · rw [if_pos h2, h2, Nat.sub_self]; rfl
    · rw [if_neg h2, show j - (i + 1) = (j - 1 - (i + 1)) + 1 by omega, List.getElem?_cons_succ, List.getElem?_drop, List.getD_eq_getElem?_getD, show i + 1 + (j - 1 - (i + 1)) = j - 1 by omega]
theorem erase_ins {l : List Int} {i : Nat} {x : Int} (h : i ≤ l.length) : (ins l i x).eraseIdx i = l := by
  have hl : (l.take i).length = i := by rw [List.length_take]; omega
  unfold ins
  rw [List.eraseIdx_append_of_length_le (by omega), hl, Nat.sub_self, List.eraseIdx_cons_zero, List.take_append_drop]
section
variable {m : Mp} {A : Int} {i : Nat}
/-- what holds where a stretch was split -/
structure Sp (m : Mp) (A : Int) (i : Nat) : Prop where
  ok : mpOk 8 m
  hi : i < m.starts.length
  lo : m.starts.getD i 0 < A
  up : i + 1 < m.starts.length → A < m.starts.getD (i + 1) 0
  a0 : 1 ≤ A
  a1 : A < 4294967296
  le : m.starts.length ≤ 31
  ep : m.epoch ≤ 65534
theorem Sp.of (c : ChYes 8 m 0 A 0 i) : Sp m A i := by
  obtain ⟨⟨ok, _, _, h0, h1⟩, he, hi, _, ok1⟩ := c
  have hi1 := hi.1
  have ok' := ok
  obtain ⟨p1, p2, p3, p4, p5, p6, p7, p8, p9⟩ := ok
  obtain ⟨q1, q2, q3, q4, q5, q6, q7, q8, q9⟩ := ok1
  have li : (ins m.starts (i + 1) A).length = m.starts.length + 1 := ins_len (by omega) _
  have r1 : (ins m.starts (i + 1) A).getD i 0 < (ins m.starts (i + 1) A).getD (i + 1) 0 := by
    rcases (q9 (i + 1) (by show i + 1 < (ins m.starts (i + 1) A).length; rw [li]; omega)).2.1 with h | h
    · omega
    · exact h
  rw [ins_getD hi1, ins_getD hi1, if_pos (Nat.le_refl _), if_neg (by omega), if_pos rfl] at r1
  have s0 : 0 ≤ m.starts.getD i 0 := by
    rcases Nat.eq_zero_or_pos i with h | h
    · rw [h, p8]; exact Int.le_refl _
    · have := ok'.rise.lt h hi1
      rw [p8] at this; omega
  refine ⟨ok', hi1, r1, hi.2.2, by omega, h1, ?_, by omega⟩
  have : (ins m.starts (i + 1) A).length ≤ 32 := q6
  omega
theorem Sp.ix (c : Sp m A i) : IxAt m.starts (A - 1) i := ⟨c.hi, by have := c.lo; omega, fun h => by have := c.up h; omega⟩
theorem Sp.ix1 (c : Sp m A i) (o : Int) : IxAt (ins m.starts (i + 1) A) A (i + 1) := by
  have li : (ins m.starts (i + 1) A).length = m.starts.length + 1 := ins_len (by have := c.hi; omega) _
  refine ⟨by rw [li]; have := c.hi; omega, ?_, fun h => ?_⟩
  · rw [ins_getD c.hi, if_neg (by omega), if_pos rfl]; exact Int.le_refl _
  · rw [li] at h
    rw [ins_getD c.hi, if_neg (by omega), if_neg (by omega)]
    exact c.up (by omega)
theorem Sp.ix2 (c : Sp m A i) : IxAt (ins m.starts (i + 1) A) (A - 1) i := by
  have li : (ins m.starts (i + 1) A).length = m.starts.length + 1 := ins_len (by have := c.hi; omega) _
  refine ⟨by rw [li]; have := c.hi; omega, ?_, fun h => ?_⟩
  · rw [ins_getD c.hi, if_pos (Nat.le_refl _)]; have := c.lo; omega
  · rw [ins_getD c.hi, if_neg (by omega), if_pos rfl]; omega
/-- whose stretch a place is in does not change by splitting -/
theorem Sp.own (c : Sp m A i) {B : Int} {k k1 : Nat} (hk : IxAt m.starts B k) (hk1 : IxAt (ins m.starts (i + 1) A) B k1) : (ins m.owners (i + 1) (m.owners.getD i 0)).getD k1 0 = m.owners.getD k 0 := by
  have li : (ins m.starts (i + 1) A).length = m.starts.length + 1 := ins_len (by have := c.hi; omega) _
  have hi := c.hi
  have hio : i < m.owners.length := by rw [c.ok.2.2.2.2.2.2.1]; exact hi
  have lo := c.lo
  have up := c.up
  obtain ⟨a1, a2, a3⟩ := hk1
  rw [li] at a1 a3
  rw [ins_getD hi] at a2
  rw [ins_getD hio]
  by_cases h1 : k1 ≤ i
  · rw [if_pos h1] at a2 ⊢
    have : IxAt m.starts B k1 := by
      refine ⟨by omega, a2, fun h => ?_⟩
      have a4 := a3 (by omega)
      rw [ins_getD hi] at a4
      by_cases h2 : k1 + 1 ≤ i
      · rw [if_pos h2] at a4; exact a4
      · rw [if_neg h2, if_pos (by omega)] at a4
        obtain rfl : k1 = i := by omega
        have := up h; omega
    rw [hk.uniq c.ok.rise this]
  · rw [if_neg h1] at a2 ⊢
    by_cases h2 : k1 = i + 1
    · rw [if_pos h2] at a2 ⊢
      have : IxAt m.starts B i := by
        refine ⟨hi, by omega, fun h => ?_⟩
        have a4 := a3 (by omega)
        rw [ins_getD hi, if_neg (by omega), if_neg (by omega)] at a4
        rw [h2] at a4
        exact a4
      rw [hk.uniq c.ok.rise this]
    · rw [if_neg h2] at a2 ⊢
      have : IxAt m.starts B (k1 - 1) := by
        refine ⟨by omega, a2, fun h => ?_⟩
        have a4 := a3 (by omega)
        rw [ins_getD hi, if_neg (by omega), if_neg (by omega)] at a4
        rw [show k1 + 1 - 1 = k1 - 1 + 1 by omega] at a4
        exact a4
      rw [hk.uniq c.ok.rise this]
end
end Go.Proofs.Ythmkenkjfmbkiaa.VM
namespace Go.Proofs.Ythmkenkjfmbkiaa.VM
attribute [local irreducible] Af Nx EvO Ev Un Gd Cd EvR EvQ EvC Nc Gc Lp EvM NxM AfM GdM EvMR EvMQ EvMD EvMC Nm Gm
/-- a struct handed over -/
theorem open_agg {w : World} {v : Value} {avs : List AV} (h : VRs none0 w avs v.cells.toList) (hl : avs.length ≠ 1) : VR none0 w (.agg avs) v := by
  cases v with
  | agg cs => exact .agg h
  | _ => exact absurd h.length hl
theorem wMap {c : List AV} (h : Ws [.int .i64, .sl 8 [.int .i64], .sl 8 [.int .i64]] c) : ∃ (m : Mp) (v u : AV), c = [.int .i64 m.epoch, v, u] ∧ IsL 8 RInt v m.starts ∧ IsL 8 RInt u m.owners ∧ I64 m.epoch := by
  cases h with | cons h1 t => cases t with | cons h2 t => cases t with | cons h3 t =>
    cases t; cases h1 with | int _ n1 w1 =>
      obtain ⟨l7, e7⟩ := h2.isL wInt
      obtain ⟨l8, e8⟩ := h3.isL wInt
      exact ⟨⟨n1, l7, l8⟩, _, _, rfl, e7, e8, i64_wf w1⟩
theorem low32 (t : Int) : ∃ A : Int, 0 ≤ A ∧ A < 4294967296 ∧ bitsOf .and .i64 t 4294967295 = A := by
  have h1 := and_any t (n := 32) (by decide)
  have h2 := Nat.mod_lt (t % 18446744073709551616).toNat (show 0 < 2 ^ 32 by decide)
  have h3 : bitsOf .and .i64 t 4294967295 = (((t % 18446744073709551616).toNat % 2 ^ 32 : Nat) : Int) := by simpa using h1
  exact ⟨_, by omega, by omega, h3⟩
theorem low8 (t : Int) : ∃ d : Int, 0 ≤ d ∧ d < 8 ∧ IntKind.i64.wrap ((IntKind.u64.wrap t).tmod 8) = d := by
  have e1 : IntKind.u64.wrap t = t % 18446744073709551616 := IntKind.wrap_u64 t
  have h0 : 0 ≤ t % 18446744073709551616 := Int.emod_nonneg _ (by decide)
  have e2 : (t % 18446744073709551616).tmod 8 = t % 18446744073709551616 % 8 := Int.tmod_eq_emod_of_nonneg h0
  rw [e1, e2]
  have h3 := Int.emod_lt_of_pos (t % 18446744073709551616) (show (0 : Int) < 8 by decide)
  have h4 := Int.emod_nonneg (t % 18446744073709551616) (show (8 : Int) ≠ 0 by decide)
  exact ⟨_, h4, h3, w64 (by omega) (by omega)⟩
theorem setI_getD {l : List Int} {n j : Nat} {d : Int} (h : j < l.length) : (l.set n d).getD j 0 = if j = n then d else l.getD j 0 := by
  rw [List.getD_eq_getElem?_getD, List.getElem?_set, List.getD_eq_getElem?_getD]
  by_cases e : n = j
  · rw [if_pos e, if_pos e.symm, if_pos (by omega)]; rfl
  · rw [if_neg e, if_neg (Ne.symm e)]
section
variable {P : Program}
theorem mapChanges_pu (g : Pg P tab) (hins : InsOk P) {m : Mp} {v u : AV} (hv : IsL 8 RInt v m.starts) (hu : IsL 8 RInt u m.owners) (ta tb td : Int) : Pu P 7 [.agg [.int .i64 m.epoch, v, u], .int .i64 ta, .int .i64 tb, .int .i64 td] (fun v => v = .bool true) := by
  refine g.pu (vf := v7) rfl rfl ?_
  obtain ⟨A, hA0, hA1, hA⟩ := low32 ta
  obtain ⟨B, hB0, hB1, hB⟩ := low32 td
  obtain ⟨d, hd0, hd1, hd⟩ := low8 tb
  have ov := isL_one hv
  have ou := isL_one hu
  have I : ∀ n : Int, -1000 ≤ n → n ≤ 5000000000 → I64 n := fun n a b => ⟨by omega, by omega⟩
  have ht : AV.tolds [.agg [.int .i64 m.epoch, v, u], .int .i64 8] = true := by simp [AV.tolds, AV.told, hv.told tInt, hu.told tInt]
  have tm : ∀ l, AV.tolds l = true → AV.tolds (.agg [.int .i64 m.epoch, v, u] :: l) = true := fun l hl => by simp [AV.tolds, AV.told, hv.told tInt, hu.told tInt, hl]
  simp only [v7, hA, hB, HN, RW, RX, VOp.fresh, bxC, bsC, un, most, callsOf, seval, Int.reducePow, ↓reduceIte, Nat.reduceEqDiff, reduceCtorEq]
  refine (awake7_pu g hins).go rfl ?_
  rintro _ rfl
  simp only [hA, hB, HN, RW, RX, VOp.fresh, bxC, bsC, un, most, callsOf, seval, Int.reducePow, ↓reduceIte, Nat.reduceEqDiff, reduceCtorEq]
  refine (change_pu g hins (nodes := 8) (k := 0) (a := A) (t := 0) hv hu (I _ (by omega) (by omega)) (I _ (by omega) (by omega))).go (tm _ rfl) ?_
  rintro _ (⟨e, c, rfl⟩ | ⟨i, c, rfl⟩)
  · have he : e = 700 ∨ e = 701 := by rcases c with ⟨_, h⟩ | ⟨_, _, h⟩ | ⟨_, _, h, _⟩ <;> omega
    rcases he with rfl | rfl
    · simp only [HN, RW, RX, VOp.fresh, bxC, bsC, un, most, callsOf, seval, Int.reducePow, ↓reduceIte, Nat.reduceEqDiff, reduceCtorEq]
      refine (num_pu g _).go rfl ?_
      rintro _ rfl
      simp only [HN, RW, RX, VOp.fresh, bxC, bsC, un, most, callsOf, seval, Int.reducePow, ↓reduceIte, Nat.reduceEqDiff, reduceCtorEq]
    · simp only [HN, RW, RX, VOp.fresh, bxC, bsC, un, most, callsOf, seval, Int.reducePow, ↓reduceIte, Nat.reduceEqDiff, reduceCtorEq]
      refine (num_pu g _).go rfl ?_
      rintro _ rfl
      simp only [HN, RW, RX, VOp.fresh, bxC, bsC, un, most, callsOf, seval, Int.reducePow, ↓reduceIte, Nat.reduceEqDiff, reduceCtorEq]
  have sp := Sp.of c
  have ok := sp.ok
  have ok1 := c.2.2.2.2
  have hi := sp.hi
  obtain ⟨p1, p2, p3, p4, p5, p6, p7, p8, p9⟩ := id ok
  have hio : i < m.owners.length := by omega
  have li : (ins m.starts (i + 1) A).length = m.starts.length + 1 := ins_len (by omega) _
  have lo : (ins m.owners (i + 1) (m.owners.getD i 0)).length = m.owners.length + 1 := ins_len (by omega) _
  obtain ⟨r1, r2, r3, r4, r5, r6⟩ := chgR_ok (k := 0) (t := 0) hv hu ⟨by omega, by omega⟩ (I A (by omega) (by omega)) (I 0 (by omega) (by omega)) c.2.2.1 p6 p7 (by simp)
  have em1 : chgR m 0 A 0 i = ⟨m.epoch + 1, ins m.starts (i + 1) A, ins m.owners (i + 1) (m.owners.getD i 0)⟩ := rfl
  rw [em1] at r1 r2 r3 r4 r5 r6 ok1 ⊢
  have hv1 := tI_is r1 r5
  have hu1 := tI_is r2 r6
  have ov1 := isL_one hv1
  have ou1 := isL_one hu1
  obtain ⟨k, hk⟩ := ixAt_ex ok.rise (by omega) (d := B) (by omega)
  obtain ⟨k1, hk1⟩ := ixAt_ex ok1.rise r3 (d := B) (by have := ok1.2.2.2.2.2.2.2.1; omega)
  have own := sp.own hk hk1
  have tm1 : ∀ l, AV.tolds l = true → AV.tolds (.agg [.int .i64 (m.epoch + 1), tI (ins m.starts (i + 1) A), tI (ins m.owners (i + 1) (m.owners.getD i 0))] :: l) = true := fun l hl => by simp only [AV.tolds, AV.told, hv1.told tInt, hu1.told tInt, hl, Bool.and_true, Bool.and_self]
  have w1 : IntKind.i64.wrap (m.epoch + 1) = m.epoch + 1 := w64 (by omega) (by omega)
  have w2 : IntKind.i64.wrap (((m.starts.length : Nat) : Int) + 1) = ((m.starts.length + 1 : Nat) : Int) := by rw [w64 (by omega) (by omega)]; push_cast; rfl
  have w3 : IntKind.i64.wrap (A - 1) = A - 1 := w64 (by omega) (by omega)
  have l1 := hv1.len
  simp only [li] at l1
  simp only [toldMp, ov1, ou1, HN, RW, RX, VOp.fresh, bxC, bsC, un, most, callsOf, seval, Int.reducePow, ↓reduceIte, Nat.reduceEqDiff, reduceCtorEq]
  refine (num_pu g _).go rfl ?_
  rintro _ rfl
  simp only [HN, RW, RX, VOp.fresh, bxC, bsC, un, most, callsOf, seval, Int.reducePow, ↓reduceIte, Nat.reduceEqDiff, reduceCtorEq]
  refine ((owner_pu g hv hu B).1 ok (by omega) (by omega) k hk).go (tm _ rfl) ?_
  rintro _ rfl
  simp only [HN, RW, RX, VOp.fresh, bxC, bsC, un, most, callsOf, seval, Int.reducePow, ↓reduceIte, Nat.reduceEqDiff, reduceCtorEq]
  refine ((owner_pu g (m := ⟨m.epoch + 1, ins m.starts (i + 1) A, ins m.owners (i + 1) (m.owners.getD i 0)⟩) hv1 hu1 B).1 ok1 (by omega) (by omega) k1 hk1).go (tm1 _ rfl) ?_
  rintro _ rfl
  rw [show (Mp.mk (m.epoch + 1) (ins m.starts (i + 1) A) (ins m.owners (i + 1) (m.owners.getD i 0))).owners.getD k1 0 = m.owners.getD k 0 from own]
  simp only [HN, RW, RX, VOp.fresh, bxC, bsC, un, most, callsOf, seval, Int.reducePow, ↓reduceIte, Nat.reduceEqDiff, reduceCtorEq]
  refine (num_pu g _).go rfl ?_
  rintro _ rfl
  simp only [HN, RW, RX, VOp.fresh, bxC, bsC, un, most, callsOf, seval, Int.reducePow, ↓reduceIte, Nat.reduceEqDiff, reduceCtorEq]
  refine (num_pu g _).go rfl ?_
  rintro _ rfl
  have c1 : ¬ A - 1 < 0 := by have := sp.a0; omega
  simp only [w1, w2, w3, l1, hv.len, c1, HN, RW, RX, VOp.fresh, bxC, bsC, un, most, callsOf, seval, Int.reducePow, ↓reduceIte, Nat.reduceEqDiff, reduceCtorEq]
  have hP2 : ChP 8 ⟨m.epoch + 1, ins m.starts (i + 1) A, ins m.owners (i + 1) (m.owners.getD i 0)⟩ 2 (A - 1) := ⟨ok1, by omega, by omega, by omega, by omega⟩
  have e2 : chgR ⟨m.epoch + 1, ins m.starts (i + 1) A, ins m.owners (i + 1) (m.owners.getD i 0)⟩ 2 (A - 1) 0 i = ⟨m.epoch + 1 + 1, m.starts, m.owners⟩ := by
    simp only [chgR, erase_ins (show i + 1 ≤ m.starts.length by omega), erase_ins (show i + 1 ≤ m.owners.length by omega)]
    rfl
  have x2 : ∀ i', IxAt (ins m.starts (i + 1) A) (A - 1) i' → i' = i := fun i' hi' => hi'.uniq ok1.rise sp.ix2
  refine (change_pu g hins (nodes := 8) (m := ⟨m.epoch + 1, ins m.starts (i + 1) A, ins m.owners (i + 1) (m.owners.getD i 0)⟩) (k := 2) (a := A - 1) (t := 0) hv1 hu1 (I _ (by omega) (by omega)) (I _ (by omega) (by omega))).go (tm1 _ rfl) ?_
  rintro _ (⟨e, c2, rfl⟩ | ⟨i', c2, rfl⟩)
  · rcases c2 with ⟨no, _⟩ | ⟨_, h65, rfl⟩ | ⟨_, h65, _, i', hi', no⟩
    · exact absurd hP2 no
    · have h65' : m.epoch + 1 = 65535 := h65
      simp only [HN, RW, RX, VOp.fresh, bxC, bsC, un, most, callsOf, seval, Int.reducePow, ↓reduceIte, Nat.reduceEqDiff, reduceCtorEq]
      refine (num_pu g _).go rfl ?_
      rintro _ rfl
      simp only [h65', HN, RW, RX, VOp.fresh, bxC, bsC, un, most, callsOf, seval, Int.reducePow, ↓reduceIte, Nat.reduceEqDiff, reduceCtorEq]
    · obtain rfl := x2 i' hi'
      rw [e2] at no
      have h65' : ¬ m.epoch + 1 = 65535 := h65
      rcases no with ⟨_, no⟩ | no
      · have : i' + 1 = (ins m.starts (i' + 1) A).length := no
        omega
      · exact absurd ⟨p1, p2, by show 1 ≤ m.epoch + 1 + 1; omega, by show m.epoch + 1 + 1 ≤ 65535; have := ok1.2.2.2.1; simp only at this; omega, p5, p6, p7, p8, p9⟩ no
  obtain rfl := x2 i' c2.2.2.1
  have h65 : ¬ m.epoch + 1 = 65535 := c2.2.1
  have hep := ok1.2.2.2.1
  simp only at hep
  rw [e2]
  have hvs := tI_is (isL_i64 hv) (by omega)
  have hus := tI_is (isL_i64 hu) (by omega)
  have ovs := isL_one hvs
  have ous := isL_one hus
  simp only [toldMp, ovs, ous, HN, RW, RX, VOp.fresh, bxC, bsC, un, most, callsOf, seval, Int.reducePow, ↓reduceIte, Nat.reduceEqDiff, reduceCtorEq]
  refine (num_pu g _).go rfl ?_
  rintro _ rfl
  simp only [hd, HN, RW, RX, VOp.fresh, bxC, bsC, un, most, callsOf, seval, Int.reducePow, ↓reduceIte, Nat.reduceEqDiff, reduceCtorEq]
  -- the gift
  have hP3 : ChP 8 ⟨m.epoch + 1, ins m.starts (i' + 1) A, ins m.owners (i' + 1) (m.owners.getD i' 0)⟩ 1 A := ⟨ok1, by omega, by omega, by omega, by omega⟩
  have e3 : chgR ⟨m.epoch + 1, ins m.starts (i' + 1) A, ins m.owners (i' + 1) (m.owners.getD i' 0)⟩ 1 A d (i' + 1) = ⟨m.epoch + 1 + 1, ins m.starts (i' + 1) A, (ins m.owners (i' + 1) (m.owners.getD i' 0)).set (i' + 1) d⟩ := rfl
  have x3 : ∀ j, IxAt (ins m.starts (i' + 1) A) A j → j = i' + 1 := fun j hj => hj.uniq ok1.rise (sp.ix1 0)
  have gd : ∀ j, j < m.owners.length + 1 → ((ins m.owners (i' + 1) (m.owners.getD i' 0)).set (i' + 1) d).getD j 0 = if j = i' + 1 then d else (ins m.owners (i' + 1) (m.owners.getD i' 0)).getD j 0 := fun j hj => setI_getD (by rw [lo]; exact hj)
  have ok3 : mpOk 8 ⟨m.epoch + 1 + 1, ins m.starts (i' + 1) A, (ins m.owners (i' + 1) (m.owners.getD i' 0)).set (i' + 1) d⟩ := by
    obtain ⟨q1, q2, q3, q4, q5, q6, q7, q8, q9⟩ := id ok1
    refine ⟨q1, q2, by show 1 ≤ m.epoch + 1 + 1; omega, by show m.epoch + 1 + 1 ≤ 65535; omega, q5, q6, by simp only [List.length_set]; exact q7, q8, fun j hj => ?_⟩
    obtain ⟨z1, z2, z3, z4⟩ := q9 j hj
    have hj' : j < (ins m.starts (i' + 1) A).length := hj
    refine ⟨z1, z2, ?_, ?_⟩
    · show 0 ≤ ((ins m.owners (i' + 1) (m.owners.getD i' 0)).set (i' + 1) d).getD j 0
      rw [gd j (by omega)]; split
      · exact hd0
      · exact z3
    · show ((ins m.owners (i' + 1) (m.owners.getD i' 0)).set (i' + 1) d).getD j 0 < 8
      rw [gd j (by omega)]; split
      · exact hd1
      · exact z4
  refine (change_pu g hins (nodes := 8) (m := ⟨m.epoch + 1, ins m.starts (i' + 1) A, ins m.owners (i' + 1) (m.owners.getD i' 0)⟩) (k := 1) (a := A) (t := d) hv1 hu1 (I _ (by omega) (by omega)) (I _ (by omega) (by omega))).go (tm1 _ rfl) ?_
  rintro _ (⟨e, c3, rfl⟩ | ⟨j, c3, rfl⟩)
  · rcases c3 with ⟨no, _⟩ | ⟨_, h65', rfl⟩ | ⟨_, _, _, j, hj, no⟩
    · exact absurd hP3 no
    · exact absurd h65' h65
    · obtain rfl := x3 j hj
      rw [e3] at no
      rcases no with ⟨no, _⟩ | no
      · omega
      · exact absurd ok3 no
  obtain rfl := x3 j c3.2.2.1
  rw [e3]
  have hu3 : IsL 8 RInt (tI ((ins m.owners (i' + 1) (m.owners.getD i' 0)).set (i' + 1) d)) ((ins m.owners (i' + 1) (m.owners.getD i' 0)).set (i' + 1) d) := by
    refine tI_is (fun y hy => (List.mem_or_eq_of_mem_set hy).elim (r2 y) (fun e => e ▸ I _ (by omega) (by omega))) (by rw [List.length_set]; exact r6)
  have ou3 := isL_one hu3
  have tm3 : ∀ l, AV.tolds l = true → AV.tolds (.agg [.int .i64 (m.epoch + 1 + 1), tI (ins m.starts (i' + 1) A), tI ((ins m.owners (i' + 1) (m.owners.getD i' 0)).set (i' + 1) d)] :: l) = true := fun l hl => by simp only [AV.tolds, AV.told, hv1.told tInt, hu3.told tInt, hl, Bool.and_true, Bool.and_self]
  simp only [toldMp, ou3, ov1, HN, RW, RX, VOp.fresh, bxC, bsC, un, most, callsOf, seval, Int.reducePow, ↓reduceIte, Nat.reduceEqDiff, reduceCtorEq]
  refine ((owner_pu g (m := ⟨m.epoch + 1 + 1, ins m.starts (i' + 1) A, (ins m.owners (i' + 1) (m.owners.getD i' 0)).set (i' + 1) d⟩) hv1 hu3 A).1 ok3 (by omega) (by omega) (i' + 1) (sp.ix1 0)).go (tm3 _ rfl) ?_
  rintro _ rfl
  rw [show (Mp.mk (m.epoch + 1 + 1) (ins m.starts (i' + 1) A) ((ins m.owners (i' + 1) (m.owners.getD i' 0)).set (i' + 1) d)).owners.getD (i' + 1) 0 = d from (gd _ (by omega)).trans (if_pos rfl)]
  simp only [HN, RW, RX, VOp.fresh, bxC, bsC, un, most, callsOf, seval, Int.reducePow, ↓reduceIte, Nat.reduceEqDiff, reduceCtorEq]
  refine ((owner_pu g (m := ⟨m.epoch + 1 + 1, ins m.starts (i' + 1) A, (ins m.owners (i' + 1) (m.owners.getD i' 0)).set (i' + 1) d⟩) hv1 hu3 (A - 1)).1 ok3 (by omega) (by omega) i' sp.ix2).go (tm3 _ rfl) ?_
  rintro _ rfl
  rw [show (Mp.mk (m.epoch + 1 + 1) (ins m.starts (i' + 1) A) ((ins m.owners (i' + 1) (m.owners.getD i' 0)).set (i' + 1) d)).owners.getD i' 0 = m.owners.getD i' 0 from ((gd _ (by omega)).trans (if_neg (by omega))).trans ((ins_getD hio _).trans (if_pos (Nat.le_refl _)))]
  simp only [HN, RW, RX, VOp.fresh, bxC, bsC, un, most, callsOf, seval, Int.reducePow, ↓reduceIte, Nat.reduceEqDiff, reduceCtorEq]
  refine ((owner_pu g hv hu (A - 1)).1 ok (by omega) (by omega) i' sp.ix).go (tm _ rfl) ?_
  rintro _ rfl
  simp only [HN, RW, RX, VOp.fresh, bxC, bsC, un, most, callsOf, seval, Int.reducePow, ↓reduceIte, Nat.reduceEqDiff, reduceCtorEq]
  have num0 := num_pu g 0
  refine num0.go rfl ?_
  rintro _ rfl
  have w4 : IntKind.i64.wrap (m.epoch + 2) = m.epoch + 1 + 1 := by rw [w64 (by omega) (by omega)]; omega
  simp only [w4, HN, RW, RX, VOp.fresh, bxC, bsC, un, most, callsOf, seval, Int.reducePow, ↓reduceIte, Nat.reduceEqDiff, reduceCtorEq]
  refine (sInts_pu g hvs hv).go (by simp only [AV.tolds, hvs.told tInt, hv.told tInt, Bool.and_self]) ?_
  rintro _ rfl
  simp only [w4, HN, RW, RX, VOp.fresh, bxC, bsC, un, most, callsOf, seval, Int.reducePow, ↓reduceIte, Nat.reduceEqDiff, reduceCtorEq]
  refine (sInts_pu g hus hu).go (by simp only [AV.tolds, hus.told tInt, hu.told tInt, Bool.and_self]) ?_
  rintro _ rfl
  simp only [w4, HN, RW, RX, VOp.fresh, bxC, bsC, un, most, callsOf, seval, Int.reducePow, ↓reduceIte, Nat.reduceEqDiff, reduceCtorEq]
  refine num0.go rfl ?_
  rintro _ rfl
  simp only [HN, RW, RX, VOp.fresh, bxC, bsC, un, most, callsOf, seval, Int.reducePow, ↓reduceIte, Nat.reduceEqDiff, reduceCtorEq]
  refine num0.go rfl ?_
  rintro _ rfl
  simp only [HN, RW, RX, VOp.fresh, bxC, bsC, un, most, callsOf, seval, Int.reducePow, ↓reduceIte, Nat.reduceEqDiff, reduceCtorEq]
  refine num0.go rfl ?_
  rintro _ rfl
  simp only [HN, RW, RX, VOp.fresh, bxC, bsC, un, most, callsOf, seval, Int.reducePow, ↓reduceIte, Nat.reduceEqDiff, reduceCtorEq]
  refine num0.go rfl ?_
  rintro _ rfl
  simp only [HN, RW, RX, VOp.fresh, bxC, bsC, un, most, callsOf, seval, Int.reducePow, ↓reduceIte, Nat.reduceEqDiff, reduceCtorEq]
end
end Go.Proofs.Ythmkenkjfmbkiaa.VM
