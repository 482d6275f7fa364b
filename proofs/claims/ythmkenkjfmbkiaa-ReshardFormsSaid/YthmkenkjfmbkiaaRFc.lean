/- Part of a proof: what stands for the program, and its walk. No condition. -/
import Derived.Below
import Derived.ChangeArms
import Derived.ChangeMaps5
import Derived.Laws.Cells
import Derived.Laws.IdiomCopy
import Derived.MapKept
import Derived.Orders
import Derived.Shelf.Spec.SlicesInsertGrow
import Derived.SizedLaws
import Derived.WalkKit
import Derived.WalkLawsBesides
import GoSem.Claim
import Derived.Test.YthmkenkjfmbkiaaRFb
set_option linter.unusedSimpArgs false
set_option linter.unusedVariables false
set_option linter.defProp false
set_option maxHeartbeats 1000000
namespace Go.Proofs.Ythmkenkjfmbkiaa.VM
open Go.RowKit
/-- nothing of what was there is changed -/
def Ext (h h' : Heap) : Prop := h.next ≤ h'.next ∧ ∀ b, b < h.next → h'.get b = h.get b
theorem Ext.refl (h : Heap) : Ext h h := ⟨Nat.le_refl _, fun _ _ => rfl⟩
theorem Ext.trans {a b c : Heap} (x : Ext a b) (y : Ext b c) : Ext a c := ⟨Nat.le_trans x.1 y.1, fun n hn => (y.2 n (Nat.lt_of_lt_of_le hn x.1)).trans (x.2 n hn)⟩
theorem Ext.mk {h : Heap} (x : Blk) : Ext h (h.mk' h.next x) := ⟨by rw [mk_next]; omega, fun b hb => by rw [Heap.get_mk, if_neg (by omega)]⟩
mutual
/-- A live value, told; the blocks that it reaches, in their row. -/
inductive Fd (h : Heap) : AV → AV → List Nat → Prop
  | told {x : AV} (hx : x.told = true) : Fd h x x []
  | sl {b off len cap sz : Nat} {l cs cs' : List AV} {e : TypeId} {ver : Nat} {D : List Nat} (hl : 0 < len) (hn : b < h.next) (hg : h.get b = some (.cells l e ver)) (hc : cut l off (len * sz) = some cs) (t : Fds h cs cs' D) : Fd h (.sl b off len cap sz) (.rs cs' len) (b :: D)
  | sl0 {b off cap sz : Nat} : Fd h (.sl b off 0 cap sz) (.rs [] 0) []
  | ptr {b off : Nat} {l cs' : List AV} {e : TypeId} {ver : Nat} {D : List Nat} (hn : b < h.next) (hg : h.get b = some (.cells l e ver)) (t : Fds h (l.drop off) cs' D) : Fd h (.ptr b off) (.rp cs') (b :: D)
  | agg {l l' : List AV} {D : List Nat} (t : Fds h l l' D) : Fd h (.agg l) (.agg l') D
  | tup {l l' : List AV} {D : List Nat} (t : Fds h l l' D) : Fd h (.tup l) (.tup l') D
inductive Fds (h : Heap) : List AV → List AV → List Nat → Prop
  | nil : Fds h [] [] []
  | cons {x y : AV} {l k : List AV} {D E : List Nat} (f : Fd h x y D) (t : Fds h l k E) : Fds h (x :: l) (y :: k) (D ++ E)
end
section
variable {h h' : Heap}
theorem Fds.tolds : ∀ {l : List AV}, AV.tolds l = true → Fds h l l []
  | [], _ => .nil
  | x :: l, e => by
    simp only [AV.tolds, Bool.and_eq_true] at e
    exact .cons (D := []) (.told e.1) (Fds.tolds e.2)
theorem Fds.app : ∀ {l l' k k' : List AV} {D E : List Nat}, Fds h l k D → Fds h l' k' E → Fds h (l ++ l') (k ++ k') (D ++ E)
  | _, _, _, _, _, _, .nil, t => t
  | _, _, _, _, _, _, .cons f t, t' => by rw [List.append_assoc]; exact .cons f (t.app t')
theorem Fds.length : ∀ {l k : List AV} {D : List Nat}, Fds h l k D → k.length = l.length
  | _, _, _, .nil => rfl
  | _, _, _, .cons _ t => by simp [t.length]
theorem Fds.cast {l k : List AV} {D E : List Nat} (t : Fds h l k D) (e : D = E) : Fds h l k E := e ▸ t
theorem Fd.cast {l k : AV} {D E : List Nat} (t : Fd h l k D) (e : D = E) : Fd h l k E := e ▸ t
mutual
theorem Fd.fz : ∀ {x y : AV} {D : List Nat}, Fd h x y D → Fz true h x y
  | _, _, _, .told hx => Fz.refl hx
  | _, _, _, .sl hl _ hg hc t => .sl hl hg hc t.fzs
  | _, _, _, .sl0 => .sl0
  | _, _, _, .ptr _ hg t => .ptr hg t.fzs
  | _, _, _, .agg t => .agg t.fzs
  | _, _, _, .tup t => .tup t.fzs
theorem Fds.fzs : ∀ {x y : List AV} {D : List Nat}, Fds h x y D → Fzs true h x y
  | _, _, _, .nil => .nil
  | _, _, _, .cons f t => .cons f.fz t.fzs
end
mutual
theorem Fd.frame (hn : h.next ≤ h'.next) : ∀ {x y : AV} {D : List Nat}, Fd h x y D → (∀ b ∈ D, h'.get b = h.get b) → Fd h' x y D
  | _, _, _, .told hx, _ => .told hx
  | _, _, _, .sl hl hb hg hc t, k => .sl hl (Nat.lt_of_lt_of_le hb hn) ((k _ List.mem_cons_self).trans hg) hc (t.frame hn fun b hb => k b (List.mem_cons_of_mem _ hb))
  | _, _, _, .sl0, _ => .sl0
  | _, _, _, .ptr hb hg t, k => .ptr (Nat.lt_of_lt_of_le hb hn) ((k _ List.mem_cons_self).trans hg) (t.frame hn fun b hb => k b (List.mem_cons_of_mem _ hb))
  | _, _, _, .agg t, k => .agg (t.frame hn k)
  | _, _, _, .tup t, k => .tup (t.frame hn k)
theorem Fds.frame (hn : h.next ≤ h'.next) : ∀ {x y : List AV} {D : List Nat}, Fds h x y D → (∀ b ∈ D, h'.get b = h.get b) → Fds h' x y D
  | _, _, _, .nil, _ => .nil
  | _, _, _, .cons f t, k => .cons (f.frame hn fun b hb => k b (List.mem_append_left _ hb)) (t.frame hn fun b hb => k b (List.mem_append_right _ hb))
end
mutual
theorem Fd.lt : ∀ {x y : AV} {D : List Nat}, Fd h x y D → ∀ b ∈ D, b < h.next
  | _, _, _, .told hx => fun b hb => by simp at hb
  | _, _, _, .sl hl hb hg hc t => fun b h => by rcases List.mem_cons.1 h with rfl | h; exact hb; exact t.lt b h
  | _, _, _, .sl0 => fun b hb => by simp at hb
  | _, _, _, .ptr hb hg t => fun b h => by rcases List.mem_cons.1 h with rfl | h; exact hb; exact t.lt b h
  | _, _, _, .agg t => t.lt
  | _, _, _, .tup t => t.lt
theorem Fds.lt : ∀ {x y : List AV} {D : List Nat}, Fds h x y D → ∀ b ∈ D, b < h.next
  | _, _, _, .nil => fun b hb => by simp at hb
  | _, _, _, .cons f t => fun b h => by rcases List.mem_append.1 h with h | h; exact f.lt b h; exact t.lt b h
end
theorem Fd.ext {x y : AV} {D : List Nat} (f : Fd h x y D) (e : Ext h h') : Fd h' x y D := f.frame e.1 fun b hb => e.2 b (f.lt b hb)
theorem Fds.ext {x y : List AV} {D : List Nat} (f : Fds h x y D) (e : Ext h h') : Fds h' x y D := f.frame e.1 fun b hb => e.2 b (f.lt b hb)
end
mutual
/-- numbers, truths, texts, slices and structs of them: nothing told, no functions, no maps -/
def AV.bare : AV → Bool
  | .undef | .bool _ | .int .. | .str _ | .nilp | .nils | .nilm | .nilf | .ptr .. | .sl .. => true
  | .agg l | .tup l => AV.bares l
  | _ => false
def AV.bares : List AV → Bool
  | [] => true
  | x :: l => x.bare && AV.bares l
end
theorem bares_app : ∀ {l k : List AV}, AV.bares (l ++ k) = (AV.bares l && AV.bares k)
  | [], _ => by simp [AV.bares]
  | x :: l, k => by rw [List.cons_append, AV.bares, AV.bares, bares_app, Bool.and_assoc]
/-- all that is reached is bare, block by block -/
def Own (h : Heap) (D : List Nat) : Prop := ∀ b ∈ D, ∃ l e ver, h.get b = some (.cells l e ver) ∧ AV.bares l = true
mutual
def sh (n : Nat) : AV → AV
  | .ptr b off => .ptr (n + b) off
  | .sl b off len cap sz => .sl (n + b) off len cap sz
  | .agg l => .agg (shs n l)
  | .tup l => .tup (shs n l)
  | x => x
def shs (n : Nat) : List AV → List AV
  | [] => []
  | x :: l => sh n x :: shs n l
end
theorem shs_map (n : Nat) : ∀ l, shs n l = l.map (sh n)
  | [] => rfl
  | x :: l => by rw [shs, List.map_cons, shs_map]
section
variable {φ φ2 : Env} {w : World} {n : Nat}
mutual
theorem VR.sh (h2 : ∀ b p, φ b = some p → φ2 (n + b) = some p) : ∀ {x : AV} {u : Value}, VR φ w x u → x.bare = true → VR φ2 w (VM.sh n x) u
  | _, _, .undef, _ => .undef
  | _, _, .bool b, _ => .bool b
  | _, _, .int k n, _ => .int k n
  | _, _, .str s, _ => .str s
  | _, _, .ptr h, _ => .ptr (h2 _ _ h)
  | _, _, .nilp, _ => .nilp
  | _, _, .sl h hc hl hs hr, _ => .sl (h2 _ _ h) hc hl hs hr
  | _, _, .sl0 a, _ => .sl0 a
  | _, _, .nils, _ => .nils
  | _, _, .map h, e => by cases e
  | _, _, .nilm, _ => .nilm
  | _, _, .fn h, e => by cases e
  | _, _, .nilf, _ => .nilf
  | _, _, .agg h, e => .agg (VRs.sh h2 h e)
  | _, _, .tup h, e => .tup (VRs.sh h2 h e)
  | _, _, .rs .., e => by cases e
  | _, _, .rs0 .., e => by cases e
  | _, _, .rp .., e => by cases e
theorem VRs.sh (h2 : ∀ b p, φ b = some p → φ2 (n + b) = some p) : ∀ {x : List AV} {u : List Value}, VRs φ w x u → AV.bares x = true → VRs φ2 w (VM.shs n x) u
  | _, _, .nil, _ => .nil
  | _, _, .cons h t, e => by
    simp only [AV.bares, Bool.and_eq_true] at e
    exact .cons (VR.sh h2 h e.1) (VRs.sh h2 t e.2)
end
theorem VRm.sh (h2 : ∀ b p, φ b = some p → φ2 (n + b) = some p) : ∀ {x : List AV} {B o : Nat}, VRm φ w x B o → AV.bares x = true → VRm φ2 w (VM.shs n x) B o
  | _, _, _, .nil, _ => .nil
  | _, _, _, .cons hc h t, e => by
    simp only [AV.bares, Bool.and_eq_true] at e
    exact .cons hc (VR.sh h2 h e.1) (VRm.sh h2 t e.2)
end
theorem shs_cut {n : Nat} {l cs : List AV} {i m : Nat} (h : cut l i m = some cs) : cut (shs n l) i m = some (shs n cs) := by
  rw [cut_eq] at h ⊢
  split at h
  · rename_i e
    cases h
    rw [shs_map, shs_map, ← List.map_drop, ← List.map_take, List.length_map, if_pos e]
  · cases h
theorem shs_drop (n : Nat) (l : List AV) (i : Nat) : shs n (l.drop i) = (shs n l).drop i := by rw [shs_map, shs_map, List.map_drop]
/-- memory with new blocks behind it -/
def lay (h : Heap) (h0 : Heap) (D : List Nat) : Nat → T Blk
  | 0 => h.t
  | m + 1 => (lay h h0 D m).set (h.next + m) (if m ∈ D then (match h0.get m with
    | some (.cells l e ver) => .cells (shs h.next l) e ver
    | _ => .dead) else .dead)
theorem lay_get (h h0 : Heap) (D : List Nat) (b : Nat) : ∀ m, (lay h h0 D m).get b = if h.next ≤ b ∧ b < h.next + m then some (if b - h.next ∈ D then (match h0.get (b - h.next) with
    | some (.cells l e ver) => .cells (shs h.next l) e ver
    | _ => .dead) else .dead) else h.get b
  | 0 => by rw [if_neg (by omega)]; rfl
  | m + 1 => by
    rw [lay, T.get_set, lay_get h h0 D b m]
    by_cases e : b = h.next + m
    · subst e
      rw [if_pos rfl, if_pos (show h.next ≤ h.next + m ∧ h.next + m < h.next + (m + 1) from ⟨by omega, by omega⟩), Nat.add_sub_cancel_left]
    · rw [if_neg e]
      by_cases c : h.next ≤ b ∧ b < h.next + m
      · rw [if_pos c, if_pos (show h.next ≤ b ∧ b < h.next + (m + 1) from ⟨by omega, by omega⟩)]
      · rw [if_neg c, if_neg (show ¬ (h.next ≤ b ∧ b < h.next + (m + 1)) from by omega)]
def laid (h h0 : Heap) (D : List Nat) : Heap := ⟨h.next + h0.next, lay h h0 D h0.next⟩
theorem laid_old {h h0 : Heap} {D : List Nat} {b : Nat} (hb : b < h.next) : (laid h h0 D).get b = h.get b := by
  show (lay h h0 D h0.next).get b = _
  rw [lay_get, if_neg (by omega)]
theorem laid_new {h h0 : Heap} {D : List Nat} {b : Nat} {l : List AV} {e : TypeId} {ver : Nat} (hb : b < h0.next) (hD : b ∈ D) (hg : h0.get b = some (.cells l e ver)) : (laid h h0 D).get (h.next + b) = some (.cells (shs h.next l) e ver) := by
  show (lay h h0 D h0.next).get (h.next + b) = _
  rw [lay_get, if_pos ⟨by omega, by omega⟩, Nat.add_sub_cancel_left, if_pos hD, hg]
theorem laid_ext (h h0 : Heap) (D : List Nat) : Ext h (laid h h0 D) := ⟨Nat.le_add_right _ _, fun _ hb => laid_old hb⟩
section
variable {P : Program}
/-- A call that was shown in an empty memory, in any memory: what it makes is laid behind it. -/
theorem OK.laid {f : Nat} {args args' : List AV} {h h0 : Heap} {v : AV} {D : List Nat} (ha : Fzs true h args args') (o : OK P f args' ⟨0, .e⟩ v h0) (hv : v.bare = true) (hD : Own h0 D) (hlt : ∀ b ∈ D, b < h0.next) :
    OK P f args h (sh h.next v) (VM.laid h h0 D) := by
  refine ⟨o.1, fun φ w us hr hus => ?_⟩
  have hus' : VRs none0 w args' us.toList := Fzs.vrs hr (fun _ _ _ _ c p e => by cases e) (fun _ _ => rfl) ha hus
  refine Calls.mono (o.2 none0 w us (hr_empty w) hus') ?_
  rintro e w' ⟨φ', u, rfl, hvu, hr', hu⟩
  have old : ∀ b p, φ b = some p → b < h.next := fun b p hb => by
    rcases Nat.lt_or_ge b h.next with c | c
    · exact c
    · have := hr.blk b
      rw [hr.next b c] at this
      rw [show φ b = none from this] at hb; cases hb
  have new' : ∀ b B o, φ' b = some (B, o) → w.heap.size ≤ B := fun b B o hb => by
    rcases hu.new b B o hb with ⟨_, _, c⟩ | c
    · cases c
    · exact c
  have keep : ∀ B, B < w.heap.size → w'.heap[B]? = w.heap[B]? := fun B hB => hu.keep B hB fun _ _ c => by cases c
  let φ2 : Env := fun b => if b < h.next then φ b else φ' (b - h.next)
  have f1 : ∀ b, b < h.next → φ2 b = φ b := fun b hb => if_pos hb
  have f2 : ∀ b, φ2 (h.next + b) = φ' b := fun b => by
    show (if h.next + b < h.next then _ else _) = _
    rw [if_neg (by omega), Nat.add_sub_cancel_left]
  have f2' : ∀ b, h.next ≤ b → φ2 b = φ' (b - h.next) := fun b hb => if_neg (by omega)
  have hU : Upd φ w φ2 w' := ⟨hu.os, hu.tape, hu.output, hu.size, fun b p hb => by rw [f1 b (old b p hb)]; exact hb, fun b B o hb => by
      rcases Nat.lt_or_ge b h.next with c | c
      · rw [f1 b c] at hb; exact .inl ⟨_, _, hb⟩
      · rw [f2' b c] at hb; exact .inr (new' _ _ _ hb), fun B hB _ => keep B hB, hu.shape, hu.drawn⟩
  have g2 : ∀ b, h.next ≤ b → ((VM.laid h h0 D).get b = some .dead ∨ (∃ l e ver, b - h.next ∈ D ∧ h0.get (b - h.next) = some (.cells l e ver) ∧ AV.bares l = true ∧ (VM.laid h h0 D).get b = some (.cells (shs h.next l) e ver)) ∨ (h0.next ≤ b - h.next ∧ (VM.laid h h0 D).get b = none)) := fun b hb => by
    by_cases c : b - h.next ∈ D
    · obtain ⟨l, e, ver, q1, q2⟩ := hD _ c
      refine .inr (.inl ⟨l, e, ver, c, q1, q2, ?_⟩)
      have := laid_new (h := h) (hlt _ c) c q1
      rwa [show h.next + (b - h.next) = b by omega] at this
    · have : (VM.laid h h0 D).get b = if h.next ≤ b ∧ b < h.next + h0.next then some .dead else h.get b := by
        show (lay h h0 D h0.next).get b = _
        rw [lay_get, if_neg c]
      rw [this]
      by_cases c2 : b < h.next + h0.next
      · rw [if_pos ⟨hb, c2⟩]; exact .inl rfl
      · rw [if_neg (by omega), hr.next b hb]; exact .inr (.inr ⟨by omega, rfl⟩)
  refine ⟨φ2, u, rfl, hvu.sh (fun b p hb => by rw [f2]; exact hb) hv, ⟨fun b => ?_, fun b p hb => ?_, fun b b' p p' hl hl' hp hp' he => ?_, fun b hb => ?_⟩, ?_⟩
  · rcases Nat.lt_or_ge b h.next with c | c
    · rw [laid_old c]
      cases hl : live (h.get b) with
      | true => exact BR.upd hr hU hl fun p hp => keep _ (hr.lt _ _ hp)
      | false =>
        have hb := hr.blk b
        rcases not_live (x := h.get b) (by rw [hl]; simp) with e | e
        · rw [e] at hb ⊢
          exact (f1 b c).trans hb
        · rw [e]; trivial
    · rcases g2 b c with e | ⟨l, e, ver, q0, q1, q2, q3⟩ | ⟨e1, e⟩
      · rw [e]; trivial
      · rw [q3]
        have hb := hr'.blk (b - h.next)
        rw [q1] at hb
        obtain ⟨B, o, e', n, h1, h2, h3, h4, h5⟩ := hb
        exact ⟨B, o, e', n, by rw [f2' b c]; exact h1, h2, h3.sh (fun b p hb => by rw [f2]; exact hb) q2, h4, by rw [shs_map, List.length_map]; exact h5⟩
      · rw [e]
        have hb := hr'.blk (b - h.next)
        rw [hr'.next _ e1] at hb
        exact (f2' b c).trans hb
  · rcases Nat.lt_or_ge b h.next with c | c
    · rw [f1 b c] at hb
      exact Nat.lt_of_lt_of_le (hr.lt _ _ hb) hu.size
    · rw [f2' b c] at hb
      exact hr'.lt _ _ hb
  · rcases Nat.lt_or_ge b h.next with c | c <;> rcases Nat.lt_or_ge b' h.next with c' | c'
    · rw [f1 b c] at hp; rw [f1 b' c'] at hp'
      rw [laid_old c] at hl; rw [laid_old c'] at hl'
      exact hr.inj b b' p p' hl hl' hp hp' he
    · rw [f1 b c] at hp; rw [f2' b' c'] at hp'
      have := hr.lt _ _ hp
      have := new' _ p'.1 p'.2 hp'
      omega
    · rw [f2' b c] at hp; rw [f1 b' c'] at hp'
      have := hr.lt _ _ hp'
      have := new' _ p.1 p.2 hp
      omega
    · rw [f2' b c] at hp; rw [f2' b' c'] at hp'
      have L : ∀ d, h.next ≤ d → live ((VM.laid h h0 D).get d) = true → live (h0.get (d - h.next)) = true := fun d hd hl => by
        rcases g2 d hd with e | ⟨l, e, ver, q0, q1, q2, q3⟩ | ⟨_, e⟩
        · rw [e] at hl; cases hl
        · rw [q1]; rfl
        · rw [e] at hl; cases hl
      have := hr'.inj _ _ p p' (L b c hl) (L b' c' hl') hp hp' he
      omega
  · have hb' : h.next + h0.next ≤ b := hb
    rcases g2 b (by omega) with e | ⟨l, e, ver, q0, _⟩ | ⟨_, e⟩
    · exfalso
      have : (VM.laid h h0 D).get b = h.get b := by
        show (lay h h0 D h0.next).get b = _
        rw [lay_get, if_neg (by omega)]
      rw [this, hr.next b (by omega)] at e; cases e
    · have := hlt _ q0; omega
    · exact e
  · have oldg : ∀ b, h.get b ≠ none → b < h.next := fun b hb => by
      rcases Nat.lt_or_ge b h.next with c | c
      · exact c
      · exact absurd (hr.next b c) hb
    exact { toUpd := hU, keepL := fun B hB _ => keep B hB
            deadL := fun b h1 h2 => by rw [laid_old (oldg b h1)]; exact ⟨h1, h2, f1 b (oldg b h1)⟩
            newL := fun b B o h1 h2 => by
              rcases Nat.lt_or_ge b h.next with c | c
              · rw [laid_old c] at h1; rw [f1 b c] at h2; exact .inl ⟨_, _, h1, h2⟩
              · rw [f2' b c] at h2; exact .inr (new' _ _ _ h2)
            stay := fun b h1 => by rw [laid_old (oldg b h1)]; exact h1 }
end
def blkOf : AV → List Nat
  | .sl b .. => [b]
  | _ => []
/-- a slice over the whole of its block, or none -/
def Row (h : Heap) (v : AV) (sz : Nat) (cs : List AV) (n : Nat) : Prop :=
  (v = .nils ∧ n = 0 ∧ cs = []) ∨ ∃ b e ver, v = .sl b 0 n n sz ∧ 0 < n ∧ b < h.next ∧ cs.length = n * sz ∧ h.get b = some (.cells cs e ver)
theorem Row.nil (h : Heap) (sz : Nat) : Row h .nils sz [] 0 := .inl ⟨rfl, rfl, rfl⟩
theorem Row.len {h : Heap} {v : AV} {sz n : Nat} {cs : List AV} (r : Row h v sz cs n) (hh : Heap) : lnV hh v = .val (.int .i64 n) hh := by
  rcases r with ⟨rfl, rfl, rfl⟩ | ⟨b, e, ver, rfl, _⟩ <;> rfl
theorem Row.one {h : Heap} {v : AV} {sz n : Nat} {cs : List AV} (r : Row h v sz cs n) : v.one = true := by
  rcases r with ⟨rfl, rfl, rfl⟩ | ⟨b, e, ver, rfl, _⟩ <;> rfl
theorem Row.bare {h : Heap} {v : AV} {sz n : Nat} {cs : List AV} (r : Row h v sz cs n) : v.bare = true := by
  rcases r with ⟨rfl, rfl, rfl⟩ | ⟨b, e, ver, rfl, _⟩ <;> rfl
theorem Row.lt {h : Heap} {v : AV} {sz n : Nat} {cs : List AV} (r : Row h v sz cs n) : ∀ b ∈ blkOf v, b < h.next := by
  rcases r with ⟨rfl, rfl, rfl⟩ | ⟨b, e, ver, rfl, _, h1, _⟩
  · intro b hb; simp [blkOf] at hb
  · intro c hc; simp [blkOf] at hc; omega
theorem Row.frame {h h' : Heap} {v : AV} {sz n : Nat} {cs : List AV} (r : Row h v sz cs n) (hn : h.next ≤ h'.next) (hg : ∀ b ∈ blkOf v, h'.get b = h.get b) : Row h' v sz cs n := by
  rcases r with ⟨rfl, rfl, rfl⟩ | ⟨b, e, ver, rfl, h0, h1, h2, h3⟩
  · exact .nil _ _
  · exact .inr ⟨b, e, ver, rfl, h0, by omega, h2, (hg b (by simp [blkOf])).trans h3⟩
theorem Row.ext {h h' : Heap} {v : AV} {sz n : Nat} {cs : List AV} (r : Row h v sz cs n) (e : Ext h h') : Row h' v sz cs n := r.frame e.1 fun b hb => e.2 b (r.lt b hb)
theorem Row.length {h : Heap} {v : AV} {sz n : Nat} {cs : List AV} (r : Row h v sz cs n) : cs.length = n * sz := by
  rcases r with ⟨rfl, rfl, rfl⟩ | ⟨b, e, ver, rfl, _, _, h2, _⟩
  · simp
  · exact h2
theorem cells_of {h : Heap} {b n sz : Nat} {c : List AV} {e : TypeId} {ver : Nat} (hg : h.get b = some (.cells c e ver)) (hl : c.length = n * sz) (cap : Nat) : cellsOf h sz n (.sl b 0 n cap sz) = some c := by
  simp only [cellsOf, Nat.le_refl, if_true, hg, cut_eq, List.drop_zero, ← hl, List.take_length]
/-- elements are put behind -/
theorem Row.append {h : Heap} {v x : AV} {sz n m : Nat} {cs c : List AV} (r : Row h v sz cs n) (hx : cellsOf h sz m x = some c) (hlx : lenV x = some m) (hm : 0 < m) (hl : c.length = m * sz) (ho : c.all AV.one = true) {bytes : Nat} (hb : (n + m) * bytes ≤ most2) (e : TypeId) :
    ∃ h', appendV h sz bytes e v x = some (.sl h.next 0 (n + m) (n + m) sz, h') ∧ Row h' (.sl h.next 0 (n + m) (n + m) sz) sz (cs ++ c) (n + m) ∧ h'.next = h.next + 1 ∧ ∀ b, b ∉ blkOf v → b ≠ h.next → h'.get b = h.get b := by
  rcases r with ⟨rfl, rfl, rfl⟩ | ⟨b, e0, ver, rfl, h0, h1, h2, h3⟩
  · refine ⟨h.mk' h.next (.cells c e 0), ?_, .inr ⟨h.next, e, 0, rfl, by omega, by rw [mk_next]; omega, by rw [List.nil_append, hl, Nat.zero_add], by rw [Heap.get_mk, if_pos rfl, List.nil_append]⟩, by rw [mk_next]; omega, fun b _ hb => by rw [Heap.get_mk, if_neg hb]⟩
    simp only [appendV, hlx, hx, hl, ho, and_self, if_true]
    rw [if_neg (by omega), if_pos (by rwa [Nat.zero_add] at hb), Nat.zero_add]
  · refine ⟨(h.put b .dead).mk' h.next (.cells (cs ++ c) e 0), ?_, .inr ⟨h.next, e, 0, rfl, by omega, ?_, ?_, by rw [Heap.get_mk, if_pos rfl]⟩, ?_, fun b' hb' hb => ?_⟩
    · have hbq : Nat.beq sz sz = true := by rw [Nat.beq_eq]
      simp only [appendV, hlx, hx, hl, ho, and_self, if_true, hbq, cond_true, cells_of h3 h2]
      rw [if_neg (by omega), if_pos hb]
    · rw [mk_next, put_next]; omega
    · rw [List.length_append, h2, hl, Nat.add_mul]
    · rw [mk_next, put_next]; omega
    · rw [Heap.get_mk, if_neg hb, Heap.get_put, if_neg (by simpa [blkOf] using hb')]
/-- one element of a literal -/
theorem Row.push {h : Heap} {v : AV} {sz n nb : Nat} {cs c : List AV} (r : Row h v sz cs n) {eb : TypeId} {vb : Nat} (hg : h.get nb = some (.cells c eb vb)) (hl : c.length = sz) (ho : c.all AV.one = true) {bytes : Nat} (hb : (n + 1) * bytes ≤ most2) (e : TypeId) :
    ∃ h', appendV h sz bytes e v (.sl nb 0 1 1 sz) = some (.sl h.next 0 (n + 1) (n + 1) sz, h') ∧ Row h' (.sl h.next 0 (n + 1) (n + 1) sz) sz (cs ++ c) (n + 1) ∧ h'.next = h.next + 1 ∧ ∀ b, b ∉ blkOf v → b ≠ h.next → h'.get b = h.get b :=
  r.append (cells_of hg (by rw [hl, Nat.one_mul]) 1) rfl (by decide) (by rw [hl, Nat.one_mul]) ho hb e
/-- its cells told -/
theorem Row.fd {h : Heap} {v : AV} {sz n : Nat} {cs cs' : List AV} {D : List Nat} (r : Row h v sz cs n) (t : Fds h cs cs' D) : ∃ v', Fd h v v' (blkOf v ++ D) ∧ ((v' = .nils ∧ n = 0) ∨ v' = .rs cs' n) := by
  rcases r with ⟨rfl, rfl, rfl⟩ | ⟨b, e0, ver, rfl, h0, h1, h2, h3⟩
  · cases t
    exact ⟨_, .told rfl, .inl ⟨rfl, rfl⟩⟩
  · refine ⟨_, .sl h0 h1 h3 (cs := cs) ?_ t, .inr rfl⟩
    rw [cut_eq, List.drop_zero, ← h2, List.take_length, if_pos rfl]
/-- an element of a row, by its place -/
theorem Row.at {h : Heap} {v : AV} {sz n : Nat} {cs : List AV} (r : Row h v sz cs n) {i : Nat} (hi : i < n) : ∃ b e ver, v = .sl b 0 n n sz ∧ h.get b = some (.cells cs e ver) ∧ b < h.next ∧ ∀ (hh : Heap) (kk : IntKind), iaV hh sz none v (.int kk (i : Int)) = .val (.ptr b (i * sz)) hh := by
  rcases r with ⟨rfl, rfl, rfl⟩ | ⟨b, e0, ver, rfl, h0, h1, h2, h3⟩
  · omega
  · refine ⟨b, e0, ver, rfl, h3, h1, fun hh kk => ?_⟩
    rw [iaV_sl, if_pos ⟨by omega, by omega, rfl⟩, Int.toNat_natCast, Nat.zero_add]
end Go.Proofs.Ythmkenkjfmbkiaa.VM
namespace Go.Proofs.Ythmkenkjfmbkiaa.VM
theorem Own.frame {h h' : Heap} {D : List Nat} (o : Own h D) (k : ∀ b ∈ D, h'.get b = h.get b) : Own h' D := fun b hb => by
  obtain ⟨l, e, ver, h1, h2⟩ := o b hb
  exact ⟨l, e, ver, (k b hb).trans h1, h2⟩
theorem Own.app {h : Heap} {D E : List Nat} (o : Own h D) (p : Own h E) : Own h (D ++ E) := fun b hb => (List.mem_append.1 hb).elim (o b) (p b)
theorem Own.nil {h : Heap} : Own h [] := fun b hb => by simp at hb
/-- cells, told; all that they reach is bare and lies in B -/
def Lvs (h : Heap) (B : Nat → Prop) (l l' : List AV) : Prop := ∃ D, Fds h l l' D ∧ AV.bares l = true ∧ Own h D ∧ ∀ b ∈ D, B b
def Lv (h : Heap) (B : Nat → Prop) (x y : AV) : Prop := ∃ D, Fd h x y D ∧ x.bare = true ∧ Own h D ∧ ∀ b ∈ D, B b
section
variable {h h' : Heap} {B B' : Nat → Prop}
theorem Lv.frame {x y : AV} (l : Lv h B x y) (hn : h.next ≤ h'.next) (k : ∀ b, B b → b < h.next → h'.get b = h.get b) : Lv h' B x y := by
  obtain ⟨D, f, a, o, i⟩ := l
  exact ⟨D, f.frame hn fun b hb => k b (i b hb) (f.lt b hb), a, o.frame fun b hb => k b (i b hb) (f.lt b hb), i⟩
theorem Lvs.frame {x y : List AV} (l : Lvs h B x y) (hn : h.next ≤ h'.next) (k : ∀ b, B b → b < h.next → h'.get b = h.get b) : Lvs h' B x y := by
  obtain ⟨D, f, a, o, i⟩ := l
  exact ⟨D, f.frame hn fun b hb => k b (i b hb) (f.lt b hb), a, o.frame fun b hb => k b (i b hb) (f.lt b hb), i⟩
theorem Lv.weak {x y : AV} (l : Lv h B x y) (k : ∀ b, B b → b < h.next → B' b) : Lv h B' x y := by
  obtain ⟨D, f, a, o, i⟩ := l
  exact ⟨D, f, a, o, fun b hb => k b (i b hb) (f.lt b hb)⟩
theorem Lvs.weak {x y : List AV} (l : Lvs h B x y) (k : ∀ b, B b → b < h.next → B' b) : Lvs h B' x y := by
  obtain ⟨D, f, a, o, i⟩ := l
  exact ⟨D, f, a, o, fun b hb => k b (i b hb) (f.lt b hb)⟩
theorem Lvs.nil : Lvs h B [] [] := ⟨[], .nil, rfl, Own.nil, fun b hb => by simp at hb⟩
theorem Lvs.cons {x y : AV} {l k : List AV} (a : Lv h B x y) (t : Lvs h B l k) : Lvs h B (x :: l) (y :: k) := by
  obtain ⟨D, f, b, o, i⟩ := a
  obtain ⟨E, f', b', o', i'⟩ := t
  exact ⟨D ++ E, .cons f f', by simp [AV.bares, b, b'], o.app o', fun c hc => (List.mem_append.1 hc).elim (i c) (i' c)⟩
theorem Lvs.app {l k l' k' : List AV} (a : Lvs h B l k) (t : Lvs h B l' k') : Lvs h B (l ++ l') (k ++ k') := by
  obtain ⟨D, f, b, o, i⟩ := a
  obtain ⟨E, f', b', o', i'⟩ := t
  exact ⟨D ++ E, f.app f', by rw [bares_app, b, b']; rfl, o.app o', fun c hc => (List.mem_append.1 hc).elim (i c) (i' c)⟩
theorem Lv.told {x : AV} (a : x.told = true) (b : x.bare = true) : Lv h B x x := ⟨[], .told a, b, Own.nil, fun c hc => by simp at hc⟩
theorem Lvs.tolds {x : List AV} (a : AV.tolds x = true) (b : AV.bares x = true) : Lvs h B x x := ⟨[], Fds.tolds a, b, Own.nil, fun c hc => by simp at hc⟩
theorem Lv.int {k : IntKind} {n : Int} : Lv h B (.int k n) (.int k n) := .told rfl rfl
theorem Lv.bool {n : Bool} : Lv h B (.bool n) (.bool n) := .told rfl rfl
theorem Lv.nils : Lv h B .nils .nils := .told rfl rfl
theorem Lv.agg {l k : List AV} (t : Lvs h B l k) : Lv h B (.agg l) (.agg k) := by
  obtain ⟨D, f, b, o, i⟩ := t
  exact ⟨D, .agg f, b, o, i⟩
theorem Lv.fz {x y : AV} (l : Lv h B x y) : Fz true h x y := let ⟨_, f, _⟩ := l; f.fz
theorem Lvs.fzs {x y : List AV} (l : Lvs h B x y) : Fzs true h x y := let ⟨_, f, _⟩ := l; f.fzs
theorem Lvs.length {x y : List AV} (l : Lvs h B x y) : y.length = x.length := let ⟨_, f, _⟩ := l; f.length
/-- a row's slice, told -/
def cRow (l : List AV) (n : Nat) : AV := if n = 0 then .nils else .rs l n
theorem cRow_s (l : List AV) {n : Nat} (h : 0 < n) : cRow l n = .rs l n := if_neg (by omega)
/-- a row of one's own -/
def LR (h : Heap) (B : Nat → Prop) (v : AV) (sz : Nat) (told : List AV) (n : Nat) : Prop :=
  ∃ cs, Row h v sz cs n ∧ Lvs h (fun b => B b ∧ b ∉ blkOf v) cs told ∧ ∀ b ∈ blkOf v, B b
theorem LR.nil (h : Heap) (B : Nat → Prop) (sz : Nat) : LR h B .nils sz [] 0 := ⟨[], .nil _ _, .nil, fun b hb => by simp [blkOf] at hb⟩
theorem LR.one {v : AV} {sz n : Nat} {t : List AV} (r : LR h B v sz t n) : v.one = true := let ⟨_, r, _⟩ := r; r.one
theorem LR.len {v : AV} {sz n : Nat} {t : List AV} (r : LR h B v sz t n) (hh : Heap) : lnV hh v = .val (.int .i64 n) hh := let ⟨_, r, _⟩ := r; r.len hh
theorem LR.cells {v : AV} {sz n : Nat} {t : List AV} (r : LR h B v sz t n) : v.cells = some [v] := by
  obtain ⟨_, r, _⟩ := r
  rcases r with ⟨rfl, rfl, rfl⟩ | ⟨b, e, ver, rfl, _⟩ <;> rfl
theorem LR.frame {v : AV} {sz n : Nat} {t : List AV} (r : LR h B v sz t n) (hn : h.next ≤ h'.next) (k : ∀ b, B b → b < h.next → h'.get b = h.get b) : LR h' B v sz t n := by
  obtain ⟨cs, r, l, i⟩ := r
  exact ⟨cs, r.frame hn fun b hb => k b (i b hb) (r.lt b hb), l.frame hn fun b hb => k b hb.1, i⟩
theorem LR.weak {v : AV} {sz n : Nat} {t : List AV} (r : LR h B v sz t n) (k : ∀ b, B b → b < h.next → B' b) : LR h B' v sz t n := by
  obtain ⟨cs, r, l, i⟩ := r
  exact ⟨cs, r, l.weak fun b hb hl => ⟨k b hb.1 hl, hb.2⟩, fun b hb => k b (i b hb) (r.lt b hb)⟩
theorem LR.lv {v : AV} {sz n : Nat} {t : List AV} (r : LR h B v sz t n) : Lv h B v (cRow t n) := by
  obtain ⟨cs, r, ⟨D, f, hb0, o, i⟩, j⟩ := r
  obtain ⟨v', f', hv⟩ := r.fd f
  refine ⟨_, ?_, r.bare, ?_, fun b hb => (List.mem_append.1 hb).elim (j b) fun c => (i b c).1⟩
  · rcases hv with ⟨rfl, rfl⟩ | rfl
    · exact f'
    · rcases r with ⟨rfl, rfl, rfl⟩ | ⟨b, e0, ver, rfl, h0, _⟩
      · cases f'
      · rw [cRow_s _ h0]; exact f'
  · refine Own.app (fun b hb => ?_) o
    rcases r with ⟨rfl, rfl, rfl⟩ | ⟨b', e0, ver, rfl, h0, h1, h2, h3⟩
    · simp [blkOf] at hb
    · simp only [blkOf, List.mem_singleton] at hb
      subst hb
      exact ⟨_, _, _, h3, hb0⟩
/-- one more -/
theorem LR.push {v : AV} {sz n : Nat} {t : List AV} (r : LR h B v sz t n) {nb eb vb : Nat} {c t1 : List AV} (hg : h.get nb = some (.cells c eb vb)) (hl : c.length = sz) (ho : c.all AV.one = true) (l : Lvs h (fun b => B b ∧ b ∉ blkOf v) c t1) (hB : B h.next)
    {bytes : Nat} (hb : (n + 1) * bytes ≤ most2) (e : TypeId) :
    ∃ h', appendV h sz bytes e v (.sl nb 0 1 1 sz) = some (.sl h.next 0 (n + 1) (n + 1) sz, h') ∧ LR h' B (.sl h.next 0 (n + 1) (n + 1) sz) sz (t ++ t1) (n + 1) ∧ h'.next = h.next + 1 ∧ ∀ b, b ∉ blkOf v → b ≠ h.next → h'.get b = h.get b := by
  obtain ⟨cs, r, l0, i⟩ := r
  obtain ⟨h', e1, r', hn, k⟩ := r.push hg hl ho hb e
  have key : ∀ {x y : List AV}, Lvs h (fun b => B b ∧ b ∉ blkOf v) x y → Lvs h' (fun b => B b ∧ b ∉ blkOf (.sl h.next 0 (n + 1) (n + 1) sz)) x y := fun q =>
    (q.weak (B' := fun b => (B b ∧ b ∉ blkOf v) ∧ b ≠ h.next) fun b hb hlt => ⟨hb, by omega⟩).frame (by omega) (fun b hb _ => k b hb.1.2 hb.2) |>.weak fun b hb _ => ⟨hb.1.1, by simpa [blkOf] using hb.2⟩
  exact ⟨h', e1, ⟨_, r', (key l0).app (key l), fun b hb => by simp only [blkOf, List.mem_singleton] at hb; rw [hb]; exact hB⟩, hn, k⟩
theorem LR.lt {v : AV} {sz n : Nat} {t : List AV} (r : LR h B v sz t n) : ∀ b ∈ blkOf v, b < h.next := let ⟨_, r, _⟩ := r; r.lt
theorem LR.inB {v : AV} {sz n : Nat} {t : List AV} (r : LR h B v sz t n) : ∀ b ∈ blkOf v, B b := let ⟨_, _, _, i⟩ := r; i
end
/-- all but one block stays -/
def ExtX (x : Nat) (h h' : Heap) : Prop := h.next ≤ h'.next ∧ ∀ b, b < h.next → b ≠ x → h'.get b = h.get b
theorem ExtX.refl {x : Nat} {h : Heap} : ExtX x h h := ⟨Nat.le_refl _, fun _ _ _ => rfl⟩
theorem ExtX.trans {x : Nat} {a b c : Heap} (p : ExtX x a b) (q : ExtX x b c) : ExtX x a c := ⟨Nat.le_trans p.1 q.1, fun n hn hx => (q.2 n (Nat.lt_of_lt_of_le hn p.1) hx).trans (p.2 n hn hx)⟩
theorem ExtX.put {x : Nat} {h : Heap} (o : Blk) : ExtX x h (h.put x o) := ⟨Nat.le_refl _, fun b _ hx => by rw [Heap.get_put, if_neg hx]⟩
theorem Ext.x {x : Nat} {h h' : Heap} (p : Ext h h') : ExtX x h h' := ⟨p.1, fun b hb _ => p.2 b hb⟩
end Go.Proofs.Ythmkenkjfmbkiaa.VM
namespace Go.Proofs.Ythmkenkjfmbkiaa.VM
theorem hn_l (n k : Nat) : (n = n + k) = (k = 0) := by rw [eq_iff_iff]; omega
theorem hn_r (n k : Nat) : (n + k = n) = (k = 0) := by rw [eq_iff_iff]; omega
def HN := And.intro @hn_l (And.intro @hn_r @Nat.add_assoc)
theorem Ext.putn {h h' : Heap} (x : Ext h h') {b : Nat} (hb : h.next ≤ b) (o : Blk) : Ext h (h'.put b o) := ⟨x.1, fun c hc => by rw [Heap.get_put, if_neg (by omega)]; exact x.2 c hc⟩
theorem Ext.mkn {h h' : Heap} (x : Ext h h') {b : Nat} (hb : h.next ≤ b) (o : Blk) : Ext h (h'.mk' b o) := ⟨by rw [mk_next]; have := x.1; omega, fun c hc => by rw [Heap.get_mk, if_neg (by omega)]; exact x.2 c hc⟩
/-- blocks that stand, with their cells -/
def Has (h : Heap) (L : List (Nat × List AV)) : Prop := ∀ p ∈ L, p.1 < h.next ∧ ∃ e ver, h.get p.1 = some (.cells p.2 e ver)
section
variable {h h' : Heap} {L : List (Nat × List AV)} {b e v : Nat} {l l' : List AV}
theorem Has.nil : Has h [] := fun p hp => by simp at hp
theorem Has.get (H : Has h L) (hm : (b, l) ∈ L) : ∃ e ver, h.get b = some (.cells l e ver) := (H _ hm).2
theorem Has.lt (H : Has h L) (hm : (b, l) ∈ L) : b < h.next := (H _ hm).1
theorem Has.ext (H : Has h L) (x : Ext h h') : Has h' L := fun p hp => ⟨Nat.lt_of_lt_of_le (H p hp).1 x.1, let ⟨e, ver, g⟩ := (H p hp).2; ⟨e, ver, (x.2 _ (H p hp).1).trans g⟩⟩
theorem Has.mk (H : Has h L) (hb : h.next ≤ b) : Has (h.mk' b (.cells l e v)) ((b, l) :: L) := fun p hp => by
  rcases List.mem_cons.1 hp with rfl | hp
  · exact ⟨by rw [mk_next]; simp only; omega, e, v, by rw [Heap.get_mk, if_pos rfl]⟩
  · have := (H p hp).1
    exact ⟨by rw [mk_next]; omega, let ⟨e, ver, g⟩ := (H p hp).2; ⟨e, ver, by rw [Heap.get_mk, if_neg (by omega)]; exact g⟩⟩
theorem Has.put (H : Has h ((b, l) :: L)) (hb : ∀ p ∈ L, p.1 ≠ b) : Has (h.put b (.cells l' e v)) ((b, l') :: L) := fun p hp => by
  rcases List.mem_cons.1 hp with rfl | hp
  · exact ⟨by rw [put_next]; exact (H _ (.head _)).1, e, v, by rw [Heap.get_put, if_pos rfl]⟩
  · exact ⟨by rw [put_next]; exact (H p (.tail _ hp)).1, let ⟨e, ver, g⟩ := (H p (.tail _ hp)).2; ⟨e, ver, by rw [Heap.get_put, if_neg (hb p hp)]; exact g⟩⟩
theorem Has.new {o : Blk} (H : Has h L) : Has ((h.mk' h.next o).put h.next (.cells l e v)) ((h.next, l) :: L) := fun p hp => by
  rcases List.mem_cons.1 hp with rfl | hp
  · exact ⟨by rw [put_next, mk_next]; simp only; omega, e, v, by rw [Heap.get_put, if_pos rfl]⟩
  · have := (H p hp).1
    exact ⟨by rw [put_next, mk_next]; omega, let ⟨e, ver, g⟩ := (H p hp).2; ⟨e, ver, by rw [Heap.get_put, if_neg (by omega), Heap.get_mk, if_neg (by omega)]; exact g⟩⟩
theorem Has.sub {M : List (Nat × List AV)} (H : Has h L) (k : ∀ p ∈ M, p ∈ L) : Has h M := fun p hp => H p (k p hp)
theorem Ext.new {h : Heap} {o o' : Blk} : Ext h ((h.mk' h.next o).put h.next o') := (Ext.mk o).putn (Nat.le_refl _) _
theorem new_next {h : Heap} {o o' : Blk} : ((h.mk' h.next o).put h.next o').next = h.next + 1 := by rw [put_next, mk_next]; omega
end
/-- clear, of a slice -/
def clS (h : Heap) (z : List AV) : AV → Out
  | .nils => .val (.tup []) h
  | .sl b off len _ _ => if len = 0 then .val (.tup []) h else (match writeAt h b off (List.replicate len z).flatten with
    | some h => .val (.tup []) h
    | none => .fail)
  | _ => .fail
theorem vop_clearS {s : T AV} {h : Heap} {nm : Nat} {z : List AV} {x : Opd} : vop ⟨s, h⟩ nm (.bi (.clearS z) [x]) = clS h z (ev s x) := by
  simp only [vop, List.map_cons, List.map_nil, eval_eq]
  cases ev s x <;> try rfl
  rename_i b off len cap sz
  simp only [clS, T.beq_dec]
  by_cases e : len = 0
  · rw [if_pos e, decide_eq_true e, cond_true]
  · rw [if_neg e, decide_eq_false e, cond_false]
    cases writeAt h b off (List.replicate len z).flatten <;> rfl
theorem clS_go {h h' : Heap} {z : List AV} {b off len cap sz : Nat} (h0 : len ≠ 0) (hw : writeAt h b off (List.replicate len z).flatten = some h') : clS h z (.sl b off len cap sz) = .val (.tup []) h' := by
  simp only [clS, if_neg h0, hw]
theorem eqv_p0 {b o : Nat} : eqv .ptr (.ptr b o) .nilp = some false := rfl
theorem eqv_p1 : eqv .ptr .nilp .nilp = some true := rfl
theorem eqv_s0 {a b c d e : Nat} : eqv .sl (.sl a b c d e) .nils = some false := rfl
theorem eqv_s1 : eqv .sl .nils .nils = some true := rfl
theorem eqv_s2 {l : List AV} {n : Nat} : eqv .sl (.rs l n) .nils = some false := rfl
theorem eqv_b (a b : Bool) : eqv .bool (.bool a) (.bool b) = some (decide (a = b)) := by revert a b; decide
/-- what is compared without memory -/
def HE := And.intro @eqv_p0 (And.intro @eqv_p1 (And.intro @eqv_s0 (And.intro @eqv_s1 (And.intro @eqv_s2 @eqv_b))))
def blk : Nat → VCode → VCode
  | 0, .seq a _ => a
  | n + 1, .seq _ b => blk n b
  | _, x => x
def rst : Nat → VCode → VCode
  | 0, x => x
  | n + 1, .seq _ b => rst n b
  | _, x => x
/-- a row in a block of its own, full; it may be there and hold nothing -/
def SRow (h : Heap) (v : AV) (sz : Nat) (cs : List AV) (n : Nat) : Prop := (v = .nils ∧ n = 0 ∧ cs = []) ∨ ∃ b e ver, v = .sl b 0 n n sz ∧ b < h.next ∧ h.get b = some (.cells cs e ver) ∧ cs.length = n * sz ∧ cs.all AV.one = true
section
variable {h h' : Heap} {v x : AV} {sz n m : Nat} {cs c : List AV}
theorem SRow.nil (h : Heap) (sz : Nat) : SRow h .nils sz [] 0 := .inl ⟨rfl, rfl, rfl⟩
theorem SRow.frame (r : SRow h v sz cs n) (hn : h.next ≤ h'.next) (k : ∀ b ∈ blkOf v, h'.get b = h.get b) : SRow h' v sz cs n := by
  rcases r with r | ⟨b, e, ver, rfl, hb, hg, hl, ho⟩
  · exact .inl r
  · exact .inr ⟨b, e, ver, rfl, by omega, (k b (by simp [blkOf])).trans hg, hl, ho⟩
theorem SRow.lt (r : SRow h v sz cs n) : ∀ b ∈ blkOf v, b < h.next := by
  rcases r with ⟨rfl, _⟩ | ⟨b, e, ver, rfl, hb, _⟩
  · intro b hb; simp [blkOf] at hb
  · intro c hc; simp only [blkOf, List.mem_singleton] at hc; rw [hc]; exact hb
theorem SRow.ext (r : SRow h v sz cs n) (x : Ext h h') : SRow h' v sz cs n := r.frame x.1 fun b hb => x.2 b (r.lt b hb)
theorem SRow.one (r : SRow h v sz cs n) : v.one = true := by rcases r with ⟨rfl, _⟩ | ⟨b, e, ver, rfl, _⟩ <;> rfl
theorem SRow.cells (r : SRow h v sz cs n) : v.cells = some [v] := by rcases r with ⟨rfl, _⟩ | ⟨b, e, ver, rfl, _⟩ <;> rfl
theorem SRow.len (r : SRow h v sz cs n) (hh : Heap) : lnV hh v = .val (.int .i64 n) hh := by rcases r with ⟨rfl, rfl, _⟩ | ⟨b, e, ver, rfl, _⟩ <;> rfl
theorem SRow.length (r : SRow h v sz cs n) : cs.length = n * sz := by
  rcases r with ⟨_, rfl, rfl⟩ | ⟨b, e, ver, rfl, _, _, hl, _⟩
  · simp
  · exact hl
/-- a part of a row's cells -/
theorem cells_part {b lo k cap : Nat} {e : TypeId} {ver : Nat} (hg : h.get b = some (.cells cs e ver)) (hl : (lo + k) * sz ≤ cs.length) : cellsOf h sz k (.sl b (lo * sz) k cap sz) = some ((cs.drop (lo * sz)).take (k * sz)) := by
  simp only [cellsOf, Nat.le_refl, if_true, hg]
  have : ((cs.drop (lo * sz)).take (k * sz)).length = k * sz := by rw [List.length_take, List.length_drop, Nat.min_eq_left]; rw [Nat.add_mul] at hl; omega
  rw [cut_eq, if_pos this]
theorem SRow.app (r : SRow h v sz cs n) (hx : cellsOf h sz m x = some c) (hlx : lenV x = some m) (hl : c.length = m * sz) (ho : c.all AV.one = true) {bytes : Nat} (hb : (n + m) * bytes ≤ most2) (e : TypeId) :
    ∃ v' h', appendV h sz bytes e v x = some (v', h') ∧ SRow h' v' sz (cs ++ c) (n + m) ∧ h.next ≤ h'.next ∧ (∀ b ∈ blkOf v', b ∈ blkOf v ∨ h.next ≤ b) ∧ ∀ b, b < h.next → b ∉ blkOf v → h'.get b = h.get b := by
  rcases r with ⟨rfl, rfl, rfl⟩ | ⟨b, eb, vb, rfl, hb', hg, hl', ho'⟩
  · by_cases m0 : m = 0
    · subst m0
      obtain rfl : c = [] := List.eq_nil_of_length_eq_zero (by rw [hl]; omega)
      refine ⟨.nils, h, ?_, .inl ⟨rfl, rfl, rfl⟩, Nat.le_refl _, fun b hb => .inl hb, fun _ _ _ => rfl⟩
      simp [appendV, hlx, hx]
    · rw [Nat.zero_add] at hb
      refine ⟨.sl h.next 0 m m sz, h.mk' h.next (.cells c e 0), ?_, .inr ⟨h.next, e, 0, by rw [Nat.zero_add], by rw [mk_next]; omega, by rw [Heap.get_mk, if_pos rfl, List.nil_append], by rw [List.nil_append, hl, Nat.zero_add], by rw [List.nil_append]; exact ho⟩, by rw [mk_next]; omega, fun b hb => .inr (by simp only [blkOf, List.mem_singleton] at hb; omega), fun b hb _ => by rw [Heap.get_mk, if_neg (by omega)]⟩
      simp only [appendV, hlx, hx, hl, ho, and_self, if_true, m0, if_false, hb]
  · have hold : cellsOf h sz n (.sl b 0 n n sz) = some cs := cells_of hg hl' n
    by_cases m0 : m = 0
    · subst m0
      obtain rfl : c = [] := List.eq_nil_of_length_eq_zero (by rw [hl]; omega)
      have hw : writeAt h b (0 + n * sz) [] = some (h.put b (.cells (cs.take (n * sz) ++ [] ++ cs.drop (n * sz)) eb (vb + 1))) := by
        rw [writeAt_go, hg, wrB_some, if_pos ⟨by simp [hl'], rfl⟩]; simp
      refine ⟨.sl b 0 n n sz, h.put b (.cells (cs.take (n * sz) ++ [] ++ cs.drop (n * sz)) eb (vb + 1)), ?_, .inr ⟨b, eb, vb + 1, rfl, by rw [put_next]; exact hb', by rw [Heap.get_put, if_pos rfl, List.append_nil, List.take_append_drop, List.append_nil], by rw [List.append_nil, hl', Nat.add_zero], by rw [List.append_nil]; exact ho'⟩, by rw [put_next]; exact Nat.le_refl _, fun b hb => .inl hb, fun d _ hd => by simp only [blkOf, List.mem_singleton] at hd; rw [Heap.get_put, if_neg hd]⟩
      simp only [appendV, hlx, hx, hl, ho, and_self, if_true, Nat.beq_refl, cond_true, Nat.add_zero, Nat.le_refl, hw]
    · have hc : ¬ n + m ≤ n := by omega
      refine ⟨.sl h.next 0 (n + m) (n + m) sz, (h.put b .dead).mk' h.next (.cells (cs ++ c) e 0), ?_, .inr ⟨h.next, e, 0, rfl, by rw [mk_next]; omega, by rw [Heap.get_mk, if_pos rfl], by rw [List.length_append, hl', hl, Nat.add_mul], by rw [List.all_append, ho', ho]; rfl⟩, by rw [mk_next, put_next]; omega, fun d hd => .inr (by simp only [blkOf, List.mem_singleton] at hd; omega), fun d hd hn => by
        simp only [blkOf, List.mem_singleton] at hn
        rw [Heap.get_mk, if_neg (by omega), Heap.get_put, if_neg hn]⟩
      simp only [appendV, hlx, hx, hl, ho, and_self, if_true, Nat.beq_refl, cond_true, hc, if_false, hb, hold]
/-- one more -/
theorem SRow.push (r : SRow h v sz cs n) {nb eb vb : Nat} (hg : h.get nb = some (.cells c eb vb)) (hl : c.length = sz) (ho : c.all AV.one = true) {bytes : Nat} (hb : (n + 1) * bytes ≤ most2) (e : TypeId) :
    ∃ v' h', appendV h sz bytes e v (.sl nb 0 1 1 sz) = some (v', h') ∧ SRow h' v' sz (cs ++ c) (n + 1) ∧ h.next ≤ h'.next ∧ (∀ b ∈ blkOf v', b ∈ blkOf v ∨ h.next ≤ b) ∧ ∀ b, b < h.next → b ∉ blkOf v → h'.get b = h.get b :=
  r.app (cells_of hg (by rw [hl, Nat.one_mul]) 1) rfl (by rw [hl, Nat.one_mul]) ho hb e
/-- a look at a row of one cell each -/
theorem SRow.at (r : SRow h v 1 cs n) {i : Nat} (hi : i < n) : ∃ b e ver x, v = .sl b 0 n n 1 ∧ b < h.next ∧ h.get b = some (.cells cs e ver) ∧ cs[i]? = some x ∧ part false cs i 1 = some x ∧ ∀ (hh : Heap) (kk : IntKind), iaV hh 1 none v (.int kk (i : Int)) = .val (.ptr b i) hh := by
  rcases r with ⟨_, rfl, _⟩ | ⟨b, e, ver, rfl, hb, hg, hl, ho⟩
  · omega
  · have hil : i < cs.length := by omega
    refine ⟨b, e, ver, cs[i], rfl, hb, hg, List.getElem?_eq_getElem hil, part_f (List.drop_eq_getElem_cons hil), fun hh kk => ?_⟩
    have : 0 ≤ (i : Int) ∧ (i : Int) < (n : Int) ∧ 1 = 1 := ⟨by omega, by omega, rfl⟩
    simp only [iaV, this, and_self, if_true, Int.toNat_natCast, Nat.zero_add, Nat.mul_one]
end
theorem nat_of {k : IntKind} {n y : Nat} (h : n ≤ y) : natOf (.int k (n : Int)) y = some n := by
  show (if 0 ≤ (n : Int) ∧ (n : Int) ≤ (y : Int) then some (n : Int).toNat else none) = some n
  rw [if_pos ⟨by omega, by omega⟩, Int.toNat_natCast]
section
variable {b off len cap sz lo hi mx : Nat} {k1 k2 k3 : IntKind}
theorem slV3 (h1 : lo ≤ hi) (h2 : hi ≤ mx) (h3 : mx ≤ cap) : sliceV sz (.sl b off len cap sz) (some (.int k1 (lo : Int))) (some (.int k2 (hi : Int))) (some (.int k3 (mx : Int))) = some (.sl b (off + lo * sz) (hi - lo) (mx - lo) sz) := by
  simp [sliceV, bounds, nat_of h1, nat_of h2, nat_of h3]
theorem slV2 (h1 : lo ≤ hi) (h2 : hi ≤ cap) : sliceV sz (.sl b off len cap sz) (some (.int k1 (lo : Int))) (some (.int k2 (hi : Int))) none = some (.sl b (off + lo * sz) (hi - lo) (cap - lo) sz) := by
  simp [sliceV, bounds, nat_of h1, nat_of h2]
theorem slVhi (h2 : hi ≤ cap) : sliceV sz (.sl b off len cap sz) none (some (.int k2 (hi : Int))) none = some (.sl b off hi cap sz) := by
  simp [sliceV, bounds, nat_of h2]
theorem slVlo (h1 : lo ≤ len) : sliceV sz (.sl b off len cap sz) (some (.int k1 (lo : Int))) none none = some (.sl b (off + lo * sz) (len - lo) (cap - lo) sz) := by
  simp [sliceV, bounds, nat_of h1]
end
end Go.Proofs.Ythmkenkjfmbkiaa.VM
namespace Go.Proofs.Ythmkenkjfmbkiaa.VM
open Go.RowKit Go.Shelf
section
variable {P : Program} {φ φ' : Env} {w w' : World} {H H1 H2 : Heap}
/-- two memories that hold the same cells under the same names -/
def SameH (H1 H2 : Heap) : Prop := H2.next = H1.next ∧ ∀ c, H2.get c = H1.get c ∨ ∃ l e v e' v', H1.get c = some (.cells l e v) ∧ H2.get c = some (.cells l e' v')
theorem SameH.live (s : SameH H1 H2) (c : Nat) : live (H2.get c) = live (H1.get c) ∧ (H2.get c = none ↔ H1.get c = none) := by
  rcases s.2 c with e | ⟨l, e, v, e', v', g1, g2⟩
  · rw [e]; exact ⟨rfl, Iff.rfl⟩
  · rw [g1, g2]; exact ⟨rfl, by simp⟩
theorem HR.congr (hr : HR φ w H1) (s : SameH H1 H2) : HR φ w H2 := by
  refine ⟨fun c => ?_, hr.lt, fun b b' p p' h1 h2 => hr.inj b b' p p' (by rw [← (s.live b).1]; exact h1) (by rw [← (s.live b').1]; exact h2), fun b hb => ((s.live b).2).2 (hr.next b (by rw [← s.1]; exact hb))⟩
  have := hr.blk c
  rcases s.2 c with e | ⟨l, e, v, e', v', g1, g2⟩
  · rw [e]; exact this
  · rw [g1] at this; rw [g2]; exact this
theorem UpdH.congr (u : UpdH φ w H φ' w' H1) (s : SameH H1 H2) : UpdH φ w H φ' w' H2 :=
  { toUpd := u.toUpd
    keepL := u.keepL
    deadL := fun b h1 h2 => by
      obtain ⟨a, c, d⟩ := u.deadL b h1 h2
      exact ⟨fun e => a ((s.live b).2.1 e), by rw [(s.live b).1]; exact c, d⟩
    newL := fun b B o h1 h2 => u.newL b B o (by rw [← (s.live b).1]; exact h1) h2
    stay := fun b h1 e => u.stay b h1 ((s.live b).2.1 e) }
theorem Calls.ret {f : Nat} {us : Array Value} {u : Value} (e : Calls P f us w fun e w1 => e = .returned u ∧ w1 = w') {v : AV} (hv : VR φ' w' v u) (hr : HR φ' w' H2) (hu : UpdH φ w H φ' w' H2) :
    Calls P f us w fun e w' => ∃ φ' u, e = .returned u ∧ VR φ' w' v u ∧ HR φ' w' H2 ∧ UpdH φ w H φ' w' H2 :=
  Calls.mono e (by rintro e w1 ⟨rfl, rfl⟩; exact ⟨φ', u, rfl, hv, hr, hu⟩)
theorem VRs.zeros : ∀ n : Nat, VRs φ w (List.replicate n (.int .i64 0)) (List.replicate n (Value.int .i64 0))
  | 0 => by simpa using VRs.nil
  | n + 1 => by rw [List.replicate_succ, List.replicate_succ]; exact .cons (.int _ _) (VRs.zeros n)
theorem SameH.put2 {H0 : Heap} {nb e v e' v' : Nat} {X Y : Blk} {l : List AV} : SameH (((H0.mk' nb X).put nb Y).put nb (.cells l e v)) (H0.mk' nb (.cells l e' v')) := by
  refine ⟨by rw [put_next, put_next, mk_next, mk_next], fun d => ?_⟩
  by_cases hd : d = nb
  · subst hd
    exact .inr ⟨_, _, _, _, _, by rw [Heap.get_put, if_pos rfl], by rw [Heap.get_mk, if_pos rfl]⟩
  · exact .inl (by rw [Heap.get_put, if_neg hd, Heap.get_put, if_neg hd, Heap.get_mk, if_neg hd, Heap.get_mk, if_neg hd])
theorem ins_list {α : Type} {cs : List α} {x : α} {i : Nat} (hi : i < cs.length) : (cs.take (i + 1) ++ cs.drop i).take i ++ [x] ++ (cs.take (i + 1) ++ cs.drop i).drop (i + 1) = cs.take i ++ x :: cs.drop i := by
  have h1 : (cs.take (i + 1)).length = i + 1 := by rw [List.length_take]; omega
  rw [List.take_append_of_le_length (by omega), List.take_take, Nat.min_eq_left (by omega), List.drop_left' h1, List.append_assoc]
  rfl
theorem ins_list2 {α : Type} {cs zs : List α} {x : α} {i : Nat} (hi : i ≤ cs.length) (hz : zs.length = cs.length + 1 - i) : ((cs.take i ++ zs).take i ++ [x] ++ (cs.take i ++ zs).drop (i + 1)).take (i + 1) ++ cs.drop i ++ ((cs.take i ++ zs).take i ++ [x] ++ (cs.take i ++ zs).drop (i + 1)).drop (i + 1 + (cs.drop i).length) = cs.take i ++ x :: cs.drop i := by
  have h1 : (cs.take i).length = i := by rw [List.length_take]; omega
  have h2 : (cs.take i ++ zs).take i = cs.take i := List.take_left' h1
  rw [h2]
  have h3 : (cs.take i ++ [x]).length = i + 1 := by rw [List.length_append, h1]; rfl
  rw [List.take_left' h3]
  have h4 : (cs.take i ++ [x] ++ (cs.take i ++ zs).drop (i + 1)).drop (i + 1 + (cs.drop i).length) = [] := by
    apply List.drop_of_length_le
    simp only [List.length_append, List.length_drop, h1, hz, List.length_singleton]
    omega
  rw [h4, List.append_nil, List.append_assoc]
  rfl
theorem zc_int (k : Nat) : Builtin.zeroCells (Value.int .i64 0).cells k = (List.replicate k (Value.int .i64 0)).toArray := by
  apply Array.ext'
  simp [Builtin.zeroCells, Value.cells]
  apply List.ext_getElem
  · simp
  · intro i h1 h2; simp [Nat.mod_one]
theorem insert_ok {ρ : Ren} (L : Lays2.n21 P ρ) {b n cap i vb : Nat} {cs : List AV} {e e2 ver ver2 : Nat} {x : AV} (hg : H.get b = some (.cells cs e ver)) (hl : cs.length = n) (ho : cs.all AV.one = true) (hx : x.one = true) (hi : i ≤ n) (hgv : H.get vb = some (.cells [x] e2 ver2)) (hne : vb ≠ b) (hsm : n < 1000000) (hz0 : ∀ a, x = a → True) :
    OK P (ρ.f 21) [.sl b 0 n cap 1, .int .i64 i, .sl vb 0 1 1 1] H (.sl H.next 0 (n + 1) (n + 1) 1) ((H.put b .dead).mk' H.next (.cells (cs.take i ++ x :: cs.drop i) (ρ.t 3) 0)) := by
  refine ⟨⟨_, L.f21, rfl, fun e => by rw [show (Body2.n21 ρ).name = "slices.Insert[[]int,int]" from rfl] at e; exact absurd e (by decide)⟩, fun φ w us hr hus => ?_⟩
  obtain ⟨B, o, e', N, q1, q2, q3, q4, q5⟩ := hr.cells hg
  obtain ⟨B2, o2, e2', N2, p1, p2, p3, p4, p5⟩ := hr.cells hgv
  have hBB : B2 ≠ B := fun e => hne (hr.inj vb b _ _ (by rw [hgv]; rfl) (by rw [hg]; rfl) p1 q1 e)
  cases us with | mk us =>
  simp only at hus
  cases hus with | cons h1 t => cases t with | cons h2 t => cases t with | cons h3 t =>
  cases t
  cases h2
  obtain ⟨vs, v1, v2⟩ := p3.vals
  obtain ⟨us, u1, u2⟩ := q3.vals
  have vl : vs.length = 1 := by rw [← v1.length]; rfl
  have ul : us.length = n := by rw [← u1.length]; exact hl
  have oc := u1.one ho
  have ov := v1.one (by simp [hx])
  have hnx := hr.next H.next (Nat.le_refl _)
  have hlive : ∃ y, H.get b = some y := ⟨_, hg⟩
  cases h3 with
  | sl hb3 hc3 hl3 hs3 hr3 =>
    rename_i vB vo vc vN vE
    rw [p1] at hb3
    cases hb3
    rw [p2] at hs3
    cases hs3
    simp only [Nat.add_zero] at *
    have hnext : (H.put b .dead).next = H.next := rfl
    have hk : ∀ c, c ≠ b → (H.put b .dead).get c = H.get c := fun c hc => by rw [Heap.get_put, if_neg hc]
    have hbn : b ≠ H.next := fun e => by rw [e, hnx] at hg; cases hg
    have hnx2 : (H.put b .dead).get H.next = none := by rw [hk _ (Ne.symm hbn)]; exact hnx
    have endgrow : ∀ (base : Option Addr) (c : Nat), i = n → n ≤ c → c < n + 1 → (base = none → n = 0) → (∀ a, base = some a → ∀ j v, us[j]? = some v → w.cell? (a.add j) = some v) →
        Calls P (ρ.f 21) #[.slice base n c, .int .i64 (i : Int), .slice (some ⟨B2, o2, none⟩) 1 vc] w (fun e w' => ∃ φ' u, e = .returned u ∧ VR φ' w' (.sl H.next 0 (n + 1) (n + 1) 1) u ∧ HR φ' w' ((H.put b .dead).mk' H.next (.cells (cs.take i ++ x :: cs.drop i) (ρ.t 3) 0)) ∧ UpdH φ w H φ' w' ((H.put b .dead).mk' H.next (.cells (cs.take i ++ x :: cs.drop i) (ρ.t 3) 0))) := by
      intro base c hin h1 h2 h3 h4
      subst hin
      have C := Any2.slices_Insert_int_end_grow L base i c B2 o2 1 vc us vs w (by decide) h1 h2 (by omega) ul vl h3 h4 v2 ov
      have hs := (hr_drew hr)
      have hk1 := kill_ok hs hlive
      have hφ : φ H.next = none := by have := hr.blk H.next; rw [hnx] at this; exact this
      have hl' : VRs φ w.drew (cs.take i ++ x :: cs.drop i) (us ++ vs) := by
        rw [List.take_of_length_le (by omega), List.drop_of_length_le (by omega)]
        exact (u1.upd upd_drew).append (v1.upd upd_drew)
      have ea : (us ++ vs).toArray ++ Builtin.zeroCells (Value.int .i64 0).cells (grownCap w (i + 1) c (ρ.t 3) - (i + 1)) = (us ++ vs ++ (Builtin.zeroCells (Value.int .i64 0).cells (grownCap w (i + 1) c (ρ.t 3) - (i + 1))).toList).toArray := by simp
      rw [ea] at C
      have hcap : i + 1 ≤ grownCap w (i + 1) c (ρ.t 3) := grownCap_ge _ _ _ _
      refine Calls.ret C ?_ (hr_alloc hk1 hnx2 (br_new' (w := w.drew) hl' hφ (ρ.t 3) (ρ.t 3) 0)) (((updH_drew H).trans (updH_kill hlive)).trans (updH_alloc hk1 hnx2 _ _))
      refine .sl (o := 0) (at_self _ _) hcap (Nat.le_refl _) (shape_new _ _) ⟨?_, ?_⟩
      · rw [zc_int]
        simp [ul, vl]; omega
      · have := grownCap_le_maxLen w (i + 1) c (ρ.t 3) (by unfold maxLen; omega)
        unfold maxLen at this; omega
    cases h1 with
    | sl hb1 hc1 hl1 hs1 hr1 =>
      rename_i oB oo c oN oE
      rw [q1] at hb1
      cases hb1
      rw [q2] at hs1
      cases hs1
      have hcs : ∀ j v, us[j]? = some v → w.cell? ⟨B, o + j, none⟩ = some v := u2
      have hcell : ∀ j, j < N → (w.cell? ⟨B, j, none⟩).isSome = true := fun j hj => cell_some q2 hj
      by_cases hroom : n + 1 ≤ c
      · by_cases hin : i = n
        · subst hin
          have C := Any2.slices_Insert_int_end_room L B o i c B2 o2 1 vc vs w (by decide) hroom hr1.2 vl (fun j hj => hcell _ (by omega)) (fun j hj => q4 _ (by omega)) v2 ov
          obtain ⟨r1, r2⟩ := regrow (e0 := e') (o := o) (off := 0) hr hg q1 q2 (old := cs) (new := [x]) (us := vs) (at_ := o + i) q3 (by omega) v1 (by simp; omega) (ρ.t 3)
          rw [show cs.take i ++ x :: cs.drop i = cs ++ [x] by rw [List.take_of_length_le (by omega), List.drop_of_length_le (by omega)]]
          refine Calls.ret C ?_ r1 r2
          exact VR.sl (o := o) (off := 0) (at_self _ _) hroom (Nat.le_refl _) (r2.shape _ _ q2) ⟨by omega, hr1.2⟩
        · have hlt : i < n := by omega
          have C := Any2.slices_Insert_int_shift L B o n c i B2 o2 1 vc us vs w hlt (by decide) hroom hr1.2 hBB ul vl hcs (fun j hj => hcell _ (by omega)) (fun j hj => q4 _ (by omega)) v2 oc ov _ _ _ _ p2 q2 (by omega) (p4 _ (by simp at p5; omega)) (p4 _ (Nat.le_refl _))
          have hrd := hr_drew hr
          obtain ⟨r1, r2⟩ := regrow (e0 := e') (o := o) (off := 0) hrd hg q1 ((upd_drew (φ := φ) (w := w)).shape _ _ q2) (old := cs.take (i + 1)) (new := cs.drop i) (us := us.drop i) (at_ := o + (i + 1)) ((q3.upd upd_drew rfl).take (i + 1)) (by rw [List.length_take]; omega) ((u1.upd upd_drew).drop i) (by rw [List.length_drop]; omega) (ρ.t 3)
          have u2' := (updH_drew H).trans r2
          have g1 : ((H.put b .dead).mk' H.next (.cells (cs.take (i + 1) ++ cs.drop i) (ρ.t 3) 0)).get H.next = some (.cells (cs.take (i + 1) ++ cs.drop i) (ρ.t 3) 0) := by rw [Heap.get_mk, if_pos rfl]
          have ll : (cs.take (i + 1) ++ cs.drop i).length = n + 1 := by rw [List.length_append, List.length_take, List.length_drop]; omega
          have hw : writeAt ((H.put b .dead).mk' H.next (.cells (cs.take (i + 1) ++ cs.drop i) (ρ.t 3) 0)) H.next i [x] = some (((H.put b .dead).mk' H.next (.cells (cs.take (i + 1) ++ cs.drop i) (ρ.t 3) 0)).put H.next (.cells (cs.take i ++ x :: cs.drop i) (ρ.t 3) 1)) := by
            rw [writeAt_go, g1, wrB_some, if_pos ⟨by simp only [List.length_singleton]; omega, by simp [hx]⟩, List.length_singleton, ins_list (by omega)]
          obtain ⟨w1, _, _⟩ := hr_write r1 (at_self _ _) hw (v1.upd u2'.toUpd)
          have uw := updH_write (w := w.drew.setCells B (o + (i + 1)) (us.drop i)) (at_ := o + i) (us := vs) (at_self (φ := φ) H.next (B, o + 0)) hw
          have sm : SameH (((H.put b .dead).mk' H.next (.cells (cs.take (i + 1) ++ cs.drop i) (ρ.t 3) 0)).put H.next (.cells (cs.take i ++ x :: cs.drop i) (ρ.t 3) 1)) ((H.put b .dead).mk' H.next (.cells (cs.take i ++ x :: cs.drop i) (ρ.t 3) 0)) := by
            refine ⟨by rw [put_next, mk_next, mk_next], fun d => ?_⟩
            by_cases hd : d = H.next
            · subst hd
              exact .inr ⟨_, _, _, _, _, by rw [Heap.get_put, if_pos rfl], by rw [Heap.get_mk, if_pos rfl]⟩
            · exact .inl (by rw [Heap.get_put, if_neg hd, Heap.get_mk, if_neg hd, Heap.get_mk, if_neg hd])
          refine Calls.ret C ?_ (w1.congr sm) ((u2'.trans uw).congr sm)
          exact VR.sl (o := o) (off := 0) (at_self _ _) hroom (Nat.le_refl _) (uw.shape _ _ (r2.shape _ _ ((upd_drew (φ := φ) (w := w)).shape _ _ q2))) ⟨by omega, hr1.2⟩
      · by_cases hin : i = n
        · exact endgrow (some ⟨B, o, none⟩) c hin (by omega) (by omega) (fun c => by cases c) (fun a ha j v hj => by cases ha; rw [add_none]; exact hcs j v hj)
        · have hlt : i < n := by omega
          have C := Any2.slices_Insert_int_grow L B o n c i B2 o2 1 vc us vs w hlt (by decide) (by omega) (by omega) (by omega) ul vl hcs v2 oc ov
          have hk1 := kill_ok hr hlive
          have hφ : φ H.next = none := by have := hr.blk H.next; rw [hnx] at this; exact this
          have hZ : VRs φ w (cs.take i ++ List.replicate (n + 1 - i) (AV.int .i64 0)) (us.take i ++ List.replicate (n + 1 - i) (Value.int .i64 0)) := (u1.take i).append (VRs.zeros _)
          have ea : (us.take i).toArray ++ Builtin.zeroCells (Value.int .i64 0).cells (n + 1 - i) ++ Builtin.zeroCells (Value.int .i64 0).cells (grownCap w (n + 1) c (ρ.t 3) - (n + 1)) = (us.take i ++ List.replicate (n + 1 - i) (Value.int .i64 0) ++ List.replicate (grownCap w (n + 1) c (ρ.t 3) - (n + 1)) (Value.int .i64 0)).toArray := by rw [zc_int, zc_int]; simp
          rw [ea] at C
          have a1 := hr_alloc hk1 hnx2 (br_new' (w := w) (rest := List.replicate (grownCap w (n + 1) c (ρ.t 3) - (n + 1)) (Value.int .i64 0)) hZ hφ (ρ.t 3) (ρ.t 3) 0)
          have b1 := (updH_kill (φ := φ) (w := w) hlive).trans (updH_alloc hk1 hnx2 (.cells (us.take i ++ List.replicate (n + 1 - i) (Value.int .i64 0) ++ List.replicate (grownCap w (n + 1) c (ρ.t 3) - (n + 1)) (Value.int .i64 0)).toArray (ρ.t 3)) (.cells (cs.take i ++ List.replicate (n + 1 - i) (AV.int .i64 0)) (ρ.t 3) 0))
          have a2 := hr_drew a1
          have b2 := b1.trans (updH_drew _)
          have Zl : (cs.take i ++ List.replicate (n + 1 - i) (AV.int .i64 0)).length = n + 1 := by rw [List.length_append, List.length_take, List.length_replicate]; omega
          have g1 : ((H.put b .dead).mk' (H.put b .dead).next (.cells (cs.take i ++ List.replicate (n + 1 - i) (AV.int .i64 0)) (ρ.t 3) 0)).get H.next = some (.cells (cs.take i ++ List.replicate (n + 1 - i) (AV.int .i64 0)) (ρ.t 3) 0) := by rw [hnext, Heap.get_mk, if_pos rfl]
          have hw1 := writeAt_go (h := (H.put b .dead).mk' (H.put b .dead).next (.cells (cs.take i ++ List.replicate (n + 1 - i) (AV.int .i64 0)) (ρ.t 3) 0)) (b := H.next) (off := i) (vs := [x])
          rw [g1, wrB_some, if_pos ⟨by simp only [List.length_singleton]; omega, by simp [hx]⟩, List.length_singleton] at hw1
          obtain ⟨a3, _, _⟩ := hr_write (b := H.next) a2 (at_self (φ := φ) H.next (w.heap.size, 0)) hw1 (v1.upd b2.toUpd)
          have b3 := b2.trans (updH_write (b := H.next) (at_ := i) (us := vs) (at_self (φ := φ) H.next (w.heap.size, 0)) hw1)
          have a4 := hr_drew a3
          have b4 := b3.trans (updH_drew _)
          have g2 : (((H.put b .dead).mk' (H.put b .dead).next (.cells (cs.take i ++ List.replicate (n + 1 - i) (AV.int .i64 0)) (ρ.t 3) 0)).put H.next (.cells ((cs.take i ++ List.replicate (n + 1 - i) (AV.int .i64 0)).take i ++ [x] ++ (cs.take i ++ List.replicate (n + 1 - i) (AV.int .i64 0)).drop (i + 1)) (ρ.t 3) (0 + 1))).get H.next = some (.cells ((cs.take i ++ List.replicate (n + 1 - i) (AV.int .i64 0)).take i ++ [x] ++ (cs.take i ++ List.replicate (n + 1 - i) (AV.int .i64 0)).drop (i + 1)) (ρ.t 3) (0 + 1)) := by rw [Heap.get_put, if_pos rfl]
          have l2 : ((cs.take i ++ List.replicate (n + 1 - i) (AV.int .i64 0)).take i ++ [x] ++ (cs.take i ++ List.replicate (n + 1 - i) (AV.int .i64 0)).drop (i + 1)).length = n + 1 := by
            simp only [List.length_append, List.length_take, List.length_drop, List.length_singleton, List.length_replicate]; omega
          have hw2 := writeAt_go (h := ((H.put b .dead).mk' (H.put b .dead).next (.cells (cs.take i ++ List.replicate (n + 1 - i) (AV.int .i64 0)) (ρ.t 3) 0)).put H.next (.cells ((cs.take i ++ List.replicate (n + 1 - i) (AV.int .i64 0)).take i ++ [x] ++ (cs.take i ++ List.replicate (n + 1 - i) (AV.int .i64 0)).drop (i + 1)) (ρ.t 3) (0 + 1))) (b := H.next) (off := i + 1) (vs := cs.drop i)
          have od : (cs.drop i).all AV.one = true := List.all_eq_true.2 fun y hy => List.all_eq_true.1 ho y (List.mem_of_mem_drop hy)
          rw [g2, wrB_some, if_pos ⟨by rw [List.length_drop]; omega, od⟩, ins_list2 (by omega) (by rw [List.length_replicate]; omega)] at hw2
          have b4u := b4.toUpd
          obtain ⟨a5, _, _⟩ := hr_write (b := H.next) a4 (at_self (φ := φ) H.next (w.heap.size, 0)) hw2 ((u1.drop i).upd (by simpa using b4u))
          have b5 := b4.trans (updH_write (b := H.next) (at_ := i + 1) (us := us.drop i) (at_self (φ := φ) H.next (w.heap.size, 0)) hw2)
          simp only [Nat.zero_add] at a5 b5
          have s1 := shape_new (w := w) (us.take i ++ List.replicate (n + 1 - i) (Value.int .i64 0) ++ List.replicate (grownCap w (n + 1) c (ρ.t 3) - (n + 1)) (Value.int .i64 0)).toArray (ρ.t 3)
          have sh : ∀ {W : World} {q : Nat × TypeId × Nat} (k : Nat) (z : List Value), W.shape? w.heap.size = some q.2 → (W.drew.setCells w.heap.size k z).shape? w.heap.size = some q.2 := fun {W q} k z h => (upd_setCells (φ := φ.at H.next (w.heap.size, 0)) (b := H.next) (at_self _ _) k z).shape _ _ ((upd_drew (φ := φ) (w := W)).shape _ _ h)
          have s3 := sh (q := (0, _)) (i + 1) (us.drop i) (sh (q := (0, _)) i vs s1)
          refine Calls.ret (H2 := (H.put b .dead).mk' H.next (.cells (cs.take i ++ x :: cs.drop i) (ρ.t 3) 0)) C ?_ (a5.congr (SameH.put2 (l := cs.take i ++ x :: cs.drop i))) (b5.congr (SameH.put2 (l := cs.take i ++ x :: cs.drop i)))
          refine VR.sl (o := 0) (off := 0) (at_self _ _) (grownCap_ge _ _ _ _) (Nat.le_refl _) s3 ⟨?_, ?_⟩
          · simp [ul]; have := grownCap_ge w (n + 1) c (ρ.t 3); omega
          · have := grownCap_le_maxLen w (n + 1) c (ρ.t 3) (by unfold maxLen; omega)
            unfold maxLen at this; omega
    | sl0 a =>
      have hi0 : i = 0 := by omega
      subst hi0
      refine endgrow (some a) 0 rfl (Nat.le_refl _) (by omega) (fun c => by cases c) (fun a' ha j v hj => ?_)
      have : us = [] := List.eq_nil_of_length_eq_zero ul
      rw [this] at hj
      simp at hj
end
end Go.Proofs.Ythmkenkjfmbkiaa.VM
namespace Go.Proofs.Ythmkenkjfmbkiaa.VM
def b5_0 : VCode := (.seq (.seq (.ops [⟨(some 25), none, .mov (.t 11)⟩, ⟨(some 26), none, .mov (.t 9)⟩, ⟨(some 27), none, .bin .lss (.t 25) (.t 26)⟩])
 (.cond (.t 27) .skip (.exit 0)))
 (.seq (.block 1 (.ops [⟨(some 30), none, .mov (.t 10)⟩, ⟨(some 31), none, .mov (.t 11)⟩, ⟨(some 32), none, .bin .add (.t 31) (.c (.int .i64 1))⟩, ⟨(some 33), none, .mov (.t 11)⟩, ⟨(some 34), none, .mov (.t 11)⟩, ⟨(some 35), none, .build [(.int .i64 0), (.int .i64 0)] [(0, 1, (.t 33)), (1, 1, (.t 34))]⟩, ⟨(some 36), none, .bslice [(.int .i64 0), (.int .i64 0)] 61 1 [(0, 2, (.t 35))]⟩, ⟨(some 37), none, .bslice [.nils] 62 1 [(0, 1, (.t 36))]⟩, ⟨(some 38), none, .build [(.int .i64 0), (.int .i64 0), .nils] [(0, 1, (.t 32)), (2, 1, (.t 37))]⟩, ⟨(some 39), none, .bslice [(.int .i64 0), (.int .i64 0), .nils] 50 1 [(0, 3, (.t 38))]⟩, ⟨(some 40), none, .bi (.append 3 40 50) [(.t 30), (.t 39)]⟩, ⟨(some 10), none, .mov (.t 40)⟩]))
 (.ops [⟨(some 28), none, .mov (.t 11)⟩, ⟨(some 29), none, .bin .add (.t 28) (.c (.int .i64 1))⟩, ⟨(some 11), none, .mov (.t 29)⟩])))
/-- furlong/furlonglaw22.ReshardForms -/
def v5 : VFun := ⟨3, [(.tmp 6)], (.seq (.ops [⟨(some 4), none, .box 26 (.t 1)⟩, ⟨(some 6), none, .mov (.c (.bool false))⟩])
 (.seq (.seq (.ops [⟨(some 17), none, .call 21 []⟩, ⟨(some 18), none, .un .not (.t 17)⟩])
 (.cond (.t 18) (.seq (.ops [⟨(some 6), none, .mov (.c (.bool false))⟩])
 .ret) .skip))
 (.seq (.ops [⟨(some 20), none, .call 28 [(.c (.int .i64 3))]⟩, ⟨(some 19), none, .mov (.t 20)⟩, ⟨(some 21), none, .extract (.t 19) 0⟩, ⟨(some 22), none, .extract (.t 19) 1⟩, ⟨(some 7), none, .alloc [(.int .i64 0), .nils, .nils] 24⟩, ⟨none, none, .store 3 (.t 7) (.t 21)⟩, ⟨(some 8), none, .mov (.t 22)⟩])
 (.seq (.ops [⟨(some 23), none, .mov (.t 0)⟩, ⟨(some 24), none, .bin .and (.t 23) (.c (.int .i64 63))⟩, ⟨(some 9), none, .mov (.t 24)⟩])
 (.seq (.ops [⟨(some 10), none, .mov (.c .nils)⟩])
 (.seq (.seq (.ops [⟨(some 11), none, .mov (.c (.int .i64 0))⟩])
 (.block 0 (.loop b5_0)))
 (.seq (.seq (.ops [⟨(some 41), none, .mov (.t 2)⟩, ⟨(some 42), none, .mov (.t 41)⟩, ⟨(some 43), (some (42, true)), .mov (.t 9)⟩, ⟨(some 44), (some (42, true)), .bin .gtr (.t 43) (.c (.int .i64 1))⟩, ⟨(some 45), none, .pick (.t 42) (.t 44) (.c (.bool false))⟩])
 (.cond (.t 45) (.ops [⟨(some 46), none, .mov (.t 10)⟩, ⟨(some 47), none, .iaddr 3 none (.t 46) (.c (.int .i64 1))⟩, ⟨(some 48), none, .faddr 0 (.t 47)⟩, ⟨none, none, .store 1 (.t 48) (.c (.int .i64 1))⟩]) .skip))
 (.seq (.ops [⟨(some 50), none, .load true 3 (.t 7)⟩, ⟨(some 51), none, .load true 3 (.t 4)⟩, ⟨(some 52), none, .call 29 [(.t 50), (.c (.int .i64 3)), (.t 51)]⟩, ⟨(some 49), none, .mov (.t 52)⟩, ⟨(some 53), none, .extract (.t 49) 0⟩, ⟨(some 54), none, .extract (.t 49) 1⟩, ⟨(some 12), none, .alloc [(.int .i64 0), .nils, .nils] 24⟩, ⟨none, none, .store 3 (.t 12) (.t 53)⟩, ⟨(some 13), none, .mov (.t 54)⟩])
 (.seq (.ops [⟨(some 56), none, .load true 3 (.t 7)⟩, ⟨(some 57), none, .load true 3 (.t 4)⟩, ⟨(some 58), none, .mov (.t 10)⟩, ⟨(some 59), none, .call 14 [(.t 56), (.c (.int .i64 3)), (.t 57), (.t 58)]⟩, ⟨(some 55), none, .mov (.t 59)⟩, ⟨(some 60), none, .extract (.t 55) 0⟩, ⟨(some 61), none, .extract (.t 55) 1⟩, ⟨(some 14), none, .mov (.t 60)⟩, ⟨(some 15), none, .mov (.t 61)⟩])
 (.seq (.ops [⟨(some 62), none, .mov (.t 13)⟩, ⟨(some 63), none, .bin .eql (.t 62) (.c (.int .i64 0))⟩, ⟨(some 64), none, .mov (.t 63)⟩, ⟨(some 65), (some (64, true)), .mov (.t 9)⟩, ⟨(some 66), (some (64, true)), .bin .add (.t 65) (.c (.int .i64 1))⟩, ⟨(some 67), (some (64, true)), .bin .leq (.t 66) (.c (.int .i64 32))⟩, ⟨(some 68), none, .pick (.t 64) (.t 67) (.c (.bool false))⟩, ⟨(some 69), none, .mov (.t 68)⟩, ⟨(some 70), (some (69, true)), .mov (.t 2)⟩, ⟨(some 71), (some (69, true)), .mov (.t 70)⟩, ⟨(some 72), (some (71, true)), .mov (.t 9)⟩, ⟨(some 73), (some (71, true)), .bin .gtr (.t 72) (.c (.int .i64 1))⟩, ⟨(some 74), (some (69, true)), .pick (.t 71) (.t 73) (.c (.bool false))⟩, ⟨(some 75), (some (69, true)), .un .not (.t 74)⟩, ⟨(some 76), none, .pick (.t 69) (.t 75) (.c (.bool false))⟩, ⟨(some 16), none, .mov (.t 76)⟩])
 (.seq (.seq (.ops [⟨(some 77), none, .mov (.t 16)⟩, ⟨(some 78), none, .un .not (.t 77)⟩])
 (.cond (.t 78) (.seq (.ops [⟨(some 79), none, .mov (.t 15)⟩, ⟨(some 80), none, .call 17 [(.t 79)]⟩, ⟨(some 81), none, .bin .eql (.t 80) (.c (.int .i64 2200))⟩, ⟨(some 82), none, .mov (.t 81)⟩, ⟨(some 83), (some (82, true)), .mov (.t 14)⟩, ⟨(some 84), (some (82, true)), .bi (.len 1) [(.t 83)]⟩, ⟨(some 85), (some (82, true)), .bin .eql (.t 84) (.c (.int .i64 0))⟩, ⟨(some 86), none, .pick (.t 82) (.t 85) (.c (.bool false))⟩, ⟨(some 6), none, .mov (.t 86)⟩])
 .ret) .skip))
 (.seq (.drawn [⟨(some 87), none, .mov (.t 15)⟩, ⟨(some 88), none, .call 17 [(.t 87)]⟩, ⟨(some 89), none, .bin .eql (.t 88) (.c (.int .i64 0))⟩, ⟨(some 90), none, .mov (.t 89)⟩, ⟨(some 91), (some (90, true)), .mov (.t 14)⟩, ⟨(some 92), (some (90, true)), .bi (.len 1) [(.t 91)]⟩, ⟨(some 93), (some (90, true)), .mov (.t 9)⟩, ⟨(some 94), (some (90, true)), .bin .add (.t 93) (.c (.int .i64 1))⟩, ⟨(some 95), (some (90, true)), .bin .eql (.t 92) (.t 94)⟩, ⟨(some 96), none, .pick (.t 90) (.t 95) (.c (.bool false))⟩, ⟨(some 97), none, .mov (.t 96)⟩, ⟨(some 98), (some (97, true)), .mov (.t 14)⟩, ⟨(some 99), (some (97, true)), .iaddr 8 none (.t 98) (.c (.int .i64 0))⟩, ⟨(some 100), (some (97, true)), .faddr 5 (.t 99)⟩, ⟨(some 101), (some (97, true)), .load true 3 (.t 100)⟩, ⟨(some 102), (some (97, true)), .load true 3 (.t 12)⟩, ⟨(some 103), (some (97, true)), .call 19 [(.t 101), (.t 102)]⟩, ⟨(some 104), none, .pick (.t 97) (.t 103) (.c (.bool false))⟩, ⟨(some 6), none, .mov (.t 104)⟩] [])
 .ret))))))))))))⟩
def b14_0 : VCode := (.seq (.ops [⟨(some 35), none, .bin .lss (.t 34) (.t 33)⟩])
 (.seq (.cond (.t 35) .skip (.exit 0))
 (.seq (.block 1 (.seq (.ops [⟨(some 36), none, .iaddr 3 none (.t 32) (.t 34)⟩, ⟨(some 37), none, .load true 3 (.t 36)⟩, ⟨(some 14), none, .alloc [(.int .i64 0), (.int .i64 0), .nils] 50⟩, ⟨none, none, .store 3 (.t 14) (.t 37)⟩])
 (.ops [⟨(some 38), none, .mov (.t 12)⟩, ⟨(some 39), none, .load true 3 (.t 14)⟩, ⟨(some 40), none, .call 46 [(.t 39)]⟩, ⟨(some 41), none, .build [(.int .i64 0), (.int .i64 0), (.int .i64 0), .nils, (.int .i64 0), (.int .i64 0), .nils, .nils] [(0, 1, (.c (.int .i64 0))), (1, 3, (.t 40))]⟩, ⟨(some 42), none, .bslice [(.int .i64 0), (.int .i64 0), (.int .i64 0), .nils, (.int .i64 0), (.int .i64 0), .nils, .nils] 52 1 [(0, 8, (.t 41))]⟩, ⟨(some 43), none, .bi (.append 8 112 52) [(.t 38), (.t 42)]⟩, ⟨(some 12), none, .mov (.t 43)⟩])))
 (.ops [⟨(some 44), none, .bin .add (.t 34) (.c (.int .i64 1))⟩, ⟨(some 34), none, .mov (.t 44)⟩]))))
/-- furlong/reshard.Ops -/
def v14 : VFun := ⟨4, [(.tmp 8), (.tmp 9)], (.seq (.ops [⟨(some 4), none, .box 24 (.t 0)⟩, ⟨(some 6), none, .box 26 (.t 2)⟩, ⟨(some 8), none, .mov (.c .nils)⟩, ⟨(some 9), none, .mov (.c (.int .i64 0))⟩])
 (.seq (.ops [⟨(some 16), none, .load true 3 (.t 4)⟩, ⟨(some 17), none, .mov (.t 1)⟩, ⟨(some 18), none, .load true 3 (.t 6)⟩, ⟨(some 19), none, .call 32 [(.t 16), (.t 17), (.t 18)]⟩, ⟨(some 15), none, .mov (.t 19)⟩, ⟨(some 20), none, .extract (.t 15) 0⟩, ⟨(some 21), none, .extract (.t 15) 1⟩, ⟨(some 10), none, .alloc [(.int .i64 0), .nils, .nils] 24⟩, ⟨none, none, .store 3 (.t 10) (.t 20)⟩, ⟨(some 11), none, .mov (.t 21)⟩])
 (.seq (.seq (.ops [⟨(some 22), none, .mov (.t 11)⟩, ⟨(some 23), none, .bin .neq (.t 22) (.c (.int .i64 0))⟩, ⟨(some 24), none, .mov (.t 23)⟩, ⟨(some 25), (some (24, false)), .mov (.t 3)⟩, ⟨(some 26), (some (24, false)), .bi (.len 1) [(.t 25)]⟩, ⟨(some 27), (some (24, false)), .bin .geq (.t 26) (.c (.int .i64 32))⟩, ⟨(some 28), none, .pick (.t 24) (.c (.bool true)) (.t 27)⟩])
 (.cond (.t 28) (.seq (.ops [⟨(some 8), none, .mov (.c .nils)⟩, ⟨(some 9), none, .mov (.c (.int .i64 2200))⟩])
 .ret) .skip))
 (.seq (.ops [⟨(some 29), none, .load true 3 (.t 10)⟩, ⟨(some 30), none, .build [(.int .i64 0), (.int .i64 0), (.int .i64 0), .nils, (.int .i64 0), (.int .i64 0), .nils, .nils] [(0, 1, (.c (.int .i64 2))), (5, 3, (.t 29))]⟩, ⟨(some 31), none, .bslice [(.int .i64 0), (.int .i64 0), (.int .i64 0), .nils, (.int .i64 0), (.int .i64 0), .nils, .nils] 52 1 [(0, 8, (.t 30))]⟩, ⟨(some 12), none, .mov (.t 31)⟩])
 (.seq (.seq (.ops [⟨(some 32), none, .mov (.t 3)⟩, ⟨(some 33), none, .bi (.len 1) [(.t 32)]⟩, ⟨(some 34), none, .mov (.c (.int .i64 0))⟩])
 (.block 0 (.loop b14_0)))
 (.seq (.seq (.ops [⟨(some 45), none, .mov (.t 12)⟩, ⟨(some 46), none, .mov (.t 1)⟩, ⟨(some 47), none, .call 47 [(.t 45), (.t 46)]⟩, ⟨(some 48), none, .un .not (.t 47)⟩])
 (.cond (.t 48) (.seq (.ops [⟨(some 8), none, .mov (.c .nils)⟩, ⟨(some 9), none, .mov (.c (.int .i64 2200))⟩])
 .ret) .skip))
 (.seq (.ops [⟨(some 49), none, .mov (.t 12)⟩, ⟨(some 8), none, .mov (.t 49)⟩, ⟨(some 9), none, .mov (.c (.int .i64 0))⟩])
 .ret)))))))⟩
/-- furlong/furlonglaw0.Num -/
def v17 : VFun := ⟨1, [(.tmp 2)], (.seq (.ops [⟨(some 2), none, .mov (.c (.int .i64 0))⟩])
 (.seq (.ops [⟨(some 3), none, .mov (.t 0)⟩, ⟨(some 2), none, .mov (.t 3)⟩])
 .ret))⟩
/-- furlong/furlonglaw0.SameMap -/
def v19 : VFun := ⟨2, [(.tmp 4)], (.seq (.ops [⟨(some 2), none, .box 24 (.t 0)⟩, ⟨(some 3), none, .box 24 (.t 1)⟩, ⟨(some 4), none, .mov (.c (.bool false))⟩])
 (.seq (.ops [⟨(some 5), none, .faddr 0 (.t 2)⟩, ⟨(some 6), none, .load false 1 (.t 5)⟩, ⟨(some 7), none, .faddr 0 (.t 3)⟩, ⟨(some 8), none, .load false 1 (.t 7)⟩, ⟨(some 9), none, .bin .eql (.t 6) (.t 8)⟩, ⟨(some 10), none, .mov (.t 9)⟩, ⟨(some 11), (some (10, true)), .faddr 1 (.t 2)⟩, ⟨(some 12), (some (10, true)), .load false 1 (.t 11)⟩, ⟨(some 13), (some (10, true)), .faddr 1 (.t 3)⟩, ⟨(some 14), (some (10, true)), .load false 1 (.t 13)⟩, ⟨(some 15), (some (10, true)), .call 30 [(.t 12), (.t 14)]⟩, ⟨(some 16), none, .pick (.t 10) (.t 15) (.c (.bool false))⟩, ⟨(some 17), none, .mov (.t 16)⟩, ⟨(some 18), (some (17, true)), .faddr 2 (.t 2)⟩, ⟨(some 19), (some (17, true)), .load false 1 (.t 18)⟩, ⟨(some 20), (some (17, true)), .faddr 2 (.t 3)⟩, ⟨(some 21), (some (17, true)), .load false 1 (.t 20)⟩, ⟨(some 22), (some (17, true)), .call 30 [(.t 19), (.t 21)]⟩, ⟨(some 23), none, .pick (.t 17) (.t 22) (.c (.bool false))⟩, ⟨(some 4), none, .mov (.t 23)⟩])
 .ret))⟩
/-- furlong/furlonglaw22.awake -/
def v21 : VFun := ⟨0, [(.tmp 0)], (.seq (.ops [⟨(some 0), none, .mov (.c (.bool false))⟩])
 (.seq (.ops [⟨(some 9), none, .call 28 [(.c (.int .i64 2))]⟩, ⟨(some 8), none, .mov (.t 9)⟩, ⟨(some 10), none, .extract (.t 8) 0⟩, ⟨(some 11), none, .extract (.t 8) 1⟩, ⟨(some 1), none, .alloc [(.int .i64 0), .nils, .nils] 24⟩, ⟨none, none, .store 3 (.t 1) (.t 10)⟩, ⟨(some 2), none, .mov (.t 11)⟩])
 (.seq (.ops [⟨(some 12), none, .build [(.int .i64 0), (.int .i64 0)] [(0, 1, (.c (.int .i64 1))), (1, 1, (.c (.int .i64 2)))]⟩, ⟨(some 13), none, .bslice [(.int .i64 0), (.int .i64 0)] 61 1 [(0, 2, (.t 12))]⟩, ⟨(some 14), none, .bslice [.nils] 62 1 [(0, 1, (.t 13))]⟩, ⟨(some 15), none, .build [(.int .i64 0), (.int .i64 0), .nils] [(0, 1, (.c (.int .i64 4))), (2, 1, (.t 14))]⟩, ⟨(some 3), none, .alloc [(.int .i64 0), (.int .i64 0), .nils] 50⟩, ⟨none, none, .store 3 (.t 3) (.t 15)⟩])
 (.seq (.ops [⟨(some 17), none, .load true 3 (.t 1)⟩, ⟨(some 18), none, .build [(.int .i64 0), (.int .i64 0), (.int .i64 0)] [(0, 1, (.c (.int .i64 1))), (1, 1, (.c (.int .i64 0))), (2, 1, (.c (.int .i64 1)))]⟩, ⟨(some 19), none, .load true 3 (.t 3)⟩, ⟨(some 20), none, .bslice [(.int .i64 0), (.int .i64 0), .nils] 50 1 [(0, 3, (.t 19))]⟩, ⟨(some 21), none, .call 14 [(.t 17), (.c (.int .i64 2)), (.t 18), (.t 20)]⟩, ⟨(some 16), none, .mov (.t 21)⟩, ⟨(some 22), none, .extract (.t 16) 0⟩, ⟨(some 23), none, .extract (.t 16) 1⟩, ⟨(some 4), none, .mov (.t 22)⟩, ⟨(some 5), none, .mov (.t 23)⟩])
 (.seq (.ops [⟨(some 25), none, .load true 3 (.t 1)⟩, ⟨(some 26), none, .build [(.int .i64 0), (.int .i64 0), (.int .i64 0)] [(0, 1, (.c (.int .i64 1))), (1, 1, (.c (.int .i64 0))), (2, 1, (.c (.int .i64 2)))]⟩, ⟨(some 27), none, .call 14 [(.t 25), (.c (.int .i64 2)), (.t 26), (.c .nils)]⟩, ⟨(some 24), none, .mov (.t 27)⟩, ⟨(some 28), none, .extract (.t 24) 0⟩, ⟨(some 29), none, .extract (.t 24) 1⟩, ⟨(some 6), none, .mov (.t 28)⟩, ⟨(some 7), none, .mov (.t 29)⟩])
 (.seq (.drawn [⟨(some 30), none, .mov (.t 4)⟩, ⟨(some 31), none, .bi (.len 1) [(.t 30)]⟩, ⟨(some 32), none, .bin .eql (.t 31) (.c (.int .i64 2))⟩, ⟨(some 33), none, .mov (.t 32)⟩, ⟨(some 34), (some (33, true)), .mov (.t 4)⟩, ⟨(some 35), (some (33, true)), .iaddr 8 none (.t 34) (.c (.int .i64 0))⟩, ⟨(some 36), (some (33, true)), .faddr 0 (.t 35)⟩, ⟨(some 37), (some (33, true)), .load false 1 (.t 36)⟩, ⟨(some 38), (some (33, true)), .bin .eql (.t 37) (.c (.int .i64 2))⟩, ⟨(some 39), none, .pick (.t 33) (.t 38) (.c (.bool false))⟩, ⟨(some 40), none, .mov (.t 39)⟩, ⟨(some 41), (some (40, true)), .mov (.t 4)⟩, ⟨(some 42), (some (40, true)), .iaddr 8 none (.t 41) (.c (.int .i64 0))⟩, ⟨(some 43), (some (40, true)), .faddr 5 (.t 42)⟩, ⟨(some 44), (some (40, true)), .faddr 0 (.t 43)⟩, ⟨(some 45), (some (40, true)), .load false 1 (.t 44)⟩, ⟨(some 46), (some (40, true)), .bin .eql (.t 45) (.c (.int .i64 2))⟩, ⟨(some 47), none, .pick (.t 40) (.t 46) (.c (.bool false))⟩, ⟨(some 48), none, .mov (.t 47)⟩, ⟨(some 49), (some (48, true)), .mov (.t 4)⟩, ⟨(some 50), (some (48, true)), .iaddr 8 none (.t 49) (.c (.int .i64 0))⟩, ⟨(some 51), (some (48, true)), .faddr 5 (.t 50)⟩, ⟨(some 52), (some (48, true)), .faddr 2 (.t 51)⟩, ⟨(some 53), (some (48, true)), .load false 1 (.t 52)⟩, ⟨(some 54), (some (48, true)), .bslice [(.int .i64 0)] 3 2 [(0, 1, (.c (.int .i64 1))), (1, 1, (.c (.int .i64 1)))]⟩, ⟨(some 55), (some (48, true)), .call 30 [(.t 53), (.t 54)]⟩, ⟨(some 56), none, .pick (.t 48) (.t 55) (.c (.bool false))⟩, ⟨(some 57), none, .mov (.t 56)⟩, ⟨(some 58), (some (57, true)), .mov (.t 4)⟩, ⟨(some 59), (some (57, true)), .iaddr 8 none (.t 58) (.c (.int .i64 1))⟩, ⟨(some 60), (some (57, true)), .faddr 1 (.t 59)⟩, ⟨(some 61), (some (57, true)), .load true 3 (.t 60)⟩, ⟨(some 62), (some (57, true)), .load true 3 (.t 3)⟩, ⟨(some 63), (some (57, true)), .call 26 [(.t 61), (.t 62)]⟩, ⟨(some 64), none, .pick (.t 57) (.t 63) (.c (.bool false))⟩, ⟨(some 65), none, .mov (.t 64)⟩, ⟨(some 66), (some (65, true)), .mov (.t 5)⟩, ⟨(some 67), (some (65, true)), .call 17 [(.t 66)]⟩, ⟨(some 68), (some (65, true)), .bin .eql (.t 67) (.c (.int .i64 0))⟩, ⟨(some 69), none, .pick (.t 65) (.t 68) (.c (.bool false))⟩, ⟨(some 70), none, .mov (.t 69)⟩, ⟨(some 71), (some (70, true)), .mov (.t 7)⟩, ⟨(some 72), (some (70, true)), .call 17 [(.t 71)]⟩, ⟨(some 73), (some (70, true)), .bin .eql (.t 72) (.c (.int .i64 2200))⟩, ⟨(some 74), none, .pick (.t 70) (.t 73) (.c (.bool false))⟩, ⟨(some 0), none, .mov (.t 74)⟩] [(23, [25])])
 .ret))))))⟩
def b26_0 : VCode := (.seq (.seq (.ops [⟨(some 48), none, .mov (.t 6)⟩, ⟨(some 49), none, .faddr 2 (.t 2)⟩, ⟨(some 50), none, .load false 1 (.t 49)⟩, ⟨(some 51), none, .mov (.t 5)⟩, ⟨(some 52), none, .iaddr 1 none (.t 50) (.t 51)⟩, ⟨(some 53), none, .load false 1 (.t 52)⟩, ⟨(some 54), none, .bi (.len 1) [(.t 53)]⟩, ⟨(some 55), none, .bin .lss (.t 48) (.t 54)⟩])
 (.cond (.t 55) .skip (.exit 2)))
 (.seq (.block 3 (.seq (.drawn [⟨(some 58), none, .faddr 2 (.t 2)⟩, ⟨(some 59), none, .load false 1 (.t 58)⟩, ⟨(some 60), none, .mov (.t 5)⟩, ⟨(some 61), none, .iaddr 1 none (.t 59) (.t 60)⟩, ⟨(some 62), none, .load false 1 (.t 61)⟩, ⟨(some 63), none, .mov (.t 6)⟩, ⟨(some 64), none, .iaddr 2 none (.t 62) (.t 63)⟩, ⟨(some 65), none, .load true 2 (.t 64)⟩, ⟨(some 66), none, .faddr 2 (.t 3)⟩, ⟨(some 67), none, .load false 1 (.t 66)⟩, ⟨(some 68), none, .mov (.t 5)⟩, ⟨(some 69), none, .iaddr 1 none (.t 67) (.t 68)⟩, ⟨(some 70), none, .load false 1 (.t 69)⟩, ⟨(some 71), none, .mov (.t 6)⟩, ⟨(some 72), none, .iaddr 2 none (.t 70) (.t 71)⟩, ⟨(some 73), none, .load true 2 (.t 72)⟩, ⟨(some 74), none, .eqs (.flat [.int, .int]) true (.t 65) (.t 73)⟩] [])
 (.cond (.t 74) (.seq (.ops [⟨(some 4), none, .mov (.c (.bool false))⟩])
 .ret) .skip)))
 (.ops [⟨(some 56), none, .mov (.t 6)⟩, ⟨(some 57), none, .bin .add (.t 56) (.c (.int .i64 1))⟩, ⟨(some 6), none, .mov (.t 57)⟩])))
def b26_1 : VCode := (.seq (.seq (.ops [⟨(some 28), none, .mov (.t 5)⟩, ⟨(some 29), none, .faddr 2 (.t 2)⟩, ⟨(some 30), none, .load false 1 (.t 29)⟩, ⟨(some 31), none, .bi (.len 1) [(.t 30)]⟩, ⟨(some 32), none, .bin .lss (.t 28) (.t 31)⟩])
 (.cond (.t 32) .skip (.exit 0)))
 (.seq (.block 1 (.seq (.seq (.drawn [⟨(some 35), none, .faddr 2 (.t 2)⟩, ⟨(some 36), none, .load false 1 (.t 35)⟩, ⟨(some 37), none, .mov (.t 5)⟩, ⟨(some 38), none, .iaddr 1 none (.t 36) (.t 37)⟩, ⟨(some 39), none, .load false 1 (.t 38)⟩, ⟨(some 40), none, .bi (.len 1) [(.t 39)]⟩, ⟨(some 41), none, .faddr 2 (.t 3)⟩, ⟨(some 42), none, .load false 1 (.t 41)⟩, ⟨(some 43), none, .mov (.t 5)⟩, ⟨(some 44), none, .iaddr 1 none (.t 42) (.t 43)⟩, ⟨(some 45), none, .load false 1 (.t 44)⟩, ⟨(some 46), none, .bi (.len 1) [(.t 45)]⟩, ⟨(some 47), none, .bin .neq (.t 40) (.t 46)⟩] [])
 (.cond (.t 47) (.seq (.ops [⟨(some 4), none, .mov (.c (.bool false))⟩])
 .ret) .skip))
 (.seq (.ops [⟨(some 6), none, .mov (.c (.int .i64 0))⟩])
 (.block 2 (.loop b26_0)))))
 (.ops [⟨(some 33), none, .mov (.t 5)⟩, ⟨(some 34), none, .bin .add (.t 33) (.c (.int .i64 1))⟩, ⟨(some 5), none, .mov (.t 34)⟩])))
/-- furlong/furlonglaw0.SameFeature -/
def v26 : VFun := ⟨2, [(.tmp 4)], (.seq (.ops [⟨(some 2), none, .box 50 (.t 0)⟩, ⟨(some 3), none, .box 50 (.t 1)⟩, ⟨(some 4), none, .mov (.c (.bool false))⟩])
 (.seq (.seq (.ops [⟨(some 7), none, .faddr 0 (.t 2)⟩, ⟨(some 8), none, .load false 1 (.t 7)⟩, ⟨(some 9), none, .faddr 0 (.t 3)⟩, ⟨(some 10), none, .load false 1 (.t 9)⟩, ⟨(some 11), none, .bin .neq (.t 8) (.t 10)⟩, ⟨(some 12), none, .mov (.t 11)⟩, ⟨(some 13), (some (12, false)), .faddr 1 (.t 2)⟩, ⟨(some 14), (some (12, false)), .load false 1 (.t 13)⟩, ⟨(some 15), (some (12, false)), .faddr 1 (.t 3)⟩, ⟨(some 16), (some (12, false)), .load false 1 (.t 15)⟩, ⟨(some 17), (some (12, false)), .bin .neq (.t 14) (.t 16)⟩, ⟨(some 18), none, .pick (.t 12) (.c (.bool true)) (.t 17)⟩, ⟨(some 19), none, .mov (.t 18)⟩, ⟨(some 20), (some (19, false)), .faddr 2 (.t 2)⟩, ⟨(some 21), (some (19, false)), .load false 1 (.t 20)⟩, ⟨(some 22), (some (19, false)), .bi (.len 1) [(.t 21)]⟩, ⟨(some 23), (some (19, false)), .faddr 2 (.t 3)⟩, ⟨(some 24), (some (19, false)), .load false 1 (.t 23)⟩, ⟨(some 25), (some (19, false)), .bi (.len 1) [(.t 24)]⟩, ⟨(some 26), (some (19, false)), .bin .neq (.t 22) (.t 25)⟩, ⟨(some 27), none, .pick (.t 19) (.c (.bool true)) (.t 26)⟩])
 (.cond (.t 27) (.seq (.ops [⟨(some 4), none, .mov (.c (.bool false))⟩])
 .ret) .skip))
 (.seq (.seq (.ops [⟨(some 5), none, .mov (.c (.int .i64 0))⟩])
 (.block 0 (.loop b26_1)))
 (.seq (.ops [⟨(some 4), none, .mov (.c (.bool true))⟩])
 .ret))))⟩
def b28_0 : VCode := (.seq (.seq (.ops [⟨(some 14), none, .mov (.t 5)⟩, ⟨(some 15), none, .mov (.t 0)⟩, ⟨(some 16), none, .bin .lss (.t 14) (.t 15)⟩])
 (.cond (.t 16) .skip (.exit 0)))
 (.seq (.block 1 (.seq (.drawn [⟨(some 19), none, .faddr 1 (.t 4)⟩, ⟨(some 20), none, .load false 1 (.t 19)⟩, ⟨(some 21), none, .mov (.t 5)⟩, ⟨(some 22), none, .bin .mul (.t 21) (.c (.int .i64 4294967296))⟩, ⟨(some 23), none, .mov (.t 0)⟩, ⟨(some 24), none, .bin .quo (.t 22) (.t 23)⟩, ⟨(some 25), none, .bslice [(.int .i64 0)] 3 1 [(0, 1, (.t 24))]⟩, ⟨(some 26), none, .bi (.append 1 8 3) [(.t 20), (.t 25)]⟩, ⟨(some 27), none, .faddr 1 (.t 4)⟩, ⟨none, none, .store 1 (.t 27) (.t 26)⟩] [(1, [7])])
 (.ops [⟨(some 28), none, .faddr 2 (.t 4)⟩, ⟨(some 29), none, .load false 1 (.t 28)⟩, ⟨(some 30), none, .mov (.t 5)⟩, ⟨(some 31), none, .bslice [(.int .i64 0)] 3 1 [(0, 1, (.t 30))]⟩, ⟨(some 32), none, .bi (.append 1 8 3) [(.t 29), (.t 31)]⟩, ⟨(some 33), none, .faddr 2 (.t 4)⟩, ⟨none, none, .store 1 (.t 33) (.t 32)⟩])))
 (.ops [⟨(some 17), none, .mov (.t 5)⟩, ⟨(some 18), none, .bin .add (.t 17) (.c (.int .i64 1))⟩, ⟨(some 5), none, .mov (.t 18)⟩])))
/-- furlong/furlongref1.First -/
def v28 : VFun := ⟨1, [(.cell 2 true 3), (.tmp 3)], (.seq (.ops [⟨(some 2), none, .alloc [(.int .i64 0), .nils, .nils] 24⟩, ⟨(some 3), none, .mov (.c (.int .i64 0))⟩])
 (.seq (.seq (.ops [⟨(some 6), none, .mov (.t 0)⟩, ⟨(some 7), none, .bin .lss (.t 6) (.c (.int .i64 1))⟩, ⟨(some 8), none, .mov (.t 7)⟩, ⟨(some 9), (some (8, false)), .mov (.t 0)⟩, ⟨(some 10), (some (8, false)), .bin .gtr (.t 9) (.c (.int .i64 8))⟩, ⟨(some 11), none, .pick (.t 8) (.c (.bool true)) (.t 10)⟩])
 (.cond (.t 11) (.seq (.ops [⟨(some 12), none, .build [(.int .i64 0), .nils, .nils] []⟩, ⟨none, none, .store 3 (.t 2) (.t 12)⟩, ⟨(some 3), none, .mov (.c (.int .i64 700))⟩])
 .ret) .skip))
 (.seq (.ops [⟨(some 13), none, .build [(.int .i64 0), .nils, .nils] [(0, 1, (.c (.int .i64 1)))]⟩, ⟨(some 4), none, .alloc [(.int .i64 0), .nils, .nils] 24⟩, ⟨none, none, .store 3 (.t 4) (.t 13)⟩])
 (.seq (.seq (.ops [⟨(some 5), none, .mov (.c (.int .i64 0))⟩])
 (.block 0 (.loop b28_0)))
 (.seq (.ops [⟨(some 34), none, .load true 3 (.t 4)⟩, ⟨none, none, .store 3 (.t 2) (.t 34)⟩, ⟨(some 3), none, .mov (.c (.int .i64 0))⟩])
 .ret)))))⟩
/-- furlong/furlongref1.Change -/
def v29 : VFun := ⟨3, [(.cell 6 true 3), (.tmp 7)], (.seq (.ops [⟨(some 3), none, .box 24 (.t 0)⟩, ⟨(some 5), none, .box 26 (.t 2)⟩, ⟨(some 6), none, .alloc [(.int .i64 0), .nils, .nils] 24⟩, ⟨(some 7), none, .mov (.c (.int .i64 0))⟩])
 (.seq (.seq (.ops [⟨(some 10), none, .load true 3 (.t 3)⟩, ⟨(some 11), none, .mov (.t 1)⟩, ⟨(some 12), none, .call 42 [(.t 10), (.t 11)]⟩, ⟨(some 13), none, .un .not (.t 12)⟩, ⟨(some 14), none, .mov (.t 13)⟩, ⟨(some 15), (some (14, false)), .faddr 0 (.t 5)⟩, ⟨(some 16), (some (14, false)), .load false 1 (.t 15)⟩, ⟨(some 17), (some (14, false)), .bin .lss (.t 16) (.c (.int .i64 0))⟩, ⟨(some 18), none, .pick (.t 14) (.c (.bool true)) (.t 17)⟩, ⟨(some 19), none, .mov (.t 18)⟩, ⟨(some 20), (some (19, false)), .faddr 0 (.t 5)⟩, ⟨(some 21), (some (19, false)), .load false 1 (.t 20)⟩, ⟨(some 22), (some (19, false)), .bin .gtr (.t 21) (.c (.int .i64 2))⟩, ⟨(some 23), none, .pick (.t 19) (.c (.bool true)) (.t 22)⟩, ⟨(some 24), none, .mov (.t 23)⟩, ⟨(some 25), (some (24, false)), .faddr 1 (.t 5)⟩, ⟨(some 26), (some (24, false)), .load false 1 (.t 25)⟩, ⟨(some 27), (some (24, false)), .bin .lss (.t 26) (.c (.int .i64 0))⟩, ⟨(some 28), none, .pick (.t 24) (.c (.bool true)) (.t 27)⟩, ⟨(some 29), none, .mov (.t 28)⟩, ⟨(some 30), (some (29, false)), .faddr 1 (.t 5)⟩, ⟨(some 31), (some (29, false)), .load false 1 (.t 30)⟩, ⟨(some 32), (some (29, false)), .bin .geq (.t 31) (.c (.int .i64 4294967296))⟩, ⟨(some 33), none, .pick (.t 29) (.c (.bool true)) (.t 32)⟩])
 (.cond (.t 33) (.seq (.ops [⟨(some 34), none, .build [(.int .i64 0), .nils, .nils] []⟩, ⟨none, none, .store 3 (.t 6) (.t 34)⟩, ⟨(some 7), none, .mov (.c (.int .i64 700))⟩])
 .ret) .skip))
 (.seq (.seq (.ops [⟨(some 35), none, .faddr 0 (.t 3)⟩, ⟨(some 36), none, .load false 1 (.t 35)⟩, ⟨(some 37), none, .bin .eql (.t 36) (.c (.int .i64 65535))⟩])
 (.cond (.t 37) (.seq (.ops [⟨(some 38), none, .build [(.int .i64 0), .nils, .nils] []⟩, ⟨none, none, .store 3 (.t 6) (.t 38)⟩, ⟨(some 7), none, .mov (.c (.int .i64 701))⟩])
 .ret) .skip))
 (.seq (.ops [⟨(some 39), none, .load true 3 (.t 3)⟩, ⟨(some 40), none, .faddr 1 (.t 5)⟩, ⟨(some 41), none, .load false 1 (.t 40)⟩, ⟨(some 42), none, .call 56 [(.t 39), (.t 41)]⟩, ⟨(some 8), none, .mov (.t 42)⟩])
 (.seq (.mixed [⟨(some 43), none, .faddr 0 (.t 3)⟩, ⟨(some 44), none, .load false 1 (.t 43)⟩, ⟨(some 45), none, .bin .add (.t 44) (.c (.int .i64 1))⟩, ⟨(some 46), none, .bslice [(.int .i64 0)] 3 0 []⟩, ⟨(some 47), none, .faddr 1 (.t 3)⟩, ⟨(some 48), none, .load false 1 (.t 47)⟩, ⟨(some 49), none, .bi (.append 1 8 3) [(.t 46), (.t 48)]⟩, ⟨(some 50), none, .bslice [(.int .i64 0)] 3 0 []⟩, ⟨(some 51), none, .faddr 2 (.t 3)⟩, ⟨(some 52), none, .load false 1 (.t 51)⟩, ⟨(some 53), none, .bi (.append 1 8 3) [(.t 50), (.t 52)]⟩, ⟨(some 54), none, .build [(.int .i64 0), .nils, .nils] [(0, 1, (.t 45)), (1, 1, (.t 49)), (2, 1, (.t 53))]⟩, ⟨(some 9), none, .alloc [(.int .i64 0), .nils, .nils] 24⟩, ⟨none, none, .store 3 (.t 9) (.t 54)⟩] [(1, [4, 7, 8, 11, 13]), (5, [0]), (9, [0, 4, 7])])
 (.seq (.seq (.ops [⟨(some 55), none, .faddr 0 (.t 5)⟩, ⟨(some 56), none, .load false 1 (.t 55)⟩])
 (.block 0 (.seq (.ops [⟨(some 77), none, .bin .eql (.t 56) (.c (.int .i64 0))⟩, ⟨(some 76), none, .mov (.t 77)⟩])
 (.cond (.t 76) (.seq (.seq (.drawn [⟨(some 78), none, .faddr 1 (.t 3)⟩, ⟨(some 79), none, .load false 1 (.t 78)⟩, ⟨(some 80), none, .mov (.t 8)⟩, ⟨(some 81), none, .iaddr 1 none (.t 79) (.t 80)⟩, ⟨(some 82), none, .load false 1 (.t 81)⟩, ⟨(some 83), none, .faddr 1 (.t 5)⟩, ⟨(some 84), none, .load false 1 (.t 83)⟩, ⟨(some 85), none, .bin .eql (.t 82) (.t 84)⟩, ⟨(some 86), none, .mov (.t 85)⟩, ⟨(some 87), (some (86, false)), .faddr 1 (.t 3)⟩, ⟨(some 88), (some (86, false)), .load false 1 (.t 87)⟩, ⟨(some 89), (some (86, false)), .bi (.len 1) [(.t 88)]⟩, ⟨(some 90), (some (86, false)), .bin .eql (.t 89) (.c (.int .i64 32))⟩, ⟨(some 91), none, .pick (.t 86) (.c (.bool true)) (.t 90)⟩] [])
 (.cond (.t 91) (.seq (.ops [⟨(some 92), none, .build [(.int .i64 0), .nils, .nils] []⟩, ⟨none, none, .store 3 (.t 6) (.t 92)⟩, ⟨(some 7), none, .mov (.c (.int .i64 700))⟩])
 .ret) .skip))
 (.seq (.ops [⟨(some 93), none, .faddr 1 (.t 3)⟩, ⟨(some 94), none, .load false 1 (.t 93)⟩, ⟨(some 95), none, .mov (.t 8)⟩, ⟨(some 96), none, .bin .add (.t 95) (.c (.int .i64 1))⟩, ⟨(some 97), none, .faddr 1 (.t 5)⟩, ⟨(some 98), none, .load false 1 (.t 97)⟩, ⟨(some 99), none, .call 57 [(.t 94), (.t 96), (.t 98), (.c (.bool false))]⟩, ⟨(some 100), none, .faddr 1 (.t 9)⟩, ⟨none, none, .store 1 (.t 100) (.t 99)⟩])
 (.drawn [⟨(some 101), none, .faddr 2 (.t 3)⟩, ⟨(some 102), none, .load false 1 (.t 101)⟩, ⟨(some 103), none, .mov (.t 8)⟩, ⟨(some 104), none, .bin .add (.t 103) (.c (.int .i64 1))⟩, ⟨(some 105), none, .faddr 2 (.t 3)⟩, ⟨(some 106), none, .load false 1 (.t 105)⟩, ⟨(some 107), none, .mov (.t 8)⟩, ⟨(some 108), none, .iaddr 1 none (.t 106) (.t 107)⟩, ⟨(some 109), none, .load false 1 (.t 108)⟩, ⟨(some 110), none, .call 57 [(.t 102), (.t 104), (.t 109), (.c (.bool false))]⟩, ⟨(some 111), none, .faddr 2 (.t 9)⟩, ⟨none, none, .store 1 (.t 111) (.t 110)⟩] []))) (.seq (.ops [⟨(some 113), none, .bin .eql (.t 56) (.c (.int .i64 1))⟩, ⟨(some 112), none, .mov (.t 113)⟩])
 (.cond (.t 112) (.seq (.seq (.ops [⟨(some 114), none, .faddr 2 (.t 5)⟩, ⟨(some 115), none, .load false 1 (.t 114)⟩, ⟨(some 116), none, .bin .lss (.t 115) (.c (.int .i64 0))⟩, ⟨(some 117), none, .mov (.t 116)⟩, ⟨(some 118), (some (117, false)), .faddr 2 (.t 5)⟩, ⟨(some 119), (some (117, false)), .load false 1 (.t 118)⟩, ⟨(some 120), (some (117, false)), .mov (.t 1)⟩, ⟨(some 121), (some (117, false)), .bin .geq (.t 119) (.t 120)⟩, ⟨(some 122), none, .pick (.t 117) (.c (.bool true)) (.t 121)⟩])
 (.cond (.t 122) (.seq (.ops [⟨(some 123), none, .build [(.int .i64 0), .nils, .nils] []⟩, ⟨none, none, .store 3 (.t 6) (.t 123)⟩, ⟨(some 7), none, .mov (.c (.int .i64 700))⟩])
 .ret) .skip))
 (.ops [⟨(some 124), none, .faddr 2 (.t 9)⟩, ⟨(some 125), none, .load false 1 (.t 124)⟩, ⟨(some 126), none, .mov (.t 8)⟩, ⟨(some 127), none, .faddr 2 (.t 5)⟩, ⟨(some 128), none, .load false 1 (.t 127)⟩, ⟨(some 129), none, .iaddr 1 none (.t 125) (.t 126)⟩, ⟨none, none, .store 1 (.t 129) (.t 128)⟩])) (.seq (.seq (.ops [⟨(some 57), none, .mov (.t 8)⟩, ⟨(some 58), none, .bin .add (.t 57) (.c (.int .i64 1))⟩, ⟨(some 59), none, .faddr 1 (.t 3)⟩, ⟨(some 60), none, .load false 1 (.t 59)⟩, ⟨(some 61), none, .bi (.len 1) [(.t 60)]⟩, ⟨(some 62), none, .bin .eql (.t 58) (.t 61)⟩])
 (.cond (.t 62) (.seq (.ops [⟨(some 63), none, .build [(.int .i64 0), .nils, .nils] []⟩, ⟨none, none, .store 3 (.t 6) (.t 63)⟩, ⟨(some 7), none, .mov (.c (.int .i64 700))⟩])
 .ret) .skip))
 (.seq (.ops [⟨(some 64), none, .faddr 1 (.t 3)⟩, ⟨(some 65), none, .load false 1 (.t 64)⟩, ⟨(some 66), none, .mov (.t 8)⟩, ⟨(some 67), none, .bin .add (.t 66) (.c (.int .i64 1))⟩, ⟨(some 68), none, .call 57 [(.t 65), (.t 67), (.c (.int .i64 0)), (.c (.bool true))]⟩, ⟨(some 69), none, .faddr 1 (.t 9)⟩, ⟨none, none, .store 1 (.t 69) (.t 68)⟩])
 (.ops [⟨(some 70), none, .faddr 2 (.t 3)⟩, ⟨(some 71), none, .load false 1 (.t 70)⟩, ⟨(some 72), none, .mov (.t 8)⟩, ⟨(some 73), none, .bin .add (.t 72) (.c (.int .i64 1))⟩, ⟨(some 74), none, .call 57 [(.t 71), (.t 73), (.c (.int .i64 0)), (.c (.bool true))]⟩, ⟨(some 75), none, .faddr 2 (.t 9)⟩, ⟨none, none, .store 1 (.t 75) (.t 74)⟩])))))))))
 (.seq (.ops [⟨(some 130), none, .load true 3 (.t 9)⟩, ⟨none, none, .store 3 (.t 6) (.t 130)⟩, ⟨(some 7), none, .mov (.c (.int .i64 0))⟩])
 .ret)))))))⟩
def b30_0 : VCode := (.seq (.seq (.ops [⟨(some 11), none, .mov (.t 5)⟩, ⟨(some 12), none, .mov (.t 0)⟩, ⟨(some 13), none, .bi (.len 1) [(.t 12)]⟩, ⟨(some 14), none, .bin .lss (.t 11) (.t 13)⟩])
 (.cond (.t 14) .skip (.exit 0)))
 (.seq (.block 1 (.seq (.drawn [⟨(some 17), none, .mov (.t 0)⟩, ⟨(some 18), none, .mov (.t 5)⟩, ⟨(some 19), none, .iaddr 1 none (.t 17) (.t 18)⟩, ⟨(some 20), none, .load false 1 (.t 19)⟩, ⟨(some 21), none, .mov (.t 1)⟩, ⟨(some 22), none, .mov (.t 5)⟩, ⟨(some 23), none, .iaddr 1 none (.t 21) (.t 22)⟩, ⟨(some 24), none, .load false 1 (.t 23)⟩, ⟨(some 25), none, .bin .neq (.t 20) (.t 24)⟩] [])
 (.cond (.t 25) (.seq (.ops [⟨(some 4), none, .mov (.c (.bool false))⟩])
 .ret) .skip)))
 (.ops [⟨(some 15), none, .mov (.t 5)⟩, ⟨(some 16), none, .bin .add (.t 15) (.c (.int .i64 1))⟩, ⟨(some 5), none, .mov (.t 16)⟩])))
/-- furlong/furlonglaw0.SameInts -/
def v30 : VFun := ⟨2, [(.tmp 4)], (.seq (.ops [⟨(some 4), none, .mov (.c (.bool false))⟩])
 (.seq (.seq (.ops [⟨(some 6), none, .mov (.t 0)⟩, ⟨(some 7), none, .bi (.len 1) [(.t 6)]⟩, ⟨(some 8), none, .mov (.t 1)⟩, ⟨(some 9), none, .bi (.len 1) [(.t 8)]⟩, ⟨(some 10), none, .bin .neq (.t 7) (.t 9)⟩])
 (.cond (.t 10) (.seq (.ops [⟨(some 4), none, .mov (.c (.bool false))⟩])
 .ret) .skip))
 (.seq (.seq (.ops [⟨(some 5), none, .mov (.c (.int .i64 0))⟩])
 (.block 0 (.loop b30_0)))
 (.seq (.ops [⟨(some 4), none, .mov (.c (.bool true))⟩])
 .ret))))⟩
/-- furlong/smap.Change -/
def v32 : VFun := ⟨3, [(.cell 6 true 3), (.tmp 7)], (.seq (.ops [⟨(some 3), none, .box 24 (.t 0)⟩, ⟨(some 5), none, .box 26 (.t 2)⟩, ⟨(some 6), none, .alloc [(.int .i64 0), .nils, .nils] 24⟩, ⟨(some 7), none, .mov (.c (.int .i64 0))⟩])
 (.seq (.block 0 (.seq (.ops [⟨(some 11), none, .load true 3 (.t 3)⟩, ⟨(some 12), none, .mov (.t 1)⟩, ⟨(some 13), none, .call 35 [(.t 11), (.t 12)]⟩, ⟨(some 14), none, .un .not (.t 13)⟩, ⟨(some 15), none, .mov (.t 14)⟩, ⟨(some 16), (some (15, false)), .faddr 0 (.t 5)⟩, ⟨(some 17), (some (15, false)), .load false 1 (.t 16)⟩, ⟨(some 18), (some (15, false)), .bin .lss (.t 17) (.c (.int .i64 0))⟩, ⟨(some 19), none, .pick (.t 15) (.c (.bool true)) (.t 18)⟩, ⟨(some 20), none, .mov (.t 19)⟩, ⟨(some 21), (some (20, false)), .faddr 0 (.t 5)⟩, ⟨(some 22), (some (20, false)), .load false 1 (.t 21)⟩, ⟨(some 23), (some (20, false)), .bin .gtr (.t 22) (.c (.int .i64 2))⟩, ⟨(some 24), none, .pick (.t 20) (.c (.bool true)) (.t 23)⟩, ⟨(some 25), none, .mov (.t 24)⟩, ⟨(some 26), (some (25, false)), .faddr 1 (.t 5)⟩, ⟨(some 27), (some (25, false)), .load false 1 (.t 26)⟩, ⟨(some 28), (some (25, false)), .bin .lss (.t 27) (.c (.int .i64 0))⟩, ⟨(some 29), none, .pick (.t 25) (.c (.bool true)) (.t 28)⟩, ⟨(some 30), none, .mov (.t 29)⟩, ⟨(some 31), (some (30, false)), .faddr 1 (.t 5)⟩, ⟨(some 32), (some (30, false)), .load false 1 (.t 31)⟩, ⟨(some 33), (some (30, false)), .bin .geq (.t 32) (.c (.int .i64 4294967296))⟩, ⟨(some 34), none, .pick (.t 30) (.c (.bool true)) (.t 33)⟩, ⟨(some 10), none, .mov (.t 34)⟩])
 (.cond (.t 10) (.seq (.ops [⟨(some 35), none, .build [(.int .i64 0), .nils, .nils] []⟩, ⟨none, none, .store 3 (.t 6) (.t 35)⟩, ⟨(some 7), none, .mov (.c (.int .i64 700))⟩])
 .ret) (.seq (.ops [⟨(some 37), none, .faddr 0 (.t 3)⟩, ⟨(some 38), none, .load false 1 (.t 37)⟩, ⟨(some 39), none, .bin .eql (.t 38) (.c (.int .i64 65535))⟩, ⟨(some 36), none, .mov (.t 39)⟩])
 (.cond (.t 36) (.seq (.ops [⟨(some 40), none, .build [(.int .i64 0), .nils, .nils] []⟩, ⟨none, none, .store 3 (.t 6) (.t 40)⟩, ⟨(some 7), none, .mov (.c (.int .i64 701))⟩])
 .ret) .skip)))))
 (.seq (.ops [⟨(some 41), none, .faddr 1 (.t 5)⟩, ⟨(some 42), none, .load false 1 (.t 41)⟩, ⟨(some 43), none, .call 58 [(.t 3), (.t 42)]⟩, ⟨(some 8), none, .mov (.t 43)⟩])
 (.seq (.ops [⟨(some 44), none, .load true 3 (.t 3)⟩, ⟨(some 45), none, .call 59 [(.t 44)]⟩, ⟨(some 9), none, .alloc [(.int .i64 0), .nils, .nils] 24⟩, ⟨none, none, .store 3 (.t 9) (.t 45)⟩])
 (.seq (.ops [⟨(some 46), none, .faddr 0 (.t 9)⟩, ⟨(some 47), none, .load false 1 (.t 46)⟩, ⟨(some 48), none, .bin .add (.t 47) (.c (.int .i64 1))⟩, ⟨(some 49), none, .faddr 0 (.t 9)⟩, ⟨none, none, .store 1 (.t 49) (.t 48)⟩])
 (.seq (.seq (.ops [⟨(some 50), none, .faddr 0 (.t 5)⟩, ⟨(some 51), none, .load false 1 (.t 50)⟩])
 (.block 1 (.seq (.ops [⟨(some 76), none, .bin .eql (.t 51) (.c (.int .i64 0))⟩, ⟨(some 75), none, .mov (.t 76)⟩])
 (.cond (.t 75) (.seq (.ops [⟨(some 77), none, .faddr 1 (.t 9)⟩, ⟨(some 78), none, .load false 1 (.t 77)⟩, ⟨(some 79), none, .mov (.t 8)⟩, ⟨(some 80), none, .bin .add (.t 79) (.c (.int .i64 1))⟩, ⟨(some 81), none, .faddr 1 (.t 5)⟩, ⟨(some 82), none, .load false 1 (.t 81)⟩, ⟨(some 83), none, .bslice [(.int .i64 0)] 3 1 [(0, 1, (.t 82))]⟩, ⟨(some 84), none, .call 60 [(.t 78), (.t 80), (.t 83)]⟩, ⟨(some 85), none, .faddr 1 (.t 9)⟩, ⟨none, none, .store 1 (.t 85) (.t 84)⟩])
 (.drawn [⟨(some 86), none, .faddr 2 (.t 9)⟩, ⟨(some 87), none, .load false 1 (.t 86)⟩, ⟨(some 88), none, .mov (.t 8)⟩, ⟨(some 89), none, .bin .add (.t 88) (.c (.int .i64 1))⟩, ⟨(some 90), none, .faddr 2 (.t 3)⟩, ⟨(some 91), none, .load false 1 (.t 90)⟩, ⟨(some 92), none, .mov (.t 8)⟩, ⟨(some 93), none, .iaddr 1 none (.t 91) (.t 92)⟩, ⟨(some 94), none, .load false 1 (.t 93)⟩, ⟨(some 95), none, .bslice [(.int .i64 0)] 3 1 [(0, 1, (.t 94))]⟩, ⟨(some 96), none, .call 60 [(.t 87), (.t 89), (.t 95)]⟩, ⟨(some 97), none, .faddr 2 (.t 9)⟩, ⟨none, none, .store 1 (.t 97) (.t 96)⟩] [(1, [10])])) (.seq (.ops [⟨(some 99), none, .bin .eql (.t 51) (.c (.int .i64 1))⟩, ⟨(some 98), none, .mov (.t 99)⟩])
 (.cond (.t 98) (.ops [⟨(some 100), none, .faddr 2 (.t 9)⟩, ⟨(some 101), none, .load false 1 (.t 100)⟩, ⟨(some 102), none, .mov (.t 8)⟩, ⟨(some 103), none, .faddr 2 (.t 5)⟩, ⟨(some 104), none, .load false 1 (.t 103)⟩, ⟨(some 105), none, .iaddr 1 none (.t 101) (.t 102)⟩, ⟨none, none, .store 1 (.t 105) (.t 104)⟩]) (.seq (.seq (.ops [⟨(some 52), none, .mov (.t 8)⟩, ⟨(some 53), none, .bin .add (.t 52) (.c (.int .i64 1))⟩, ⟨(some 54), none, .faddr 1 (.t 3)⟩, ⟨(some 55), none, .load false 1 (.t 54)⟩, ⟨(some 56), none, .bi (.len 1) [(.t 55)]⟩, ⟨(some 57), none, .bin .eql (.t 53) (.t 56)⟩])
 (.cond (.t 57) (.seq (.ops [⟨(some 58), none, .build [(.int .i64 0), .nils, .nils] []⟩, ⟨none, none, .store 3 (.t 6) (.t 58)⟩, ⟨(some 7), none, .mov (.c (.int .i64 700))⟩])
 .ret) .skip))
 (.seq (.ops [⟨(some 59), none, .faddr 1 (.t 9)⟩, ⟨(some 60), none, .load false 1 (.t 59)⟩, ⟨(some 61), none, .mov (.t 8)⟩, ⟨(some 62), none, .bin .add (.t 61) (.c (.int .i64 1))⟩, ⟨(some 63), none, .mov (.t 8)⟩, ⟨(some 64), none, .bin .add (.t 63) (.c (.int .i64 2))⟩, ⟨(some 65), none, .call 61 [(.t 60), (.t 62), (.t 64)]⟩, ⟨(some 66), none, .faddr 1 (.t 9)⟩, ⟨none, none, .store 1 (.t 66) (.t 65)⟩])
 (.ops [⟨(some 67), none, .faddr 2 (.t 9)⟩, ⟨(some 68), none, .load false 1 (.t 67)⟩, ⟨(some 69), none, .mov (.t 8)⟩, ⟨(some 70), none, .bin .add (.t 69) (.c (.int .i64 1))⟩, ⟨(some 71), none, .mov (.t 8)⟩, ⟨(some 72), none, .bin .add (.t 71) (.c (.int .i64 2))⟩, ⟨(some 73), none, .call 61 [(.t 68), (.t 70), (.t 72)]⟩, ⟨(some 74), none, .faddr 2 (.t 9)⟩, ⟨none, none, .store 1 (.t 74) (.t 73)⟩])))))))))
 (.seq (.seq (.ops [⟨(some 106), none, .load true 3 (.t 9)⟩, ⟨(some 107), none, .mov (.t 1)⟩, ⟨(some 108), none, .call 35 [(.t 106), (.t 107)]⟩, ⟨(some 109), none, .un .not (.t 108)⟩])
 (.cond (.t 109) (.seq (.ops [⟨(some 110), none, .build [(.int .i64 0), .nils, .nils] []⟩, ⟨none, none, .store 3 (.t 6) (.t 110)⟩, ⟨(some 7), none, .mov (.c (.int .i64 700))⟩])
 .ret) .skip))
 (.seq (.ops [⟨(some 111), none, .load true 3 (.t 9)⟩, ⟨none, none, .store 3 (.t 6) (.t 111)⟩, ⟨(some 7), none, .mov (.c (.int .i64 0))⟩])
 .ret))))))))⟩
def b35_0 : VCode := (.seq (.ops [⟨(some 55), none, .bin .lss (.t 54) (.t 53)⟩])
 (.seq (.cond (.t 55) .skip (.exit 0))
 (.seq (.block 1 (.seq (.ops [⟨(some 56), none, .mov (.t 54)⟩, ⟨(some 57), none, .iaddr 1 none (.t 52) (.t 54)⟩, ⟨(some 58), none, .load false 1 (.t 57)⟩, ⟨(some 5), none, .mov (.t 56)⟩, ⟨(some 6), none, .mov (.t 58)⟩])
 (.seq (.ops [⟨(some 59), none, .mov (.t 6)⟩, ⟨(some 60), none, .bin .geq (.t 59) (.c (.int .i64 4294967296))⟩, ⟨(some 61), none, .mov (.t 60)⟩, ⟨(some 62), (some (61, false)), .mov (.t 5)⟩, ⟨(some 63), (some (61, false)), .bin .gtr (.t 62) (.c (.int .i64 0))⟩, ⟨(some 64), (some (61, false)), .mov (.t 63)⟩, ⟨(some 65), (some (64, true)), .mov (.t 6)⟩, ⟨(some 66), (some (64, true)), .faddr 1 (.t 2)⟩, ⟨(some 67), (some (64, true)), .load false 1 (.t 66)⟩, ⟨(some 68), (some (64, true)), .mov (.t 5)⟩, ⟨(some 69), (some (64, true)), .bin .sub (.t 68) (.c (.int .i64 1))⟩, ⟨(some 70), (some (64, true)), .iaddr 1 none (.t 67) (.t 69)⟩, ⟨(some 71), (some (64, true)), .load false 1 (.t 70)⟩, ⟨(some 72), (some (64, true)), .bin .leq (.t 65) (.t 71)⟩, ⟨(some 73), (some (61, false)), .pick (.t 64) (.t 72) (.c (.bool false))⟩, ⟨(some 74), none, .pick (.t 61) (.c (.bool true)) (.t 73)⟩, ⟨(some 75), none, .mov (.t 74)⟩, ⟨(some 76), (some (75, false)), .faddr 2 (.t 2)⟩, ⟨(some 77), (some (75, false)), .load false 1 (.t 76)⟩, ⟨(some 78), (some (75, false)), .mov (.t 5)⟩, ⟨(some 79), (some (75, false)), .iaddr 1 none (.t 77) (.t 78)⟩, ⟨(some 80), (some (75, false)), .load false 1 (.t 79)⟩, ⟨(some 81), (some (75, false)), .bin .lss (.t 80) (.c (.int .i64 0))⟩, ⟨(some 82), none, .pick (.t 75) (.c (.bool true)) (.t 81)⟩, ⟨(some 83), none, .mov (.t 82)⟩, ⟨(some 84), (some (83, false)), .faddr 2 (.t 2)⟩, ⟨(some 85), (some (83, false)), .load false 1 (.t 84)⟩, ⟨(some 86), (some (83, false)), .mov (.t 5)⟩, ⟨(some 87), (some (83, false)), .iaddr 1 none (.t 85) (.t 86)⟩, ⟨(some 88), (some (83, false)), .load false 1 (.t 87)⟩, ⟨(some 89), (some (83, false)), .mov (.t 1)⟩, ⟨(some 90), (some (83, false)), .bin .geq (.t 88) (.t 89)⟩, ⟨(some 91), none, .pick (.t 83) (.c (.bool true)) (.t 90)⟩])
 (.cond (.t 91) (.seq (.ops [⟨(some 4), none, .mov (.c (.bool false))⟩])
 .ret) .skip))))
 (.ops [⟨(some 92), none, .bin .add (.t 54) (.c (.int .i64 1))⟩, ⟨(some 54), none, .mov (.t 92)⟩]))))
/-- furlong/smap.May -/
def v35 : VFun := ⟨2, [(.tmp 4)], (.seq (.ops [⟨(some 2), none, .box 24 (.t 0)⟩, ⟨(some 4), none, .mov (.c (.bool false))⟩])
 (.seq (.seq (.ops [⟨(some 7), none, .mov (.t 1)⟩, ⟨(some 8), none, .bin .lss (.t 7) (.c (.int .i64 1))⟩, ⟨(some 9), none, .mov (.t 8)⟩, ⟨(some 10), (some (9, false)), .mov (.t 1)⟩, ⟨(some 11), (some (9, false)), .bin .gtr (.t 10) (.c (.int .i64 8))⟩, ⟨(some 12), none, .pick (.t 9) (.c (.bool true)) (.t 11)⟩, ⟨(some 13), none, .mov (.t 12)⟩, ⟨(some 14), (some (13, false)), .faddr 0 (.t 2)⟩, ⟨(some 15), (some (13, false)), .load false 1 (.t 14)⟩, ⟨(some 16), (some (13, false)), .bin .lss (.t 15) (.c (.int .i64 1))⟩, ⟨(some 17), none, .pick (.t 13) (.c (.bool true)) (.t 16)⟩, ⟨(some 18), none, .mov (.t 17)⟩, ⟨(some 19), (some (18, false)), .faddr 0 (.t 2)⟩, ⟨(some 20), (some (18, false)), .load false 1 (.t 19)⟩, ⟨(some 21), (some (18, false)), .bin .gtr (.t 20) (.c (.int .i64 65535))⟩, ⟨(some 22), none, .pick (.t 18) (.c (.bool true)) (.t 21)⟩, ⟨(some 23), none, .mov (.t 22)⟩, ⟨(some 24), (some (23, false)), .faddr 1 (.t 2)⟩, ⟨(some 25), (some (23, false)), .load false 1 (.t 24)⟩, ⟨(some 26), (some (23, false)), .bi (.len 1) [(.t 25)]⟩, ⟨(some 27), (some (23, false)), .bin .lss (.t 26) (.c (.int .i64 1))⟩, ⟨(some 28), none, .pick (.t 23) (.c (.bool true)) (.t 27)⟩, ⟨(some 29), none, .mov (.t 28)⟩, ⟨(some 30), (some (29, false)), .faddr 1 (.t 2)⟩, ⟨(some 31), (some (29, false)), .load false 1 (.t 30)⟩, ⟨(some 32), (some (29, false)), .bi (.len 1) [(.t 31)]⟩, ⟨(some 33), (some (29, false)), .bin .gtr (.t 32) (.c (.int .i64 32))⟩, ⟨(some 34), none, .pick (.t 29) (.c (.bool true)) (.t 33)⟩, ⟨(some 35), none, .mov (.t 34)⟩, ⟨(some 36), (some (35, false)), .faddr 2 (.t 2)⟩, ⟨(some 37), (some (35, false)), .load false 1 (.t 36)⟩, ⟨(some 38), (some (35, false)), .bi (.len 1) [(.t 37)]⟩, ⟨(some 39), (some (35, false)), .faddr 1 (.t 2)⟩, ⟨(some 40), (some (35, false)), .load false 1 (.t 39)⟩, ⟨(some 41), (some (35, false)), .bi (.len 1) [(.t 40)]⟩, ⟨(some 42), (some (35, false)), .bin .neq (.t 38) (.t 41)⟩, ⟨(some 43), none, .pick (.t 35) (.c (.bool true)) (.t 42)⟩, ⟨(some 44), none, .mov (.t 43)⟩, ⟨(some 45), (some (44, false)), .faddr 1 (.t 2)⟩, ⟨(some 46), (some (44, false)), .load false 1 (.t 45)⟩, ⟨(some 47), (some (44, false)), .iaddr 1 none (.t 46) (.c (.int .i64 0))⟩, ⟨(some 48), (some (44, false)), .load false 1 (.t 47)⟩, ⟨(some 49), (some (44, false)), .bin .neq (.t 48) (.c (.int .i64 0))⟩, ⟨(some 50), none, .pick (.t 44) (.c (.bool true)) (.t 49)⟩])
 (.cond (.t 50) (.seq (.ops [⟨(some 4), none, .mov (.c (.bool false))⟩])
 .ret) .skip))
 (.seq (.seq (.ops [⟨(some 51), none, .faddr 1 (.t 2)⟩, ⟨(some 52), none, .load false 1 (.t 51)⟩, ⟨(some 53), none, .bi (.len 1) [(.t 52)]⟩, ⟨(some 54), none, .mov (.c (.int .i64 0))⟩])
 (.block 0 (.loop b35_0)))
 (.seq (.ops [⟨(some 4), none, .mov (.c (.bool true))⟩])
 .ret))))⟩
def b42_0 : VCode := (.seq (.seq (.ops [⟨(some 50), none, .mov (.t 5)⟩, ⟨(some 51), none, .faddr 1 (.t 2)⟩, ⟨(some 52), none, .load false 1 (.t 51)⟩, ⟨(some 53), none, .bi (.len 1) [(.t 52)]⟩, ⟨(some 54), none, .bin .lss (.t 50) (.t 53)⟩])
 (.cond (.t 54) .skip (.exit 0)))
 (.seq (.block 1 (.seq (.drawn [⟨(some 57), none, .faddr 1 (.t 2)⟩, ⟨(some 58), none, .load false 1 (.t 57)⟩, ⟨(some 59), none, .mov (.t 5)⟩, ⟨(some 60), none, .iaddr 1 none (.t 58) (.t 59)⟩, ⟨(some 61), none, .load false 1 (.t 60)⟩, ⟨(some 62), none, .bin .geq (.t 61) (.c (.int .i64 4294967296))⟩, ⟨(some 63), none, .mov (.t 62)⟩, ⟨(some 64), (some (63, false)), .faddr 2 (.t 2)⟩, ⟨(some 65), (some (63, false)), .load false 1 (.t 64)⟩, ⟨(some 66), (some (63, false)), .mov (.t 5)⟩, ⟨(some 67), (some (63, false)), .iaddr 1 none (.t 65) (.t 66)⟩, ⟨(some 68), (some (63, false)), .load false 1 (.t 67)⟩, ⟨(some 69), (some (63, false)), .bin .lss (.t 68) (.c (.int .i64 0))⟩, ⟨(some 70), none, .pick (.t 63) (.c (.bool true)) (.t 69)⟩, ⟨(some 71), none, .mov (.t 70)⟩, ⟨(some 72), (some (71, false)), .faddr 2 (.t 2)⟩, ⟨(some 73), (some (71, false)), .load false 1 (.t 72)⟩, ⟨(some 74), (some (71, false)), .mov (.t 5)⟩, ⟨(some 75), (some (71, false)), .iaddr 1 none (.t 73) (.t 74)⟩, ⟨(some 76), (some (71, false)), .load false 1 (.t 75)⟩, ⟨(some 77), (some (71, false)), .mov (.t 1)⟩, ⟨(some 78), (some (71, false)), .bin .geq (.t 76) (.t 77)⟩, ⟨(some 79), none, .pick (.t 71) (.c (.bool true)) (.t 78)⟩, ⟨(some 80), none, .mov (.t 79)⟩, ⟨(some 81), (some (80, false)), .mov (.t 5)⟩, ⟨(some 82), (some (80, false)), .bin .gtr (.t 81) (.c (.int .i64 0))⟩, ⟨(some 83), (some (80, false)), .mov (.t 82)⟩, ⟨(some 84), (some (83, true)), .faddr 1 (.t 2)⟩, ⟨(some 85), (some (83, true)), .load false 1 (.t 84)⟩, ⟨(some 86), (some (83, true)), .mov (.t 5)⟩, ⟨(some 87), (some (83, true)), .bin .sub (.t 86) (.c (.int .i64 1))⟩, ⟨(some 88), (some (83, true)), .iaddr 1 none (.t 85) (.t 87)⟩, ⟨(some 89), (some (83, true)), .load false 1 (.t 88)⟩, ⟨(some 90), (some (83, true)), .faddr 1 (.t 2)⟩, ⟨(some 91), (some (83, true)), .load false 1 (.t 90)⟩, ⟨(some 92), (some (83, true)), .mov (.t 5)⟩, ⟨(some 93), (some (83, true)), .iaddr 1 none (.t 91) (.t 92)⟩, ⟨(some 94), (some (83, true)), .load false 1 (.t 93)⟩, ⟨(some 95), (some (83, true)), .bin .geq (.t 89) (.t 94)⟩, ⟨(some 96), (some (80, false)), .pick (.t 83) (.t 95) (.c (.bool false))⟩, ⟨(some 97), none, .pick (.t 80) (.c (.bool true)) (.t 96)⟩] [])
 (.cond (.t 97) (.seq (.ops [⟨(some 4), none, .mov (.c (.bool false))⟩])
 .ret) .skip)))
 (.ops [⟨(some 55), none, .mov (.t 5)⟩, ⟨(some 56), none, .bin .add (.t 55) (.c (.int .i64 1))⟩, ⟨(some 5), none, .mov (.t 56)⟩])))
/-- furlong/furlongref1.MapMay -/
def v42 : VFun := ⟨2, [(.tmp 4)], (.seq (.ops [⟨(some 2), none, .box 24 (.t 0)⟩, ⟨(some 4), none, .mov (.c (.bool false))⟩])
 (.seq (.seq (.ops [⟨(some 6), none, .mov (.t 1)⟩, ⟨(some 7), none, .bin .lss (.t 6) (.c (.int .i64 1))⟩, ⟨(some 8), none, .mov (.t 7)⟩, ⟨(some 9), (some (8, false)), .mov (.t 1)⟩, ⟨(some 10), (some (8, false)), .bin .gtr (.t 9) (.c (.int .i64 8))⟩, ⟨(some 11), none, .pick (.t 8) (.c (.bool true)) (.t 10)⟩, ⟨(some 12), none, .mov (.t 11)⟩, ⟨(some 13), (some (12, false)), .faddr 0 (.t 2)⟩, ⟨(some 14), (some (12, false)), .load false 1 (.t 13)⟩, ⟨(some 15), (some (12, false)), .bin .lss (.t 14) (.c (.int .i64 1))⟩, ⟨(some 16), none, .pick (.t 12) (.c (.bool true)) (.t 15)⟩, ⟨(some 17), none, .mov (.t 16)⟩, ⟨(some 18), (some (17, false)), .faddr 0 (.t 2)⟩, ⟨(some 19), (some (17, false)), .load false 1 (.t 18)⟩, ⟨(some 20), (some (17, false)), .bin .gtr (.t 19) (.c (.int .i64 65535))⟩, ⟨(some 21), none, .pick (.t 17) (.c (.bool true)) (.t 20)⟩, ⟨(some 22), none, .mov (.t 21)⟩, ⟨(some 23), (some (22, false)), .faddr 1 (.t 2)⟩, ⟨(some 24), (some (22, false)), .load false 1 (.t 23)⟩, ⟨(some 25), (some (22, false)), .bi (.len 1) [(.t 24)]⟩, ⟨(some 26), (some (22, false)), .bin .lss (.t 25) (.c (.int .i64 1))⟩, ⟨(some 27), none, .pick (.t 22) (.c (.bool true)) (.t 26)⟩, ⟨(some 28), none, .mov (.t 27)⟩, ⟨(some 29), (some (28, false)), .faddr 1 (.t 2)⟩, ⟨(some 30), (some (28, false)), .load false 1 (.t 29)⟩, ⟨(some 31), (some (28, false)), .bi (.len 1) [(.t 30)]⟩, ⟨(some 32), (some (28, false)), .bin .gtr (.t 31) (.c (.int .i64 32))⟩, ⟨(some 33), none, .pick (.t 28) (.c (.bool true)) (.t 32)⟩, ⟨(some 34), none, .mov (.t 33)⟩, ⟨(some 35), (some (34, false)), .faddr 2 (.t 2)⟩, ⟨(some 36), (some (34, false)), .load false 1 (.t 35)⟩, ⟨(some 37), (some (34, false)), .bi (.len 1) [(.t 36)]⟩, ⟨(some 38), (some (34, false)), .faddr 1 (.t 2)⟩, ⟨(some 39), (some (34, false)), .load false 1 (.t 38)⟩, ⟨(some 40), (some (34, false)), .bi (.len 1) [(.t 39)]⟩, ⟨(some 41), (some (34, false)), .bin .neq (.t 37) (.t 40)⟩, ⟨(some 42), none, .pick (.t 34) (.c (.bool true)) (.t 41)⟩, ⟨(some 43), none, .mov (.t 42)⟩, ⟨(some 44), (some (43, false)), .faddr 1 (.t 2)⟩, ⟨(some 45), (some (43, false)), .load false 1 (.t 44)⟩, ⟨(some 46), (some (43, false)), .iaddr 1 none (.t 45) (.c (.int .i64 0))⟩, ⟨(some 47), (some (43, false)), .load false 1 (.t 46)⟩, ⟨(some 48), (some (43, false)), .bin .neq (.t 47) (.c (.int .i64 0))⟩, ⟨(some 49), none, .pick (.t 43) (.c (.bool true)) (.t 48)⟩])
 (.cond (.t 49) (.seq (.ops [⟨(some 4), none, .mov (.c (.bool false))⟩])
 .ret) .skip))
 (.seq (.seq (.ops [⟨(some 5), none, .mov (.c (.int .i64 0))⟩])
 (.block 0 (.loop b42_0)))
 (.seq (.ops [⟨(some 4), none, .mov (.c (.bool true))⟩])
 .ret))))⟩
def b46_0 : VCode := (.seq (.ops [⟨(some 14), none, .bin .lss (.t 13) (.t 12)⟩])
 (.seq (.cond (.t 14) .skip (.exit 0))
 (.seq (.block 1 (.seq (.ops [⟨(some 15), none, .mov (.t 13)⟩, ⟨(some 16), none, .iaddr 1 none (.t 11) (.t 13)⟩, ⟨(some 17), none, .load false 1 (.t 16)⟩, ⟨(some 4), none, .mov (.t 15)⟩, ⟨(some 5), none, .mov (.t 17)⟩])
 (.ops [⟨(some 18), none, .mov (.t 3)⟩, ⟨(some 19), none, .mov (.t 4)⟩, ⟨(some 20), none, .mov (.t 5)⟩, ⟨(some 21), none, .call 72 [(.t 20)]⟩, ⟨(some 22), none, .iaddr 1 none (.t 18) (.t 19)⟩, ⟨none, none, .store 1 (.t 22) (.t 21)⟩])))
 (.ops [⟨(some 23), none, .bin .add (.t 13) (.c (.int .i64 1))⟩, ⟨(some 13), none, .mov (.t 23)⟩]))))
/-- furlong/shape.Copy -/
def v46 : VFun := ⟨1, [(.cell 2 true 3)], (.seq (.ops [⟨(some 1), none, .box 50 (.t 0)⟩, ⟨(some 2), none, .alloc [(.int .i64 0), (.int .i64 0), .nils] 50⟩])
 (.seq (.ops [⟨(some 6), none, .faddr 2 (.t 1)⟩, ⟨(some 7), none, .load false 1 (.t 6)⟩, ⟨(some 8), none, .bi (.len 1) [(.t 7)]⟩, ⟨(some 9), none, .mkslice [.nils] 62 24 (.t 8) (.t 8)⟩, ⟨(some 3), none, .mov (.t 9)⟩])
 (.seq (.seq (.ops [⟨(some 10), none, .faddr 2 (.t 1)⟩, ⟨(some 11), none, .load false 1 (.t 10)⟩, ⟨(some 12), none, .bi (.len 1) [(.t 11)]⟩, ⟨(some 13), none, .mov (.c (.int .i64 0))⟩])
 (.block 0 (.loop b46_0)))
 (.seq (.ops [⟨(some 24), none, .mov (.t 3)⟩, ⟨(some 25), none, .faddr 2 (.t 1)⟩, ⟨none, none, .store 1 (.t 25) (.t 24)⟩])
 (.seq (.ops [⟨(some 26), none, .load true 3 (.t 1)⟩, ⟨none, none, .store 3 (.t 2) (.t 26)⟩])
 .ret)))))⟩
def b47_0 : VCode := (.seq (.ops [⟨(some 21), none, .bin .lss (.t 20) (.t 19)⟩])
 (.seq (.cond (.t 21) .skip (.exit 0))
 (.seq (.block 1 (.seq (.ops [⟨(some 22), none, .mov (.t 20)⟩, ⟨(some 6), none, .mov (.t 22)⟩])
 (.seq (.ops [⟨(some 23), none, .mov (.t 0)⟩, ⟨(some 24), none, .mov (.t 6)⟩, ⟨(some 25), none, .iaddr 8 none (.t 23) (.t 24)⟩, ⟨(some 7), none, .mov (.t 25)⟩])
 (.seq (.seq (.ops [⟨(some 26), none, .mov (.t 7)⟩, ⟨(some 27), none, .mov (.t 1)⟩, ⟨(some 28), none, .call 73 [(.t 26), (.t 27)]⟩, ⟨(some 29), none, .un .not (.t 28)⟩, ⟨(some 30), none, .mov (.t 29)⟩, ⟨(some 31), (some (30, false)), .mov (.t 7)⟩, ⟨(some 32), (some (30, false)), .nilck (.t 31)⟩, ⟨(some 33), (some (30, false)), .faddr 0 (.t 32)⟩, ⟨(some 34), (some (30, false)), .load false 1 (.t 33)⟩, ⟨(some 35), (some (30, false)), .bin .eql (.t 34) (.c (.int .i64 2))⟩, ⟨(some 36), (some (30, false)), .mov (.t 35)⟩, ⟨(some 37), (some (36, true)), .mov (.t 6)⟩, ⟨(some 38), (some (36, true)), .bin .gtr (.t 37) (.c (.int .i64 0))⟩, ⟨(some 39), (some (30, false)), .pick (.t 36) (.t 38) (.c (.bool false))⟩, ⟨(some 40), none, .pick (.t 30) (.c (.bool true)) (.t 39)⟩])
 (.cond (.t 40) (.seq (.ops [⟨(some 4), none, .mov (.c (.bool false))⟩])
 .ret) .skip))
 (.seq (.ops [⟨(some 41), none, .mov (.t 7)⟩, ⟨(some 42), none, .call 74 [(.t 41)]⟩, ⟨(some 8), none, .mov (.t 42)⟩])
 (.seq (.ops [⟨(some 43), none, .mov (.t 8)⟩, ⟨(some 44), none, .bin .gtr (.t 43) (.c (.int .i64 0))⟩])
 (.cond (.t 44) (.seq (.seq (.ops [⟨(some 45), none, .mov (.t 5)⟩, ⟨(some 46), none, .mov (.t 8)⟩, ⟨(some 47), none, .lookup .int (.bool false) false (.t 45) (.t 46)⟩])
 (.cond (.t 47) (.seq (.ops [⟨(some 4), none, .mov (.c (.bool false))⟩])
 .ret) .skip))
 (.ops [⟨(some 48), none, .mov (.t 5)⟩, ⟨(some 49), none, .mov (.t 8)⟩, ⟨none, none, .mupd .int (.t 48) (.t 49) (.c (.bool true))⟩])) .skip)))))))
 (.ops [⟨(some 50), none, .bin .add (.t 20) (.c (.int .i64 1))⟩, ⟨(some 20), none, .mov (.t 50)⟩]))))
/-- furlong/rec.OpsMay -/
def v47 : VFun := ⟨2, [(.tmp 4)], (.seq (.ops [⟨(some 4), none, .mov (.c (.bool false))⟩])
 (.seq (.seq (.ops [⟨(some 9), none, .mov (.t 0)⟩, ⟨(some 10), none, .bi (.len 1) [(.t 9)]⟩, ⟨(some 11), none, .bin .lss (.t 10) (.c (.int .i64 1))⟩, ⟨(some 12), none, .mov (.t 11)⟩, ⟨(some 13), (some (12, false)), .mov (.t 0)⟩, ⟨(some 14), (some (12, false)), .bi (.len 1) [(.t 13)]⟩, ⟨(some 15), (some (12, false)), .bin .gtr (.t 14) (.c (.int .i64 32))⟩, ⟨(some 16), none, .pick (.t 12) (.c (.bool true)) (.t 15)⟩])
 (.cond (.t 16) (.seq (.ops [⟨(some 4), none, .mov (.c (.bool false))⟩])
 .ret) .skip))
 (.seq (.ops [⟨(some 17), none, .mkmap⟩, ⟨(some 5), none, .mov (.t 17)⟩])
 (.seq (.seq (.ops [⟨(some 18), none, .mov (.t 0)⟩, ⟨(some 19), none, .bi (.len 1) [(.t 18)]⟩, ⟨(some 20), none, .mov (.c (.int .i64 0))⟩])
 (.block 0 (.loop b47_0)))
 (.seq (.ops [⟨(some 4), none, .mov (.c (.bool true))⟩])
 .ret)))))⟩
def b56_0 : VCode := (.seq (.seq (.ops [⟨(some 6), none, .mov (.t 5)⟩, ⟨(some 7), none, .bin .add (.t 6) (.c (.int .i64 1))⟩, ⟨(some 8), none, .faddr 1 (.t 2)⟩, ⟨(some 9), none, .load false 1 (.t 8)⟩, ⟨(some 10), none, .bi (.len 1) [(.t 9)]⟩, ⟨(some 11), none, .bin .lss (.t 7) (.t 10)⟩, ⟨(some 12), none, .mov (.t 11)⟩, ⟨(some 13), (some (12, true)), .faddr 1 (.t 2)⟩, ⟨(some 14), (some (12, true)), .load false 1 (.t 13)⟩, ⟨(some 15), (some (12, true)), .mov (.t 5)⟩, ⟨(some 16), (some (12, true)), .bin .add (.t 15) (.c (.int .i64 1))⟩, ⟨(some 17), (some (12, true)), .iaddr 1 none (.t 14) (.t 16)⟩, ⟨(some 18), (some (12, true)), .load false 1 (.t 17)⟩, ⟨(some 19), (some (12, true)), .mov (.t 1)⟩, ⟨(some 20), (some (12, true)), .bin .leq (.t 18) (.t 19)⟩, ⟨(some 21), none, .pick (.t 12) (.t 20) (.c (.bool false))⟩])
 (.cond (.t 21) .skip (.exit 0)))
 (.block 1 (.ops [⟨(some 22), none, .mov (.t 5)⟩, ⟨(some 23), none, .bin .add (.t 22) (.c (.int .i64 1))⟩, ⟨(some 5), none, .mov (.t 23)⟩])))
/-- furlong/furlongref1.at -/
def v56 : VFun := ⟨2, [(.tmp 4)], (.seq (.ops [⟨(some 2), none, .box 24 (.t 0)⟩, ⟨(some 4), none, .mov (.c (.int .i64 0))⟩])
 (.seq (.ops [⟨(some 5), none, .mov (.c (.int .i64 0))⟩])
 (.seq (.block 0 (.loop b56_0))
 (.seq (.ops [⟨(some 24), none, .mov (.t 5)⟩, ⟨(some 4), none, .mov (.t 24)⟩])
 .ret))))⟩
/-- furlong/furlongref1.cut -/
def v57 : VFun := ⟨4, [(.tmp 8)], (.seq (.ops [⟨(some 8), none, .mov (.c .nils)⟩])
 (.seq (.ops [⟨(some 10), none, .bslice [(.int .i64 0)] 3 0 []⟩, ⟨(some 11), none, .mov (.t 0)⟩, ⟨(some 12), none, .mov (.t 1)⟩, ⟨(some 13), none, .slice 1 (.t 11) none (some (.t 12)) none⟩, ⟨(some 14), none, .bi (.append 1 8 3) [(.t 10), (.t 13)]⟩, ⟨(some 9), none, .mov (.t 14)⟩])
 (.seq (.seq (.ops [⟨(some 15), none, .mov (.t 3)⟩])
 (.cond (.t 15) (.seq (.ops [⟨(some 16), none, .mov (.t 9)⟩, ⟨(some 17), none, .mov (.t 0)⟩, ⟨(some 18), none, .mov (.t 1)⟩, ⟨(some 19), none, .bin .add (.t 18) (.c (.int .i64 1))⟩, ⟨(some 20), none, .slice 1 (.t 17) (some (.t 19)) none none⟩, ⟨(some 21), none, .bi (.append 1 8 3) [(.t 16), (.t 20)]⟩, ⟨(some 8), none, .mov (.t 21)⟩])
 .ret) .skip))
 (.seq (.ops [⟨(some 22), none, .mov (.t 9)⟩, ⟨(some 23), none, .mov (.t 2)⟩, ⟨(some 24), none, .bslice [(.int .i64 0)] 3 1 [(0, 1, (.t 23))]⟩, ⟨(some 25), none, .bi (.append 1 8 3) [(.t 22), (.t 24)]⟩, ⟨(some 9), none, .mov (.t 25)⟩])
 (.seq (.ops [⟨(some 26), none, .mov (.t 9)⟩, ⟨(some 27), none, .mov (.t 0)⟩, ⟨(some 28), none, .mov (.t 1)⟩, ⟨(some 29), none, .slice 1 (.t 27) (some (.t 28)) none none⟩, ⟨(some 30), none, .bi (.append 1 8 3) [(.t 26), (.t 29)]⟩, ⟨(some 8), none, .mov (.t 30)⟩])
 .ret)))))⟩
/-- furlong/smap.at -/
def v58 : VFun := ⟨2, [(.tmp 4)], (.seq (.ops [⟨(some 4), none, .mov (.c (.int .i64 0))⟩])
 (.seq (.ops [⟨(some 8), none, .mov (.t 0)⟩, ⟨(some 9), none, .nilck (.t 8)⟩, ⟨(some 10), none, .faddr 1 (.t 9)⟩, ⟨(some 11), none, .load false 1 (.t 10)⟩, ⟨(some 12), none, .mov (.t 1)⟩, ⟨(some 13), none, .call 82 [(.t 11), (.t 12)]⟩, ⟨(some 7), none, .mov (.t 13)⟩, ⟨(some 14), none, .extract (.t 7) 0⟩, ⟨(some 15), none, .extract (.t 7) 1⟩, ⟨(some 5), none, .mov (.t 14)⟩, ⟨(some 6), none, .mov (.t 15)⟩])
 (.seq (.seq (.ops [⟨(some 16), none, .mov (.t 6)⟩, ⟨(some 17), none, .un .not (.t 16)⟩])
 (.cond (.t 17) (.ops [⟨(some 18), none, .mov (.t 5)⟩, ⟨(some 19), none, .bin .sub (.t 18) (.c (.int .i64 1))⟩, ⟨(some 5), none, .mov (.t 19)⟩]) .skip))
 (.seq (.ops [⟨(some 20), none, .mov (.t 5)⟩, ⟨(some 4), none, .mov (.t 20)⟩])
 .ret))))⟩
/-- furlong/smap.Copy -/
def v59 : VFun := ⟨1, [(.cell 2 true 3)], (.seq (.ops [⟨(some 1), none, .box 24 (.t 0)⟩, ⟨(some 2), none, .alloc [(.int .i64 0), .nils, .nils] 24⟩])
 (.seq (.drawn [⟨(some 3), none, .faddr 1 (.t 1)⟩, ⟨(some 4), none, .load false 1 (.t 3)⟩, ⟨(some 5), none, .call 83 [(.t 4)]⟩, ⟨(some 6), none, .faddr 2 (.t 1)⟩, ⟨(some 7), none, .load false 1 (.t 6)⟩, ⟨(some 8), none, .call 83 [(.t 7)]⟩, ⟨(some 9), none, .faddr 1 (.t 1)⟩, ⟨none, none, .store 1 (.t 9) (.t 5)⟩, ⟨(some 10), none, .faddr 2 (.t 1)⟩, ⟨none, none, .store 1 (.t 10) (.t 8)⟩] [(4, [0])])
 (.seq (.ops [⟨(some 11), none, .load true 3 (.t 1)⟩, ⟨none, none, .store 3 (.t 2) (.t 11)⟩])
 .ret)))⟩
/-- slices.Insert[[]int,int] -/
def v60 : VFun := ⟨3, [(.tmp 6)], (.seq (.ops [⟨(some 6), none, .mov (.c .nils)⟩])
 (.seq (.ops [⟨(some 10), none, .mov (.t 0)⟩, ⟨(some 11), none, .mov (.t 1)⟩, ⟨(some 12), none, .slice 1 (.t 10) (some (.t 11)) none none⟩])
 (.seq (.ops [⟨(some 13), none, .mov (.t 2)⟩, ⟨(some 14), none, .bi (.len 1) [(.t 13)]⟩, ⟨(some 7), none, .mov (.t 14)⟩])
 (.seq (.seq (.ops [⟨(some 15), none, .mov (.t 7)⟩, ⟨(some 16), none, .bin .eql (.t 15) (.c (.int .i64 0))⟩])
 (.cond (.t 16) (.seq (.ops [⟨(some 17), none, .mov (.t 0)⟩, ⟨(some 6), none, .mov (.t 17)⟩])
 .ret) .skip))
 (.seq (.ops [⟨(some 18), none, .mov (.t 0)⟩, ⟨(some 19), none, .bi (.len 1) [(.t 18)]⟩, ⟨(some 8), none, .mov (.t 19)⟩])
 (.seq (.seq (.ops [⟨(some 20), none, .mov (.t 1)⟩, ⟨(some 21), none, .mov (.t 8)⟩, ⟨(some 22), none, .bin .eql (.t 20) (.t 21)⟩])
 (.cond (.t 22) (.seq (.ops [⟨(some 23), none, .mov (.t 0)⟩, ⟨(some 24), none, .mov (.t 2)⟩, ⟨(some 25), none, .bi (.append 1 8 3) [(.t 23), (.t 24)]⟩, ⟨(some 6), none, .mov (.t 25)⟩])
 .ret) .skip))
 (.seq (.seq (.ops [⟨(some 26), none, .mov (.t 8)⟩, ⟨(some 27), none, .mov (.t 7)⟩, ⟨(some 28), none, .bin .add (.t 26) (.t 27)⟩, ⟨(some 29), none, .mov (.t 0)⟩, ⟨(some 30), none, .bad⟩, ⟨(some 31), none, .bin .gtr (.t 28) (.t 30)⟩])
 (.cond (.t 31) (.seq (.ops [⟨(some 32), none, .mov (.t 0)⟩, ⟨(some 33), none, .mov (.t 1)⟩, ⟨(some 34), none, .slice 1 (.t 32) none (some (.t 33)) none⟩, ⟨(some 35), none, .mov (.t 8)⟩, ⟨(some 36), none, .mov (.t 7)⟩, ⟨(some 37), none, .bin .add (.t 35) (.t 36)⟩, ⟨(some 38), none, .mov (.t 1)⟩, ⟨(some 39), none, .bin .sub (.t 37) (.t 38)⟩, ⟨(some 40), none, .bad⟩, ⟨(some 9), none, .mov (.t 40)⟩])
 (.seq (.ops [⟨(some 41), none, .mov (.t 9)⟩, ⟨(some 42), none, .mov (.t 1)⟩, ⟨(some 43), none, .slice 1 (.t 41) (some (.t 42)) none none⟩, ⟨(some 44), none, .mov (.t 2)⟩, ⟨(some 45), none, .bi (.copy 1) [(.t 43), (.t 44)]⟩])
 (.seq (.drawn [⟨(some 46), none, .mov (.t 9)⟩, ⟨(some 47), none, .mov (.t 1)⟩, ⟨(some 48), none, .mov (.t 7)⟩, ⟨(some 49), none, .bin .add (.t 47) (.t 48)⟩, ⟨(some 50), none, .slice 1 (.t 46) (some (.t 49)) none none⟩, ⟨(some 51), none, .mov (.t 0)⟩, ⟨(some 52), none, .mov (.t 1)⟩, ⟨(some 53), none, .slice 1 (.t 51) (some (.t 52)) none none⟩, ⟨(some 54), none, .bi (.copy 1) [(.t 50), (.t 53)]⟩] [])
 (.seq (.ops [⟨(some 55), none, .mov (.t 9)⟩, ⟨(some 6), none, .mov (.t 55)⟩])
 .ret)))) .skip))
 (.seq (.ops [⟨(some 56), none, .mov (.t 0)⟩, ⟨(some 57), none, .mov (.t 8)⟩, ⟨(some 58), none, .mov (.t 7)⟩, ⟨(some 59), none, .bin .add (.t 57) (.t 58)⟩, ⟨(some 60), none, .slice 1 (.t 56) none (some (.t 59)) none⟩, ⟨(some 0), none, .mov (.t 60)⟩])
 (.seq (.seq (.ops [⟨(some 61), none, .mov (.t 2)⟩, ⟨(some 62), none, .mov (.t 0)⟩, ⟨(some 63), none, .mov (.t 1)⟩, ⟨(some 64), none, .mov (.t 7)⟩, ⟨(some 65), none, .bin .add (.t 63) (.t 64)⟩, ⟨(some 66), none, .slice 1 (.t 62) (some (.t 65)) none none⟩, ⟨(some 67), none, .bad⟩, ⟨(some 68), none, .un .not (.t 67)⟩])
 (.cond (.t 68) (.seq (.drawn [⟨(some 69), none, .mov (.t 0)⟩, ⟨(some 70), none, .mov (.t 1)⟩, ⟨(some 71), none, .mov (.t 7)⟩, ⟨(some 72), none, .bin .add (.t 70) (.t 71)⟩, ⟨(some 73), none, .slice 1 (.t 69) (some (.t 72)) none none⟩, ⟨(some 74), none, .mov (.t 0)⟩, ⟨(some 75), none, .mov (.t 1)⟩, ⟨(some 76), none, .slice 1 (.t 74) (some (.t 75)) none none⟩, ⟨(some 77), none, .bi (.copy 1) [(.t 73), (.t 76)]⟩] [])
 (.seq (.ops [⟨(some 78), none, .mov (.t 0)⟩, ⟨(some 79), none, .mov (.t 1)⟩, ⟨(some 80), none, .slice 1 (.t 78) (some (.t 79)) none none⟩, ⟨(some 81), none, .mov (.t 2)⟩, ⟨(some 82), none, .bi (.copy 1) [(.t 80), (.t 81)]⟩])
 (.seq (.ops [⟨(some 83), none, .mov (.t 0)⟩, ⟨(some 6), none, .mov (.t 83)⟩])
 .ret))) .skip))
 (.seq (.ops [⟨(some 84), none, .mov (.t 0)⟩, ⟨(some 85), none, .mov (.t 8)⟩, ⟨(some 86), none, .slice 1 (.t 84) (some (.t 85)) none none⟩, ⟨(some 87), none, .mov (.t 2)⟩, ⟨(some 88), none, .bi (.copy 1) [(.t 86), (.t 87)]⟩])
 (.seq (.ops [⟨(some 89), none, .mov (.t 0)⟩, ⟨(some 90), none, .mov (.t 1)⟩, ⟨(some 91), none, .slice 1 (.t 89) (some (.t 90)) none none⟩, ⟨(some 92), none, .mov (.t 7)⟩, ⟨(some 93), none, .call 85 [(.t 91), (.t 92)]⟩])
 (.seq (.ops [⟨(some 94), none, .mov (.t 0)⟩, ⟨(some 6), none, .mov (.t 94)⟩])
 .ret))))))))))))⟩
/-- slices.Delete[[]int,int] -/
def v61 : VFun := ⟨3, [(.tmp 6)], (.seq (.ops [⟨(some 6), none, .mov (.c .nils)⟩])
 (.seq (.ops [⟨(some 8), none, .mov (.t 0)⟩, ⟨(some 9), none, .mov (.t 1)⟩, ⟨(some 10), none, .mov (.t 2)⟩, ⟨(some 11), none, .mov (.t 0)⟩, ⟨(some 12), none, .bi (.len 1) [(.t 11)]⟩, ⟨(some 13), none, .slice 1 (.t 8) (some (.t 9)) (some (.t 10)) (some (.t 12))⟩])
 (.seq (.seq (.ops [⟨(some 14), none, .mov (.t 1)⟩, ⟨(some 15), none, .mov (.t 2)⟩, ⟨(some 16), none, .bin .eql (.t 14) (.t 15)⟩])
 (.cond (.t 16) (.seq (.ops [⟨(some 17), none, .mov (.t 0)⟩, ⟨(some 6), none, .mov (.t 17)⟩])
 .ret) .skip))
 (.seq (.ops [⟨(some 18), none, .mov (.t 0)⟩, ⟨(some 19), none, .bi (.len 1) [(.t 18)]⟩, ⟨(some 7), none, .mov (.t 19)⟩])
 (.seq (.drawn [⟨(some 20), none, .mov (.t 0)⟩, ⟨(some 21), none, .mov (.t 1)⟩, ⟨(some 22), none, .slice 1 (.t 20) none (some (.t 21)) none⟩, ⟨(some 23), none, .mov (.t 0)⟩, ⟨(some 24), none, .mov (.t 2)⟩, ⟨(some 25), none, .slice 1 (.t 23) (some (.t 24)) none none⟩, ⟨(some 26), none, .bi (.append 1 8 3) [(.t 22), (.t 25)]⟩, ⟨(some 0), none, .mov (.t 26)⟩] [])
 (.seq (.ops [⟨(some 27), none, .mov (.t 0)⟩, ⟨(some 28), none, .mov (.t 0)⟩, ⟨(some 29), none, .bi (.len 1) [(.t 28)]⟩, ⟨(some 30), none, .mov (.t 7)⟩, ⟨(some 31), none, .slice 1 (.t 27) (some (.t 29)) (some (.t 30)) none⟩, ⟨none, none, .bi (.clearS [(.int .i64 0)]) [(.t 31)]⟩])
 (.seq (.ops [⟨(some 32), none, .mov (.t 0)⟩, ⟨(some 6), none, .mov (.t 32)⟩])
 .ret)))))))⟩
/-- slices.Clone[[]furlong/api.Point,furlong/api.Point] -/
def v72 : VFun := ⟨1, [(.tmp 2)], (.seq (.ops [⟨(some 2), none, .mov (.c .nils)⟩])
 (.seq (.seq (.ops [⟨(some 3), none, .mov (.t 0)⟩, ⟨(some 4), none, .eqs .sl false (.t 3) (.c .nils)⟩])
 (.cond (.t 4) (.seq (.ops [⟨(some 2), none, .mov (.c .nils)⟩])
 .ret) .skip))
 (.seq (.ops [⟨(some 5), none, .bslice [(.int .i64 0), (.int .i64 0)] 61 0 []⟩, ⟨(some 6), none, .mov (.t 0)⟩, ⟨(some 7), none, .bi (.append 2 16 61) [(.t 5), (.t 6)]⟩, ⟨(some 2), none, .mov (.t 7)⟩])
 .ret)))⟩
/-- furlong/rec.opMay -/
def v73 : VFun := ⟨2, [(.tmp 4)], (.seq (.ops [⟨(some 4), none, .mov (.c (.bool false))⟩])
 (.seq (.seq (.ops [⟨(some 5), none, .mov (.t 0)⟩, ⟨(some 6), none, .nilck (.t 5)⟩, ⟨(some 7), none, .faddr 0 (.t 6)⟩, ⟨(some 8), none, .load false 1 (.t 7)⟩])
 (.block 0 (.seq (.ops [⟨(some 10), none, .bin .eql (.t 8) (.c (.int .i64 0))⟩, ⟨(some 9), none, .mov (.t 10)⟩])
 (.cond (.t 9) (.seq (.ops [⟨(some 11), none, .mov (.t 0)⟩, ⟨(some 12), none, .nilck (.t 11)⟩, ⟨(some 13), none, .faddr 1 (.t 12)⟩, ⟨(some 14), none, .load true 3 (.t 13)⟩, ⟨(some 15), none, .call 88 [(.t 14)]⟩, ⟨(some 16), none, .mov (.t 15)⟩, ⟨(some 17), (some (16, true)), .mov (.t 0)⟩, ⟨(some 18), (some (16, true)), .nilck (.t 17)⟩, ⟨(some 19), (some (16, true)), .faddr 4 (.t 18)⟩, ⟨(some 20), (some (16, true)), .load false 1 (.t 19)⟩, ⟨(some 21), (some (16, true)), .bin .eql (.t 20) (.c (.int .i64 0))⟩, ⟨(some 22), none, .pick (.t 16) (.t 21) (.c (.bool false))⟩, ⟨(some 23), none, .mov (.t 22)⟩, ⟨(some 24), (some (23, true)), .mov (.t 0)⟩, ⟨(some 25), (some (23, true)), .nilck (.t 24)⟩, ⟨(some 26), (some (23, true)), .faddr 5 (.t 25)⟩, ⟨(some 27), (some (23, true)), .call 96 [(.t 26)]⟩, ⟨(some 28), none, .pick (.t 23) (.t 27) (.c (.bool false))⟩, ⟨(some 4), none, .mov (.t 28)⟩])
 .ret) (.seq (.ops [⟨(some 30), none, .bin .eql (.t 8) (.c (.int .i64 1))⟩, ⟨(some 29), none, .mov (.t 30)⟩])
 (.cond (.t 29) (.seq (.ops [⟨(some 31), none, .mov (.t 0)⟩, ⟨(some 32), none, .nilck (.t 31)⟩, ⟨(some 33), none, .faddr 4 (.t 32)⟩, ⟨(some 34), none, .load false 1 (.t 33)⟩, ⟨(some 35), none, .bin .geq (.t 34) (.c (.int .i64 1))⟩, ⟨(some 36), none, .mov (.t 35)⟩, ⟨(some 37), (some (36, true)), .mov (.t 0)⟩, ⟨(some 38), (some (36, true)), .nilck (.t 37)⟩, ⟨(some 39), (some (36, true)), .faddr 4 (.t 38)⟩, ⟨(some 40), (some (36, true)), .load false 1 (.t 39)⟩, ⟨(some 41), (some (36, true)), .bin .leq (.t 40) (.c (.int .i64 65535))⟩, ⟨(some 42), none, .pick (.t 36) (.t 41) (.c (.bool false))⟩, ⟨(some 43), none, .mov (.t 42)⟩, ⟨(some 44), (some (43, true)), .mov (.t 0)⟩, ⟨(some 45), (some (43, true)), .nilck (.t 44)⟩, ⟨(some 46), (some (43, true)), .faddr 1 (.t 45)⟩, ⟨(some 47), (some (43, true)), .call 97 [(.t 46)]⟩, ⟨(some 48), none, .pick (.t 43) (.t 47) (.c (.bool false))⟩, ⟨(some 49), none, .mov (.t 48)⟩, ⟨(some 50), (some (49, true)), .mov (.t 0)⟩, ⟨(some 51), (some (49, true)), .nilck (.t 50)⟩, ⟨(some 52), (some (49, true)), .faddr 5 (.t 51)⟩, ⟨(some 53), (some (49, true)), .call 96 [(.t 52)]⟩, ⟨(some 54), none, .pick (.t 49) (.t 53) (.c (.bool false))⟩, ⟨(some 4), none, .mov (.t 54)⟩])
 .ret) (.seq (.ops [⟨(some 56), none, .bin .eql (.t 8) (.c (.int .i64 2))⟩, ⟨(some 55), none, .mov (.t 56)⟩])
 (.cond (.t 55) (.seq (.ops [⟨(some 57), none, .mov (.t 0)⟩, ⟨(some 58), none, .nilck (.t 57)⟩, ⟨(some 59), none, .faddr 5 (.t 58)⟩, ⟨(some 60), none, .load true 3 (.t 59)⟩, ⟨(some 61), none, .mov (.t 1)⟩, ⟨(some 62), none, .call 35 [(.t 60), (.t 61)]⟩, ⟨(some 63), none, .mov (.t 62)⟩, ⟨(some 64), (some (63, true)), .mov (.t 0)⟩, ⟨(some 65), (some (63, true)), .nilck (.t 64)⟩, ⟨(some 66), (some (63, true)), .faddr 4 (.t 65)⟩, ⟨(some 67), (some (63, true)), .load false 1 (.t 66)⟩, ⟨(some 68), (some (63, true)), .bin .eql (.t 67) (.c (.int .i64 0))⟩, ⟨(some 69), none, .pick (.t 63) (.t 68) (.c (.bool false))⟩, ⟨(some 70), none, .mov (.t 69)⟩, ⟨(some 71), (some (70, true)), .mov (.t 0)⟩, ⟨(some 72), (some (70, true)), .nilck (.t 71)⟩, ⟨(some 73), (some (70, true)), .faddr 1 (.t 72)⟩, ⟨(some 74), (some (70, true)), .call 97 [(.t 73)]⟩, ⟨(some 75), none, .pick (.t 70) (.t 74) (.c (.bool false))⟩, ⟨(some 4), none, .mov (.t 75)⟩])
 .ret) .skip))))))))
 (.seq (.ops [⟨(some 4), none, .mov (.c (.bool false))⟩])
 .ret)))⟩
/-- furlong/rec.Id -/
def v74 : VFun := ⟨1, [(.tmp 2)], (.seq (.ops [⟨(some 2), none, .mov (.c (.int .i64 0))⟩])
 (.seq (.seq (.ops [⟨(some 3), none, .mov (.t 0)⟩, ⟨(some 4), none, .nilck (.t 3)⟩, ⟨(some 5), none, .faddr 0 (.t 4)⟩, ⟨(some 6), none, .load false 1 (.t 5)⟩, ⟨(some 7), none, .bin .eql (.t 6) (.c (.int .i64 0))⟩])
 (.cond (.t 7) (.seq (.ops [⟨(some 8), none, .mov (.t 0)⟩, ⟨(some 9), none, .nilck (.t 8)⟩, ⟨(some 10), none, .faddr 1 (.t 9)⟩, ⟨(some 11), none, .faddr 0 (.t 10)⟩, ⟨(some 12), none, .load false 1 (.t 11)⟩, ⟨(some 2), none, .mov (.t 12)⟩])
 .ret) .skip))
 (.seq (.ops [⟨(some 13), none, .mov (.t 0)⟩, ⟨(some 14), none, .nilck (.t 13)⟩, ⟨(some 15), none, .faddr 4 (.t 14)⟩, ⟨(some 16), none, .load false 1 (.t 15)⟩, ⟨(some 2), none, .mov (.t 16)⟩])
 .ret)))⟩
def b82_0 : VCode := (.seq (.seq (.ops [⟨(some 13), none, .mov (.t 7)⟩, ⟨(some 14), none, .mov (.t 8)⟩, ⟨(some 15), none, .bin .lss (.t 13) (.t 14)⟩])
 (.cond (.t 15) .skip (.exit 0)))
 (.block 1 (.seq (.ops [⟨(some 16), none, .mov (.t 7)⟩, ⟨(some 17), none, .mov (.t 8)⟩, ⟨(some 18), none, .bin .add (.t 16) (.t 17)⟩, ⟨(some 19), none, .conv (.int .u64) (.t 18)⟩, ⟨(some 20), none, .bin .shr (.t 19) (.c (.int .u64 1))⟩, ⟨(some 21), none, .conv (.int .i64) (.t 20)⟩, ⟨(some 9), none, .mov (.t 21)⟩])
 (.seq (.ops [⟨(some 22), none, .mov (.t 0)⟩, ⟨(some 23), none, .mov (.t 9)⟩, ⟨(some 24), none, .iaddr 1 none (.t 22) (.t 23)⟩, ⟨(some 25), none, .load false 1 (.t 24)⟩, ⟨(some 26), none, .mov (.t 1)⟩, ⟨(some 27), none, .call 101 [(.t 25), (.t 26)]⟩])
 (.cond (.t 27) (.ops [⟨(some 28), none, .mov (.t 9)⟩, ⟨(some 29), none, .bin .add (.t 28) (.c (.int .i64 1))⟩, ⟨(some 7), none, .mov (.t 29)⟩]) (.ops [⟨(some 30), none, .mov (.t 9)⟩, ⟨(some 8), none, .mov (.t 30)⟩]))))))
/-- slices.BinarySearch[[]int,int] -/
def v82 : VFun := ⟨2, [(.tmp 4), (.tmp 5)], (.seq (.ops [⟨(some 4), none, .mov (.c (.int .i64 0))⟩, ⟨(some 5), none, .mov (.c (.bool false))⟩])
 (.seq (.ops [⟨(some 10), none, .mov (.t 0)⟩, ⟨(some 11), none, .bi (.len 1) [(.t 10)]⟩, ⟨(some 6), none, .mov (.t 11)⟩])
 (.seq (.ops [⟨(some 12), none, .mov (.t 6)⟩, ⟨(some 7), none, .mov (.c (.int .i64 0))⟩, ⟨(some 8), none, .mov (.t 12)⟩])
 (.seq (.block 0 (.loop b82_0))
 (.seq (.ops [⟨(some 31), none, .mov (.t 7)⟩, ⟨(some 32), none, .mov (.t 7)⟩, ⟨(some 33), none, .mov (.t 6)⟩, ⟨(some 34), none, .bin .lss (.t 32) (.t 33)⟩, ⟨(some 35), none, .mov (.t 34)⟩, ⟨(some 36), (some (35, true)), .mov (.t 0)⟩, ⟨(some 37), (some (35, true)), .mov (.t 7)⟩, ⟨(some 38), (some (35, true)), .iaddr 1 none (.t 36) (.t 37)⟩, ⟨(some 39), (some (35, true)), .load false 1 (.t 38)⟩, ⟨(some 40), (some (35, true)), .mov (.t 1)⟩, ⟨(some 41), (some (35, true)), .bin .eql (.t 39) (.t 40)⟩, ⟨(some 42), (some (35, true)), .mov (.t 41)⟩, ⟨(some 43), (some (42, false)), .mov (.t 0)⟩, ⟨(some 44), (some (42, false)), .mov (.t 7)⟩, ⟨(some 45), (some (42, false)), .iaddr 1 none (.t 43) (.t 44)⟩, ⟨(some 46), (some (42, false)), .load false 1 (.t 45)⟩, ⟨(some 47), (some (42, false)), .call 102 [(.t 46)]⟩, ⟨(some 48), (some (42, false)), .mov (.t 47)⟩, ⟨(some 49), (some (48, true)), .mov (.t 1)⟩, ⟨(some 50), (some (48, true)), .call 102 [(.t 49)]⟩, ⟨(some 51), (some (42, false)), .pick (.t 48) (.t 50) (.c (.bool false))⟩, ⟨(some 52), (some (35, true)), .pick (.t 42) (.c (.bool true)) (.t 51)⟩, ⟨(some 53), none, .pick (.t 35) (.t 52) (.c (.bool false))⟩, ⟨(some 4), none, .mov (.t 31)⟩, ⟨(some 5), none, .mov (.t 53)⟩])
 .ret)))))⟩
/-- slices.Clone[[]int,int] -/
def v83 : VFun := ⟨1, [(.tmp 2)], (.seq (.ops [⟨(some 2), none, .mov (.c .nils)⟩])
 (.seq (.seq (.ops [⟨(some 3), none, .mov (.t 0)⟩, ⟨(some 4), none, .eqs .sl false (.t 3) (.c .nils)⟩])
 (.cond (.t 4) (.seq (.ops [⟨(some 2), none, .mov (.c .nils)⟩])
 .ret) .skip))
 (.seq (.ops [⟨(some 5), none, .bslice [(.int .i64 0)] 3 0 []⟩, ⟨(some 6), none, .mov (.t 0)⟩, ⟨(some 7), none, .bi (.append 1 8 3) [(.t 5), (.t 6)]⟩, ⟨(some 2), none, .mov (.t 7)⟩])
 .ret)))⟩
/-- slices.rotateRight[int] -/
def v85 : VFun := ⟨2, [], (.ops [⟨(some 4), none, .mov (.t 0)⟩, ⟨(some 5), none, .mov (.t 0)⟩, ⟨(some 6), none, .bi (.len 1) [(.t 5)]⟩, ⟨(some 7), none, .mov (.t 1)⟩, ⟨(some 8), none, .bin .sub (.t 6) (.t 7)⟩, ⟨(some 9), none, .call 103 [(.t 4), (.t 8)]⟩])⟩
/-- furlong/shape.May -/
def v88 : VFun := ⟨1, [(.tmp 2)], (.seq (.ops [⟨(some 1), none, .box 50 (.t 0)⟩, ⟨(some 2), none, .mov (.c (.bool false))⟩])
 (.seq (.seq (.ops [⟨(some 3), none, .faddr 0 (.t 1)⟩, ⟨(some 4), none, .load false 1 (.t 3)⟩, ⟨(some 5), none, .bin .lss (.t 4) (.c (.int .i64 1))⟩, ⟨(some 6), none, .mov (.t 5)⟩, ⟨(some 7), (some (6, false)), .faddr 0 (.t 1)⟩, ⟨(some 8), (some (6, false)), .load false 1 (.t 7)⟩, ⟨(some 9), (some (6, false)), .bin .gtr (.t 8) (.c (.int .i64 65535))⟩, ⟨(some 10), none, .pick (.t 6) (.c (.bool true)) (.t 9)⟩, ⟨(some 11), none, .mov (.t 10)⟩, ⟨(some 12), (some (11, false)), .faddr 2 (.t 1)⟩, ⟨(some 13), (some (11, false)), .load false 1 (.t 12)⟩, ⟨(some 14), (some (11, false)), .bi (.len 1) [(.t 13)]⟩, ⟨(some 15), (some (11, false)), .bin .lss (.t 14) (.c (.int .i64 1))⟩, ⟨(some 16), none, .pick (.t 11) (.c (.bool true)) (.t 15)⟩, ⟨(some 17), none, .mov (.t 16)⟩, ⟨(some 18), (some (17, false)), .faddr 2 (.t 1)⟩, ⟨(some 19), (some (17, false)), .load false 1 (.t 18)⟩, ⟨(some 20), (some (17, false)), .bi (.len 1) [(.t 19)]⟩, ⟨(some 21), (some (17, false)), .bin .gtr (.t 20) (.c (.int .i64 4))⟩, ⟨(some 22), none, .pick (.t 17) (.c (.bool true)) (.t 21)⟩])
 (.cond (.t 22) (.seq (.ops [⟨(some 2), none, .mov (.c (.bool false))⟩])
 .ret) .skip))
 (.seq (.seq (.ops [⟨(some 23), none, .faddr 1 (.t 1)⟩, ⟨(some 24), none, .load false 1 (.t 23)⟩])
 (.block 0 (.seq (.ops [⟨(some 26), none, .bin .eql (.t 24) (.c (.int .i64 0))⟩, ⟨(some 25), none, .mov (.t 26)⟩])
 (.cond (.t 25) (.seq (.ops [⟨(some 27), none, .faddr 2 (.t 1)⟩, ⟨(some 28), none, .load false 1 (.t 27)⟩, ⟨(some 29), none, .bi (.len 1) [(.t 28)]⟩, ⟨(some 30), none, .bin .eql (.t 29) (.c (.int .i64 1))⟩, ⟨(some 31), none, .mov (.t 30)⟩, ⟨(some 32), (some (31, true)), .faddr 2 (.t 1)⟩, ⟨(some 33), (some (31, true)), .load false 1 (.t 32)⟩, ⟨(some 34), (some (31, true)), .iaddr 1 none (.t 33) (.c (.int .i64 0))⟩, ⟨(some 35), (some (31, true)), .load false 1 (.t 34)⟩, ⟨(some 36), (some (31, true)), .bi (.len 1) [(.t 35)]⟩, ⟨(some 37), (some (31, true)), .bin .eql (.t 36) (.c (.int .i64 1))⟩, ⟨(some 38), none, .pick (.t 31) (.t 37) (.c (.bool false))⟩, ⟨(some 39), none, .mov (.t 38)⟩, ⟨(some 40), (some (39, true)), .faddr 2 (.t 1)⟩, ⟨(some 41), (some (39, true)), .load false 1 (.t 40)⟩, ⟨(some 42), (some (39, true)), .iaddr 1 none (.t 41) (.c (.int .i64 0))⟩, ⟨(some 43), (some (39, true)), .load false 1 (.t 42)⟩, ⟨(some 44), (some (39, true)), .iaddr 2 none (.t 43) (.c (.int .i64 0))⟩, ⟨(some 45), (some (39, true)), .load true 2 (.t 44)⟩, ⟨(some 46), (some (39, true)), .call 114 [(.t 45)]⟩, ⟨(some 47), none, .pick (.t 39) (.t 46) (.c (.bool false))⟩, ⟨(some 2), none, .mov (.t 47)⟩])
 .ret) (.seq (.ops [⟨(some 49), none, .bin .eql (.t 24) (.c (.int .i64 1))⟩, ⟨(some 48), none, .mov (.t 49)⟩])
 (.cond (.t 48) (.seq (.ops [⟨(some 50), none, .faddr 2 (.t 1)⟩, ⟨(some 51), none, .load false 1 (.t 50)⟩, ⟨(some 52), none, .bi (.len 1) [(.t 51)]⟩, ⟨(some 53), none, .bin .eql (.t 52) (.c (.int .i64 1))⟩, ⟨(some 54), none, .mov (.t 53)⟩, ⟨(some 55), (some (54, true)), .faddr 2 (.t 1)⟩, ⟨(some 56), (some (54, true)), .load false 1 (.t 55)⟩, ⟨(some 57), (some (54, true)), .iaddr 1 none (.t 56) (.c (.int .i64 0))⟩, ⟨(some 58), (some (54, true)), .load false 1 (.t 57)⟩, ⟨(some 59), (some (54, true)), .call 115 [(.t 58), (.c (.int .i64 2)), (.c (.bool false))]⟩, ⟨(some 60), none, .pick (.t 54) (.t 59) (.c (.bool false))⟩, ⟨(some 2), none, .mov (.t 60)⟩])
 .ret) (.seq (.ops [⟨(some 62), none, .bin .eql (.t 24) (.c (.int .i64 2))⟩, ⟨(some 61), none, .mov (.t 62)⟩])
 (.cond (.t 61) (.seq (.ops [⟨(some 63), none, .faddr 2 (.t 1)⟩, ⟨(some 64), none, .load false 1 (.t 63)⟩, ⟨(some 65), none, .call 116 [(.t 64), (.c (.fn 117 []))]⟩, ⟨(some 66), none, .un .not (.t 65)⟩, ⟨(some 2), none, .mov (.t 66)⟩])
 .ret) .skip))))))))
 (.seq (.ops [⟨(some 2), none, .mov (.c (.bool false))⟩])
 .ret))))⟩
/-- furlong/rec.noMap -/
def v96 : VFun := ⟨1, [(.tmp 2)], (.seq (.ops [⟨(some 2), none, .mov (.c (.bool false))⟩])
 (.seq (.ops [⟨(some 3), none, .mov (.t 0)⟩, ⟨(some 4), none, .nilck (.t 3)⟩, ⟨(some 5), none, .faddr 0 (.t 4)⟩, ⟨(some 6), none, .load false 1 (.t 5)⟩, ⟨(some 7), none, .bin .eql (.t 6) (.c (.int .i64 0))⟩, ⟨(some 8), none, .mov (.t 7)⟩, ⟨(some 9), (some (8, true)), .mov (.t 0)⟩, ⟨(some 10), (some (8, true)), .nilck (.t 9)⟩, ⟨(some 11), (some (8, true)), .faddr 1 (.t 10)⟩, ⟨(some 12), (some (8, true)), .load false 1 (.t 11)⟩, ⟨(some 13), (some (8, true)), .bi (.len 1) [(.t 12)]⟩, ⟨(some 14), (some (8, true)), .bin .eql (.t 13) (.c (.int .i64 0))⟩, ⟨(some 15), none, .pick (.t 8) (.t 14) (.c (.bool false))⟩, ⟨(some 16), none, .mov (.t 15)⟩, ⟨(some 17), (some (16, true)), .mov (.t 0)⟩, ⟨(some 18), (some (16, true)), .nilck (.t 17)⟩, ⟨(some 19), (some (16, true)), .faddr 2 (.t 18)⟩, ⟨(some 20), (some (16, true)), .load false 1 (.t 19)⟩, ⟨(some 21), (some (16, true)), .bi (.len 1) [(.t 20)]⟩, ⟨(some 22), (some (16, true)), .bin .eql (.t 21) (.c (.int .i64 0))⟩, ⟨(some 23), none, .pick (.t 16) (.t 22) (.c (.bool false))⟩, ⟨(some 2), none, .mov (.t 23)⟩])
 .ret))⟩
/-- furlong/rec.noFeature -/
def v97 : VFun := ⟨1, [(.tmp 2)], (.seq (.ops [⟨(some 2), none, .mov (.c (.bool false))⟩])
 (.seq (.ops [⟨(some 3), none, .mov (.t 0)⟩, ⟨(some 4), none, .nilck (.t 3)⟩, ⟨(some 5), none, .faddr 0 (.t 4)⟩, ⟨(some 6), none, .load false 1 (.t 5)⟩, ⟨(some 7), none, .bin .eql (.t 6) (.c (.int .i64 0))⟩, ⟨(some 8), none, .mov (.t 7)⟩, ⟨(some 9), (some (8, true)), .mov (.t 0)⟩, ⟨(some 10), (some (8, true)), .nilck (.t 9)⟩, ⟨(some 11), (some (8, true)), .faddr 1 (.t 10)⟩, ⟨(some 12), (some (8, true)), .load false 1 (.t 11)⟩, ⟨(some 13), (some (8, true)), .bin .eql (.t 12) (.c (.int .i64 0))⟩, ⟨(some 14), none, .pick (.t 8) (.t 13) (.c (.bool false))⟩, ⟨(some 15), none, .mov (.t 14)⟩, ⟨(some 16), (some (15, true)), .mov (.t 0)⟩, ⟨(some 17), (some (15, true)), .nilck (.t 16)⟩, ⟨(some 18), (some (15, true)), .faddr 2 (.t 17)⟩, ⟨(some 19), (some (15, true)), .load false 1 (.t 18)⟩, ⟨(some 20), (some (15, true)), .bi (.len 1) [(.t 19)]⟩, ⟨(some 21), (some (15, true)), .bin .eql (.t 20) (.c (.int .i64 0))⟩, ⟨(some 22), none, .pick (.t 15) (.t 21) (.c (.bool false))⟩, ⟨(some 2), none, .mov (.t 22)⟩])
 .ret))⟩
/-- cmp.Less[int] -/
def v101 : VFun := ⟨2, [(.tmp 4)], (.seq (.ops [⟨(some 4), none, .mov (.c (.bool false))⟩])
 (.seq (.ops [⟨(some 5), none, .mov (.t 0)⟩, ⟨(some 6), none, .call 121 [(.t 5)]⟩, ⟨(some 7), none, .mov (.t 6)⟩, ⟨(some 8), (some (7, true)), .mov (.t 1)⟩, ⟨(some 9), (some (7, true)), .call 121 [(.t 8)]⟩, ⟨(some 10), (some (7, true)), .un .not (.t 9)⟩, ⟨(some 11), none, .pick (.t 7) (.t 10) (.c (.bool false))⟩, ⟨(some 12), none, .mov (.t 11)⟩, ⟨(some 13), (some (12, false)), .mov (.t 0)⟩, ⟨(some 14), (some (12, false)), .mov (.t 1)⟩, ⟨(some 15), (some (12, false)), .bin .lss (.t 13) (.t 14)⟩, ⟨(some 16), none, .pick (.t 12) (.c (.bool true)) (.t 15)⟩, ⟨(some 4), none, .mov (.t 16)⟩])
 .ret))⟩
/-- slices.isNaN[int] -/
def v102 : VFun := ⟨1, [(.tmp 2)], (.seq (.ops [⟨(some 2), none, .mov (.c (.bool false))⟩])
 (.seq (.ops [⟨(some 3), none, .mov (.t 0)⟩, ⟨(some 4), none, .mov (.t 0)⟩, ⟨(some 5), none, .bin .neq (.t 3) (.t 4)⟩, ⟨(some 2), none, .mov (.t 5)⟩])
 .ret))⟩
/-- slices.rotateLeft[int] -/
def v103 : VFun := ⟨2, [], (.seq (.ops [⟨(some 4), none, .mov (.t 0)⟩, ⟨(some 5), none, .mov (.t 1)⟩, ⟨(some 6), none, .slice 1 (.t 4) none (some (.t 5)) none⟩, ⟨(some 7), none, .call 122 [(.t 6)]⟩])
 (.seq (.ops [⟨(some 8), none, .mov (.t 0)⟩, ⟨(some 9), none, .mov (.t 1)⟩, ⟨(some 10), none, .slice 1 (.t 8) (some (.t 9)) none none⟩, ⟨(some 11), none, .call 122 [(.t 10)]⟩])
 (.ops [⟨(some 12), none, .mov (.t 0)⟩, ⟨(some 13), none, .call 122 [(.t 12)]⟩])))⟩
/-- furlong/geom.PointMay -/
def v114 : VFun := ⟨1, [(.tmp 2)], (.seq (.ops [⟨(some 1), none, .box 61 (.t 0)⟩, ⟨(some 2), none, .mov (.c (.bool false))⟩])
 (.seq (.ops [⟨(some 3), none, .faddr 0 (.t 1)⟩, ⟨(some 4), none, .load false 1 (.t 3)⟩, ⟨(some 5), none, .call 119 [(.t 4)]⟩, ⟨(some 6), none, .mov (.t 5)⟩, ⟨(some 7), (some (6, true)), .faddr 1 (.t 1)⟩, ⟨(some 8), (some (6, true)), .load false 1 (.t 7)⟩, ⟨(some 9), (some (6, true)), .call 119 [(.t 8)]⟩, ⟨(some 10), none, .pick (.t 6) (.t 9) (.c (.bool false))⟩, ⟨(some 2), none, .mov (.t 10)⟩])
 .ret))⟩
def b115_0 : VCode := (.seq (.ops [⟨(some 22), none, .bin .lss (.t 21) (.t 20)⟩])
 (.seq (.cond (.t 22) .skip (.exit 0))
 (.seq (.block 1 (.seq (.ops [⟨(some 23), none, .mov (.t 21)⟩, ⟨(some 24), none, .iaddr 2 none (.t 19) (.t 21)⟩, ⟨(some 25), none, .load true 2 (.t 24)⟩, ⟨(some 8), none, .alloc [(.int .i64 0), (.int .i64 0)] 61⟩, ⟨(some 7), none, .mov (.t 23)⟩, ⟨none, none, .store 2 (.t 8) (.t 25)⟩])
 (.seq (.ops [⟨(some 26), none, .mov (.t 7)⟩, ⟨(some 27), none, .bin .add (.t 26) (.c (.int .i64 1))⟩, ⟨(some 9), none, .mov (.t 27)⟩])
 (.seq (.seq (.ops [⟨(some 28), none, .mov (.t 9)⟩, ⟨(some 29), none, .mov (.t 0)⟩, ⟨(some 30), none, .bi (.len 1) [(.t 29)]⟩, ⟨(some 31), none, .bin .eql (.t 28) (.t 30)⟩])
 (.cond (.t 31) (.ops [⟨(some 9), none, .mov (.c (.int .i64 0))⟩]) .skip))
 (.seq (.drawn [⟨(some 32), none, .load true 2 (.t 8)⟩, ⟨(some 33), none, .call 114 [(.t 32)]⟩, ⟨(some 34), none, .un .not (.t 33)⟩, ⟨(some 35), none, .mov (.t 34)⟩, ⟨(some 36), (some (35, false)), .mov (.t 9)⟩, ⟨(some 37), (some (35, false)), .bin .gtr (.t 36) (.c (.int .i64 0))⟩, ⟨(some 38), (some (35, false)), .mov (.t 37)⟩, ⟨(some 39), (some (38, false)), .mov (.t 2)⟩, ⟨(some 40), (some (35, false)), .pick (.t 38) (.c (.bool true)) (.t 39)⟩, ⟨(some 41), (some (35, false)), .mov (.t 40)⟩, ⟨(some 42), (some (41, true)), .load true 2 (.t 8)⟩, ⟨(some 43), (some (41, true)), .mov (.t 0)⟩, ⟨(some 44), (some (41, true)), .mov (.t 9)⟩, ⟨(some 45), (some (41, true)), .iaddr 2 none (.t 43) (.t 44)⟩, ⟨(some 46), (some (41, true)), .load true 2 (.t 45)⟩, ⟨(some 47), (some (41, true)), .eqs (.flat [.int, .int]) false (.t 42) (.t 46)⟩, ⟨(some 48), (some (35, false)), .pick (.t 41) (.t 47) (.c (.bool false))⟩, ⟨(some 49), none, .pick (.t 35) (.c (.bool true)) (.t 48)⟩] [])
 (.cond (.t 49) (.seq (.ops [⟨(some 6), none, .mov (.c (.bool false))⟩])
 .ret) .skip))))))
 (.ops [⟨(some 50), none, .bin .add (.t 21) (.c (.int .i64 1))⟩, ⟨(some 21), none, .mov (.t 50)⟩]))))
/-- furlong/shape.ring -/
def v115 : VFun := ⟨3, [(.tmp 6)], (.seq (.ops [⟨(some 6), none, .mov (.c (.bool false))⟩])
 (.seq (.seq (.ops [⟨(some 10), none, .mov (.t 0)⟩, ⟨(some 11), none, .bi (.len 1) [(.t 10)]⟩, ⟨(some 12), none, .mov (.t 1)⟩, ⟨(some 13), none, .bin .lss (.t 11) (.t 12)⟩, ⟨(some 14), none, .mov (.t 13)⟩, ⟨(some 15), (some (14, false)), .mov (.t 0)⟩, ⟨(some 16), (some (14, false)), .bi (.len 1) [(.t 15)]⟩, ⟨(some 17), (some (14, false)), .bin .gtr (.t 16) (.c (.int .i64 16))⟩, ⟨(some 18), none, .pick (.t 14) (.c (.bool true)) (.t 17)⟩])
 (.cond (.t 18) (.seq (.ops [⟨(some 6), none, .mov (.c (.bool false))⟩])
 .ret) .skip))
 (.seq (.seq (.ops [⟨(some 19), none, .mov (.t 0)⟩, ⟨(some 20), none, .bi (.len 1) [(.t 19)]⟩, ⟨(some 21), none, .mov (.c (.int .i64 0))⟩])
 (.block 0 (.loop b115_0)))
 (.seq (.ops [⟨(some 6), none, .mov (.c (.bool true))⟩])
 .ret))))⟩
/-- slices.ContainsFunc[[][]furlong/api.Point,[]furlong/api.Point] -/
def v116 : VFun := ⟨2, [(.tmp 4)], (.seq (.ops [⟨(some 4), none, .mov (.c (.bool false))⟩])
 (.seq (.ops [⟨(some 5), none, .mov (.t 0)⟩, ⟨(some 6), none, .mov (.t 1)⟩, ⟨(some 7), none, .call 128 [(.t 5), (.t 6)]⟩, ⟨(some 8), none, .bin .geq (.t 7) (.c (.int .i64 0))⟩, ⟨(some 4), none, .mov (.t 8)⟩])
 .ret))⟩
/-- furlong/shape.May$1 -/
def v117 : VFun := ⟨1, [(.tmp 2)], (.seq (.ops [⟨(some 2), none, .mov (.c (.bool false))⟩])
 (.seq (.ops [⟨(some 3), none, .mov (.t 0)⟩, ⟨(some 4), none, .call 115 [(.t 3), (.c (.int .i64 3)), (.c (.bool true))]⟩, ⟨(some 5), none, .un .not (.t 4)⟩, ⟨(some 2), none, .mov (.t 5)⟩])
 .ret))⟩
/-- furlong/geom.coord -/
def v119 : VFun := ⟨1, [(.tmp 2)], (.seq (.ops [⟨(some 2), none, .mov (.c (.bool false))⟩])
 (.seq (.ops [⟨(some 3), none, .mov (.t 0)⟩, ⟨(some 4), none, .bin .geq (.t 3) (.c (.int .i64 0))⟩, ⟨(some 5), none, .mov (.t 4)⟩, ⟨(some 6), (some (5, true)), .mov (.t 0)⟩, ⟨(some 7), (some (5, true)), .bin .leq (.t 6) (.c (.int .i64 4294967295))⟩, ⟨(some 8), none, .pick (.t 5) (.t 7) (.c (.bool false))⟩, ⟨(some 2), none, .mov (.t 8)⟩])
 .ret))⟩
/-- cmp.isNaN[int] -/
def v121 : VFun := ⟨1, [(.tmp 2)], (.seq (.ops [⟨(some 2), none, .mov (.c (.bool false))⟩])
 (.seq (.ops [⟨(some 3), none, .mov (.t 0)⟩, ⟨(some 4), none, .mov (.t 0)⟩, ⟨(some 5), none, .bin .neq (.t 3) (.t 4)⟩, ⟨(some 2), none, .mov (.t 5)⟩])
 .ret))⟩
def b122_0 : VCode := (.seq (.seq (.ops [⟨(some 7), none, .mov (.t 2)⟩, ⟨(some 8), none, .mov (.t 3)⟩, ⟨(some 9), none, .bin .lss (.t 7) (.t 8)⟩])
 (.cond (.t 9) .skip (.exit 0)))
 (.seq (.block 1 (.drawn [⟨(some 14), none, .mov (.t 0)⟩, ⟨(some 15), none, .mov (.t 2)⟩, ⟨(some 16), none, .mov (.t 0)⟩, ⟨(some 17), none, .mov (.t 3)⟩, ⟨(some 18), none, .mov (.t 0)⟩, ⟨(some 19), none, .mov (.t 3)⟩, ⟨(some 20), none, .iaddr 1 none (.t 18) (.t 19)⟩, ⟨(some 21), none, .load false 1 (.t 20)⟩, ⟨(some 22), none, .mov (.t 0)⟩, ⟨(some 23), none, .mov (.t 2)⟩, ⟨(some 24), none, .iaddr 1 none (.t 22) (.t 23)⟩, ⟨(some 25), none, .load false 1 (.t 24)⟩, ⟨(some 26), none, .iaddr 1 none (.t 14) (.t 15)⟩, ⟨none, none, .store 1 (.t 26) (.t 21)⟩, ⟨(some 27), none, .iaddr 1 none (.t 16) (.t 17)⟩, ⟨none, none, .store 1 (.t 27) (.t 25)⟩] []))
 (.ops [⟨(some 10), none, .mov (.t 2)⟩, ⟨(some 11), none, .bin .add (.t 10) (.c (.int .i64 1))⟩, ⟨(some 12), none, .mov (.t 3)⟩, ⟨(some 13), none, .bin .sub (.t 12) (.c (.int .i64 1))⟩, ⟨(some 2), none, .mov (.t 11)⟩, ⟨(some 3), none, .mov (.t 13)⟩])))
/-- slices.Reverse[[]int,int] -/
def v122 : VFun := ⟨1, [], (.seq (.ops [⟨(some 4), none, .mov (.t 0)⟩, ⟨(some 5), none, .bi (.len 1) [(.t 4)]⟩, ⟨(some 6), none, .bin .sub (.t 5) (.c (.int .i64 1))⟩, ⟨(some 2), none, .mov (.c (.int .i64 0))⟩, ⟨(some 3), none, .mov (.t 6)⟩])
 (.block 0 (.loop b122_0)))⟩
def b128_0 : VCode := (.seq (.ops [⟨(some 9), none, .bin .lss (.t 8) (.t 7)⟩])
 (.seq (.cond (.t 9) .skip (.exit 0))
 (.seq (.block 1 (.seq (.ops [⟨(some 10), none, .mov (.t 8)⟩, ⟨(some 5), none, .mov (.t 10)⟩])
 (.seq (.ops [⟨(some 11), none, .mov (.t 1)⟩, ⟨(some 12), none, .mov (.t 0)⟩, ⟨(some 13), none, .mov (.t 5)⟩, ⟨(some 14), none, .iaddr 1 none (.t 12) (.t 13)⟩, ⟨(some 15), none, .load false 1 (.t 14)⟩, ⟨(some 16), none, .callv (.t 11) [(.t 15)]⟩])
 (.cond (.t 16) (.seq (.ops [⟨(some 17), none, .mov (.t 5)⟩, ⟨(some 4), none, .mov (.t 17)⟩])
 .ret) .skip))))
 (.ops [⟨(some 18), none, .bin .add (.t 8) (.c (.int .i64 1))⟩, ⟨(some 8), none, .mov (.t 18)⟩]))))
/-- slices.IndexFunc[[][]furlong/api.Point,[]furlong/api.Point] -/
def v128 : VFun := ⟨2, [(.tmp 4)], (.seq (.ops [⟨(some 4), none, .mov (.c (.int .i64 0))⟩])
 (.seq (.seq (.ops [⟨(some 6), none, .mov (.t 0)⟩, ⟨(some 7), none, .bi (.len 1) [(.t 6)]⟩, ⟨(some 8), none, .mov (.c (.int .i64 0))⟩])
 (.block 0 (.loop b128_0)))
 (.seq (.ops [⟨(some 4), none, .mov (.c (.int .i64 (-1)))⟩])
 .ret)))⟩
def tab : Nat → Option VFun := tableOf [(5, v5), (14, v14), (17, v17), (19, v19), (21, v21), (26, v26), (28, v28), (29, v29), (30, v30), (32, v32), (35, v35), (42, v42), (46, v46), (47, v47), (56, v56), (57, v57), (58, v58), (59, v59), (60, v60), (61, v61), (72, v72), (73, v73), (74, v74), (82, v82), (83, v83), (85, v85), (88, v88), (96, v96), (97, v97), (101, v101), (102, v102), (103, v103), (114, v114), (115, v115), (116, v116), (117, v117), (119, v119), (121, v121), (122, v122), (128, v128)]
end Go.Proofs.Ythmkenkjfmbkiaa.VM
set_option linter.unusedSimpArgs false
set_option linter.unusedVariables false
set_option linter.defProp false
set_option maxHeartbeats 1000000
namespace Go.Proofs.Ythmkenkjfmbkiaa.VM
attribute [local irreducible] Af Nx EvO Ev Un Gd Cd EvR EvQ EvC Nc Gc Lp EvM NxM AfM GdM EvMR EvMQ EvMD EvMC Nm Gm
section
variable {P : Program}
def coordOk (x : Int) : Prop := 0 ≤ x ∧ x ≤ 4294967295
instance (x : Int) : Decidable (coordOk x) := by unfold coordOk; infer_instance
def ptOk (p : Pt) : Prop := coordOk p.x ∧ coordOk p.y
instance (p : Pt) : Decidable (ptOk p) := by unfold ptOk; infer_instance
theorem coord_pu (g : Pg P tab) (a : Int) : Pu P 119 [.int .i64 a] (fun v => v = .bool (decide (coordOk a))) := by
  refine g.pu (vf := v119) rfl rfl ?_
  simp +contextual (maxSteps := 2000000) (disch := omega) only [v119, coordOk, RX, VOp.fresh, bxC, bsC, un, most, callsOf, seval, Int.reducePow, ↓reduceIte, Nat.reduceEqDiff, reduceCtorEq]
theorem pointMay_pu (g : Pg P tab) (p : Pt) : Pu P 114 [.agg [.int .i64 p.x, .int .i64 p.y]] (fun v => v = .bool (decide (ptOk p))) := by
  refine g.pu (vf := v114) rfl rfl ?_
  simp +contextual (maxSteps := 2000000) (disch := omega) only [v114, RX, VOp.fresh, bxC, bsC, un, most, callsOf, seval, Int.reducePow, ↓reduceIte, Nat.reduceEqDiff, reduceCtorEq]
  refine (coord_pu g _).go rfl ?_
  rintro v rfl
  simp +contextual (maxSteps := 2000000) (disch := omega) only [RX, VOp.fresh, bxC, bsC, un, most, callsOf, seval, Int.reducePow, ↓reduceIte, Nat.reduceEqDiff, reduceCtorEq]
  refine ⟨fun h1 => ?_, fun h1 => ?_⟩
  · refine (coord_pu g _).go rfl ?_
    rintro v rfl
    simp +contextual (maxSteps := 2000000) (disch := omega) only [h1, ptOk, RX, VOp.fresh, bxC, bsC, un, most, callsOf, seval, Int.reducePow, ↓reduceIte, Nat.reduceEqDiff, reduceCtorEq]
  · simp +contextual (maxSteps := 2000000) (disch := omega) only [h1, ptOk, RX, VOp.fresh, bxC, bsC, un, most, callsOf, seval, Int.reducePow, ↓reduceIte, Nat.reduceEqDiff, reduceCtorEq]
def mpZero (m : Mp) : Prop := m.epoch = 0 ∧ m.starts = [] ∧ m.owners = []
theorem len0 {α : Type} {l : List α} : ((l.length : Int) = 0) = (l = []) := by
  rw [eq_iff_iff]; cases l <;> simp <;> omega
theorem noMap_pu (g : Pg P tab) {m : Mp} {v u : AV} (hv : IsL 8 RInt v m.starts) (hu : IsL 8 RInt u m.owners) (r : List AV) : Pu P 96 [.rp (.int .i64 m.epoch :: v :: u :: r)] (IsB (mpZero m)) := by
  refine g.pu (vf := v96) rfl rfl ?_
  simp +contextual (maxSteps := 2000000) (disch := omega) only [v96, hv.len, hu.len, mpZero, len0, RX, VOp.fresh, bxC, bsC, un, most, callsOf, seval, Int.reducePow, ↓reduceIte, Nat.reduceEqDiff, reduceCtorEq]
def ftZero (f : Feat) : Prop := f.id = 0 ∧ f.shape = 0 ∧ f.rings = []
theorem noFeature_pu (g : Pg P tab) {f : Feat} {v : AV} (hv : IsL 24 RRing v f.rings) (r : List AV) : Pu P 97 [.rp (.int .i64 f.id :: .int .i64 f.shape :: v :: r)] (IsB (ftZero f)) := by
  refine g.pu (vf := v97) rfl rfl ?_
  simp +contextual (maxSteps := 2000000) (disch := omega) only [v97, hv.len, ftZero, len0, RX, VOp.fresh, bxC, bsC, un, most, callsOf, seval, Int.reducePow, ↓reduceIte, Nat.reduceEqDiff, reduceCtorEq]
def mpAt (nodes : Int) (m : Mp) (i : Nat) : Prop := m.starts.getD i 0 < 4294967296 ∧ (i = 0 ∨ m.starts.getD (i - 1) 0 < m.starts.getD i 0) ∧ 0 ≤ m.owners.getD i 0 ∧ m.owners.getD i 0 < nodes
def mpOk (nodes : Int) (m : Mp) : Prop := 1 ≤ nodes ∧ nodes ≤ 8 ∧ 1 ≤ m.epoch ∧ m.epoch ≤ 65535 ∧ 1 ≤ m.starts.length ∧ m.starts.length ≤ 32 ∧ m.owners.length = m.starts.length ∧ m.starts.getD 0 0 = 0 ∧ ∀ i, i < m.starts.length → mpAt nodes m i
theorem getInt {v : AV} {l : List Int} (h : IsL 8 RInt v l) (i : Nat) (hi : i < l.length) : ∃ r, AV.tolds r = true ∧ ∀ (hh : Heap) (kk : IntKind), iaV hh 1 none v (.int kk (i : Int)) = .val (.rp (.int .i64 (l.getD i 0) :: r)) hh := by
  obtain ⟨ci, r, ⟨e, _⟩, ht, hia⟩ := h.get zInt tInt i hi
  have : l.getD i 0 = l[i] := by simp [List.getD_eq_getElem?_getD, List.getElem?_eq_getElem hi]
  refine ⟨r, ?_, fun hh kk => ?_⟩
  · rw [e] at ht; exact ht
  · rw [hia, e, this]; rfl
theorem mapMay_loop (g : Pg P tab) {nodes : Int} {m : Mp} {v u : AV} (hv : IsL 8 RInt v m.starts) (hu : IsL 8 RInt u m.owners) (hl : m.owners.length = m.starts.length) (hh : Heap) {e : TypeId} {ver : Nat} (hg : hh.get 0 = some (.cells [.int .i64 m.epoch, v, u] e ver)) (n : Nat) :
    ∀ (i : Nat) (s : T AV) (k : List Fr) (Q : Ex → T AV → Heap → Prop), i + n = m.starts.length → sg s 1 = .int .i64 nodes → sg s 2 = .ptr 0 0 → sg s 52 = v → sg s 53 = .int .i64 m.starts.length → sg s 54 = .int .i64 i →
      ((∀ j, i ≤ j → j < m.starts.length → mpAt nodes m j) → ∀ s', Un P k Q (.exit 0) s' hh) → ((¬ ∀ j, i ≤ j → j < m.starts.length → mpAt nodes m j) → ∀ s', sg s' 4 = .bool false → Un P k Q .ret s' hh) → Lp P b35_0 s hh (Un P k Q) := by
  have hb := hv.bound (by decide)
  induction n with
  | zero =>
    intro i s k Q hi h1 h2 h52 h53 h54 hK hR
    refine g.lpe b35_0.eq_1 ?_
    have c1 : ¬ ((i : Int) < (m.starts.length : Int)) := by omega
    simp only [h54, h53, c1, RX, VOp.fresh, bxC, bsC, un, most, callsOf, seval, Int.reducePow, ↓reduceIte, Nat.reduceEqDiff, reduceCtorEq]
    exact hK (fun j h1 h2 => by omega) _
  | succ n ih =>
    intro i s k Q hi h1 h2 h52 h53 h54 hK hR
    refine g.lpe b35_0.eq_1 ?_
    have c1 : (i : Int) < (m.starts.length : Int) := by omega
    obtain ⟨r1, _, g1⟩ := getInt hv i (by omega)
    obtain ⟨r2, _, g2⟩ := getInt hu i (by omega)
    have w1 : IntKind.i64.wrap ((i : Int) + 1) = ((i + 1 : Nat) : Int) := by rw [w64 (by omega) (by omega)]; push_cast; rfl
    have next : mpAt nodes m i → ∀ s' : T AV, sg s' 1 = .int .i64 nodes → sg s' 2 = .ptr 0 0 → sg s' 52 = v → sg s' 53 = .int .i64 m.starts.length → sg s' 54 = .int .i64 ((i + 1 : Nat) : Int) → Lp P b35_0 s' hh (Un P k Q) := by
      intro hok s' a1 a2 a3 a4 a5
      refine ih (i + 1) s' k Q (by omega) a1 a2 a3 a4 a5 (fun hall => hK fun j h1 h2 => ?_) (fun hn => hR fun hall => hn fun j h1 h2 => hall j (by omega) h2)
      rcases Nat.lt_or_ge i j with h | h
      · exact hall j h h2
      · have : j = i := by omega
        subst this; exact hok
    have stop : ¬ mpAt nodes m i → ∀ s' : T AV, sg s' 4 = .bool false → Un P k Q .ret s' hh := fun hn => hR fun hall => hn (hall i (Nat.le_refl _) (by omega))
    by_cases hi0 : i = 0
    · have c2 : ¬ ((0 : Int) < (i : Int)) := by omega
      simp +contextual (maxSteps := 2000000) only [h1, h2, h52, h53, h54, c1, g1, g2, hg, w1, c2, RX, VOp.fresh, bxC, bsC, un, most, callsOf, seval, Int.reducePow, ↓reduceIte, Nat.reduceEqDiff, reduceCtorEq]
      repeat' (first | apply And.intro | intro _)
      all_goals first
        | (refine next ⟨by omega, by omega, by omega, by omega⟩ _ ?_ ?_ ?_ ?_ ?_ <;> simp only [h1, h2, h52, h53, sg_set, Nat.reduceEqDiff, ↓reduceIte]; done)
        | (refine stop (fun hok => ?_) _ (by simp only [sg_set, Nat.reduceEqDiff, ↓reduceIte]); obtain ⟨a1, a2, a3, a4⟩ := hok; omega)
    · have c2 : (0 : Int) < (i : Int) := by omega
      obtain ⟨r3, _, g3⟩ := getInt hv (i - 1) (by omega)
      have w2 : IntKind.i64.wrap ((i : Int) - 1) = ((i - 1 : Nat) : Int) := by rw [w64 (by omega) (by omega)]; omega
      simp +contextual (maxSteps := 2000000) only [h1, h2, h52, h53, h54, c1, g1, g2, g3, hg, w1, w2, c2, RX, VOp.fresh, bxC, bsC, un, most, callsOf, seval, Int.reducePow, ↓reduceIte, Nat.reduceEqDiff, reduceCtorEq]
      repeat' (first | apply And.intro | intro _)
      all_goals first
        | (refine next ⟨by omega, by omega, by omega, by omega⟩ _ ?_ ?_ ?_ ?_ ?_ <;> simp only [h1, h2, h52, h53, sg_set, Nat.reduceEqDiff, ↓reduceIte]; done)
        | (refine stop (fun hok => ?_) _ (by simp only [sg_set, Nat.reduceEqDiff, ↓reduceIte]); obtain ⟨a1, a2, a3, a4⟩ := hok; omega)
theorem mapMay_pu (g : Pg P tab) {nodes : Int} {m : Mp} {v u : AV} (hv : IsL 8 RInt v m.starts) (hu : IsL 8 RInt u m.owners) : Pu P 35 [.agg [.int .i64 m.epoch, v, u], .int .i64 nodes] (IsB (mpOk nodes m)) := by
  refine g.pu (vf := v35) rfl rfl ?_
  have hb := hv.bound (by decide)
  by_cases h0 : 0 < m.starts.length
  · obtain ⟨r1, _, g1⟩ := getInt hv 0 h0
    simp only [Int.natCast_zero, Int.ofNat_zero, Int.ofNat_eq_natCast] at g1
    simp +contextual (maxSteps := 2000000) only [v35, hv.len, hu.len, g1, RX, VOp.fresh, bxC, bsC, un, most, callsOf, seval, Int.reducePow, ↓reduceIte, Nat.reduceEqDiff, reduceCtorEq]
    repeat' (first | apply And.intro | intro _)
    all_goals first
      | (rename_i hok; unfold mpOk at hok; omega)
      | skip
    refine mapMay_loop (nodes := nodes) g hv hu (by omega) _ (e := 24) (ver := 0) ?_ m.starts.length 0 _ _ _ (by omega) ?_ ?_ ?_ ?_ ?_ ?_ ?_
    · rw [Heap.get_mk, if_pos rfl]
    · simp only [sg_set, Nat.reduceEqDiff, ↓reduceIte]
    · simp only [sg_set, Nat.reduceEqDiff, ↓reduceIte]
    · simp only [sg_set, Nat.reduceEqDiff, ↓reduceIte]
    · simp only [sg_set, Nat.reduceEqDiff, ↓reduceIte]
    · simp only [sg_set, Nat.reduceEqDiff, ↓reduceIte]
      rfl
    · intro hall s'
      simp +contextual (maxSteps := 2000000) only [RX, VOp.fresh, bxC, bsC, un, most, callsOf, seval, Int.reducePow, ↓reduceIte, Nat.reduceEqDiff, reduceCtorEq]
      unfold mpOk
      exact ⟨by omega, by omega, by omega, by omega, by omega, by omega, by omega, by omega, fun i hi => hall i (by omega) hi⟩
    · intro hn s' h4
      simp +contextual (maxSteps := 2000000) only [h4, RX, VOp.fresh, bxC, bsC, un, most, callsOf, seval, Int.reducePow, ↓reduceIte, Nat.reduceEqDiff, reduceCtorEq]
      intro hok
      exact hn fun j _ hj => hok.2.2.2.2.2.2.2.2 j hj
  · have e0 : m.starts.length = 0 := by omega
    have c1 : ((m.starts.length : Int) < 1) := by omega
    simp +contextual (maxSteps := 2000000) only [v35, hv.len, hu.len, c1, RX, VOp.fresh, bxC, bsC, un, most, callsOf, seval, Int.reducePow, ↓reduceIte, Nat.reduceEqDiff, reduceCtorEq]
    repeat' (first | apply And.intro | intro _)
    all_goals (rename_i hok; unfold mpOk at hok; omega)
def nxt (n i : Nat) : Nat := if i + 1 = n then 0 else i + 1
def ringAt (closed : Bool) (r : List Pt) (i : Nat) : Prop := ptOk (r.getD i ⟨0, 0⟩) ∧ ((0 < nxt r.length i ∨ closed = true) → r.getD i ⟨0, 0⟩ ≠ r.getD (nxt r.length i) ⟨0, 0⟩)
def ringOk (least : Int) (closed : Bool) (r : List Pt) : Prop := least ≤ r.length ∧ r.length ≤ 16 ∧ ∀ i, i < r.length → ringAt closed r i
theorem getPt {v : AV} {l : List Pt} (h : IsL 16 RPt v l) (i : Nat) (hi : i < l.length) : ∃ r, AV.tolds r = true ∧ ∀ (hh : Heap) (kk : IntKind), iaV hh 2 none v (.int kk (i : Int)) = .val (.rp (.int .i64 (l.getD i ⟨0, 0⟩).x :: .int .i64 (l.getD i ⟨0, 0⟩).y :: r)) hh := by
  obtain ⟨ci, r, ⟨e, _⟩, ht, hia⟩ := h.get zPt tPt i hi
  have : l.getD i ⟨0, 0⟩ = l[i] := by simp [List.getD_eq_getElem?_getD, List.getElem?_eq_getElem hi]
  refine ⟨r, ?_, fun hh kk => ?_⟩
  · rw [e] at ht; exact ht
  · rw [hia, e, this]; rfl
theorem flat2 {a b c d : Int} : eqv (.flat [.int, .int]) (.agg [.int .i64 a, .int .i64 b]) (.agg [.int .i64 c, .int .i64 d]) = some (decide (a = c ∧ b = d)) := by
  simp only [eqv, List.length_cons, List.length_nil, and_self, if_true, sameCells, sameK]
  by_cases h : a = c <;> by_cases h' : b = d <;> simp [h, h', sameCells, sameK]
theorem pt_eq {p q : Pt} : (p.x = q.x ∧ p.y = q.y) = (p = q) := by
  rw [eq_iff_iff]; constructor
  · intro h; cases p; cases q; simp_all
  · rintro rfl; exact ⟨rfl, rfl⟩
theorem ring_loop (g : Pg P tab) {least : Int} {closed : Bool} {r : List Pt} {v : AV} (hv : IsL 16 RPt v r) (hr : r.length ≤ 16) (n : Nat) :
    ∀ (i : Nat) (s : T AV) (hh : Heap) (k : List Fr) (Q : Ex → T AV → Heap → Prop), i + n = r.length → sg s 0 = v → sg s 2 = .bool closed → sg s 19 = v → sg s 20 = .int .i64 r.length → sg s 21 = .int .i64 i →
      ((∀ j, i ≤ j → j < r.length → ringAt closed r j) → ∀ s' h', Un P k Q (.exit 0) s' h') → ((¬ ∀ j, i ≤ j → j < r.length → ringAt closed r j) → ∀ s' h', sg s' 6 = .bool false → Un P k Q .ret s' h') → Lp P b115_0 s hh (Un P k Q) := by
  induction n with
  | zero =>
    intro i s hh k Q hi h0 h2 h19 h20 h21 hK hR
    refine g.lpe b115_0.eq_1 ?_
    have c1 : ¬ ((i : Int) < (r.length : Int)) := by omega
    simp only [h21, h20, c1, RX, VOp.fresh, bxC, bsC, un, most, callsOf, seval, Int.reducePow, ↓reduceIte, Nat.reduceEqDiff, reduceCtorEq]
    exact hK (fun j h1 h2 => by omega) _ _
  | succ n ih =>
    intro i s hh k Q hi h0 h2 h19 h20 h21 hK hR
    refine g.lpe b115_0.eq_1 ?_
    have c1 : (i : Int) < (r.length : Int) := by omega
    obtain ⟨r1, _, g1⟩ := getPt hv i (by omega)
    have w1 : IntKind.i64.wrap ((i : Int) + 1) = ((i + 1 : Nat) : Int) := by rw [w64 (by omega) (by omega)]; push_cast; rfl
    have next : ringAt closed r i → ∀ (s' : T AV) (h' : Heap), sg s' 0 = v → sg s' 2 = .bool closed → sg s' 19 = v → sg s' 20 = .int .i64 r.length → sg s' 21 = .int .i64 ((i + 1 : Nat) : Int) → Lp P b115_0 s' h' (Un P k Q) := by
      intro hok s' h' a1 a2 a3 a4 a5
      refine ih (i + 1) s' h' k Q (by omega) a1 a2 a3 a4 a5 (fun hall => hK fun j h1 h2 => ?_) (fun hn => hR fun hall => hn fun j h1 h2 => hall j (by omega) h2)
      rcases Nat.lt_or_ge i j with h | h
      · exact hall j h h2
      · have : j = i := by omega
        subst this; exact hok
    have stop : ¬ ringAt closed r i → ∀ (s' : T AV) (h' : Heap), sg s' 6 = .bool false → Un P k Q .ret s' h' := fun hn => hR fun hall => hn (hall i (Nat.le_refl _) (by omega))
    have hpt := pointMay_pu g (r.getD i ⟨0, 0⟩)
    have hn : nxt r.length i = if i + 1 = r.length then 0 else i + 1 := rfl
    by_cases hl : i + 1 = r.length
    · have c2 : ((i + 1 : Nat) : Int) = (r.length : Int) := by omega
      rw [if_pos hl] at hn
      obtain ⟨r2, _, g2⟩ := getPt hv 0 (by omega)
      simp only [Int.natCast_zero, Int.ofNat_zero, Int.ofNat_eq_natCast] at g2
      simp +contextual (maxSteps := 2000000) only [RW, Bool.and_self, h0, h2, h19, h20, h21, c1, g1, hv.len, w1, c2, RX, VOp.fresh, bxC, bsC, un, most, callsOf, seval, Int.reducePow, ↓reduceIte, Nat.reduceEqDiff, reduceCtorEq]
      refine hpt.go rfl ?_
      rintro x rfl
      cases closed
      all_goals simp +contextual (maxSteps := 2000000) only [RW, Bool.and_self, h0, h2, h19, h20, h21, g2, w1, flat2, pt_eq, RX, VOp.fresh, bxC, bsC, un, most, callsOf, seval, Int.reducePow, ↓reduceIte, Nat.reduceEqDiff, reduceCtorEq]
      all_goals repeat' (first | apply And.intro | intro _)
      all_goals first
        | (refine next ⟨by assumption, ?_⟩ _ _ ?_ ?_ ?_ ?_ ?_ <;> first | (simp only [h0, h2, h19, h20, sg_set, Nat.reduceEqDiff, ↓reduceIte]; done) | (rw [hn]; simp_all; done))
        | (refine stop ?_ _ _ ?_ <;> first | (simp only [sg_set, Nat.reduceEqDiff, ↓reduceIte]; done) | (rintro ⟨a1, a2⟩; rw [hn] at a2; simp_all; done))
        | trace_state
    · have c2 : ¬ ((i + 1 : Nat) : Int) = (r.length : Int) := by omega
      rw [if_neg hl] at hn
      obtain ⟨r2, _, g2⟩ := getPt hv (i + 1) (by omega)
      have c3 : (0 : Int) < ((i + 1 : Nat) : Int) := by omega
      simp +contextual (maxSteps := 2000000) only [RW, Bool.and_self, h0, h2, h19, h20, h21, c1, g1, hv.len, w1, c2, RX, VOp.fresh, bxC, bsC, un, most, callsOf, seval, Int.reducePow, ↓reduceIte, Nat.reduceEqDiff, reduceCtorEq]
      refine hpt.go rfl ?_
      rintro x rfl
      cases closed
      all_goals simp +contextual (maxSteps := 2000000) only [RW, Bool.and_self, h0, h2, h19, h20, h21, g2, w1, flat2, pt_eq, c3, RX, VOp.fresh, bxC, bsC, un, most, callsOf, seval, Int.reducePow, ↓reduceIte, Nat.reduceEqDiff, reduceCtorEq]
      all_goals repeat' (first | apply And.intro | intro _)
      all_goals first
        | (refine next ⟨by assumption, ?_⟩ _ _ ?_ ?_ ?_ ?_ ?_ <;> first | (simp only [h0, h2, h19, h20, sg_set, Nat.reduceEqDiff, ↓reduceIte]; done) | (rw [hn]; simp_all; done))
        | (refine stop ?_ _ _ ?_ <;> first | (simp only [sg_set, Nat.reduceEqDiff, ↓reduceIte]; done) | (rintro ⟨a1, a2⟩; rw [hn] at a2; simp_all; done))
        | trace_state
theorem ring_pu (g : Pg P tab) {least : Int} {closed : Bool} {r : List Pt} {v : AV} (hv : IsL 16 RPt v r) : Pu P 115 [v, .int .i64 least, .bool closed] (IsB (ringOk least closed r)) := by
  refine g.pu (vf := v115) rfl rfl ?_
  simp +contextual (maxSteps := 2000000) only [v115, hv.len, RX, VOp.fresh, bxC, bsC, un, most, callsOf, seval, Int.reducePow, ↓reduceIte, Nat.reduceEqDiff, reduceCtorEq]
  repeat' (first | apply And.intro | intro _)
  all_goals first
    | (rename_i hok; unfold ringOk at hok; omega)
    | skip
  refine ring_loop g hv (least := least) (closed := closed) (by omega) r.length 0 _ _ _ _ (by omega) ?_ ?_ ?_ ?_ ?_ ?_ ?_
  · simp only [sg_set, Nat.reduceEqDiff, ↓reduceIte]
  · simp only [sg_set, Nat.reduceEqDiff, ↓reduceIte]
  · simp only [sg_set, Nat.reduceEqDiff, ↓reduceIte]
  · simp only [sg_set, Nat.reduceEqDiff, ↓reduceIte]
  · simp only [sg_set, Nat.reduceEqDiff, ↓reduceIte]
    rfl
  · intro hall s' h'
    simp +contextual (maxSteps := 2000000) only [RX, VOp.fresh, bxC, bsC, un, most, callsOf, seval, Int.reducePow, ↓reduceIte, Nat.reduceEqDiff, reduceCtorEq]
    exact ⟨by omega, by omega, fun i hi => hall i (by omega) hi⟩
  · intro hn s' h' h4
    simp +contextual (maxSteps := 2000000) only [h4, RX, VOp.fresh, bxC, bsC, un, most, callsOf, seval, Int.reducePow, ↓reduceIte, Nat.reduceEqDiff, reduceCtorEq]
    intro hok
    exact hn fun j _ hj => hok.2.2 j hj
theorem getRing {v : AV} {l : List (List Pt)} (h : IsL 24 RRing v l) (i : Nat) (hi : i < l.length) : ∃ rv r, IsL 16 RPt rv (l.getD i []) ∧ AV.tolds r = true ∧ ∀ (hh : Heap) (kk : IntKind), iaV hh 1 none v (.int kk (i : Int)) = .val (.rp (rv :: r)) hh := by
  obtain ⟨ci, r, ⟨rv, e, hr⟩, ht, hia⟩ := h.get zRing tRing i hi
  have : l.getD i [] = l[i] := by simp [List.getD_eq_getElem?_getD, List.getElem?_eq_getElem hi]
  refine ⟨rv, r, by rw [this]; exact hr, ?_, fun hh kk => ?_⟩
  · rw [e] at ht
    simp only [AV.tolds, List.cons_append, List.nil_append, Bool.and_eq_true] at ht
    exact ht.2
  · rw [hia, e]; rfl
theorem tolds1 {b : Nat} {α : Type} {R : α → List AV → Prop} {v : AV} {l : List α} (h : IsL b R v l) (ht : ∀ a c, R a c → AV.tolds c = true) : AV.tolds [v] = true := by
  simp [AV.tolds, h.told ht]
theorem mayRing_pu (g : Pg P tab) {r : List Pt} {v : AV} (hv : IsL 16 RPt v r) : Pu P 117 [v] (IsB (¬ ringOk 3 true r)) := by
  refine g.pu (vf := v117) rfl rfl ?_
  simp +contextual (maxSteps := 2000000) only [v117, RX, VOp.fresh, bxC, bsC, un, most, callsOf, seval, Int.reducePow, ↓reduceIte, Nat.reduceEqDiff, reduceCtorEq]
  refine (ring_pu g hv).go (by simp [AV.tolds, AV.told, hv.told tPt]) ?_
  rintro x ⟨b, rfl, hb⟩
  cases b <;> simp +contextual (maxSteps := 2000000) only [RX, VOp.fresh, bxC, bsC, un, most, callsOf, seval, Int.reducePow, ↓reduceIte, Nat.reduceEqDiff, reduceCtorEq] <;> simpa using hb
theorem indexFunc_loop (g : Pg P tab) {l : List (List Pt)} {v : AV} (hv : IsL 24 RRing v l) (n : Nat) :
    ∀ (i : Nat) (s : T AV) (hh : Heap) (k : List Fr) (Q : Ex → T AV → Heap → Prop), i + n = l.length → sg s 0 = v → sg s 1 = .fn 117 [] → sg s 7 = .int .i64 l.length → sg s 8 = .int .i64 i →
      ((∀ j, i ≤ j → j < l.length → ringOk 3 true (l.getD j [])) → ∀ s', Un P k Q (.exit 0) s' hh) → (∀ j, i ≤ j → j < l.length → ¬ ringOk 3 true (l.getD j []) → ∀ s', sg s' 4 = .int .i64 j → Un P k Q .ret s' hh) → Lp P b128_0 s hh (Un P k Q) := by
  have hb := hv.bound (by decide)
  induction n with
  | zero =>
    intro i s hh k Q hi h0 h1 h7 h8 hK hR
    refine g.lpe b128_0.eq_1 ?_
    have c1 : ¬ ((i : Int) < (l.length : Int)) := by omega
    simp only [h7, h8, c1, RX, VOp.fresh, bxC, bsC, un, most, callsOf, seval, Int.reducePow, ↓reduceIte, Nat.reduceEqDiff, reduceCtorEq]
    exact hK (fun j h1 h2 => by omega) _
  | succ n ih =>
    intro i s hh k Q hi h0 h1 h7 h8 hK hR
    refine g.lpe b128_0.eq_1 ?_
    have c1 : (i : Int) < (l.length : Int) := by omega
    obtain ⟨rv, r1, hrv, _, g1⟩ := getRing hv i (by omega)
    have w1 : IntKind.i64.wrap ((i : Int) + 1) = ((i + 1 : Nat) : Int) := by rw [w64 (by omega) (by omega)]; push_cast; rfl
    simp only [h0, h1, h7, h8, c1, g1, RX, VOp.fresh, bxC, bsC, un, most, callsOf, seval, Int.reducePow, ↓reduceIte, Nat.reduceEqDiff, reduceCtorEq]
    refine (mayRing_pu g hrv).go (tolds1 hrv tPt) ?_
    rintro x ⟨b, rfl, hbb⟩
    cases b
    · simp only [h8, w1, RX, VOp.fresh, bxC, bsC, un, most, callsOf, seval, Int.reducePow, ↓reduceIte, Nat.reduceEqDiff, reduceCtorEq]
      have hok : ringOk 3 true (l.getD i []) := by
        apply Classical.byContradiction
        intro hn
        exact absurd (hbb.2 hn) (by simp)
      refine ih (i + 1) _ hh k Q (by omega) ?_ ?_ ?_ ?_ (fun hall => hK fun j h1 h2 => ?_) (fun j h1 h2 => hR j (by omega) h2)
      · simp only [h0, sg_set, Nat.reduceEqDiff, ↓reduceIte]
      · simp only [h1, sg_set, Nat.reduceEqDiff, ↓reduceIte]
      · simp only [h7, sg_set, Nat.reduceEqDiff, ↓reduceIte]
      · simp only [sg_set, Nat.reduceEqDiff, ↓reduceIte]
      · rcases Nat.lt_or_ge i j with h | h
        · exact hall j h h2
        · have : j = i := by omega
          subst this; exact hok
    · simp only [h8, RX, VOp.fresh, bxC, bsC, un, most, callsOf, seval, Int.reducePow, ↓reduceIte, Nat.reduceEqDiff, reduceCtorEq]
      exact hR i (Nat.le_refl _) (by omega) (hbb.1 rfl) _ (by simp only [sg_set, Nat.reduceEqDiff, ↓reduceIte])
theorem indexFunc_pu (g : Pg P tab) {l : List (List Pt)} {v : AV} (hv : IsL 24 RRing v l) : Pu P 128 [v, .fn 117 []] (fun x => ∃ n : Int, x = .int .i64 n ∧ (0 ≤ n ↔ ¬ ∀ i, i < l.length → ringOk 3 true (l.getD i []))) := by
  refine g.pu (vf := v128) rfl rfl ?_
  simp only [v128, hv.len, RX, VOp.fresh, bxC, bsC, un, most, callsOf, seval, Int.reducePow, ↓reduceIte, Nat.reduceEqDiff, reduceCtorEq]
  refine indexFunc_loop g hv l.length 0 _ _ _ _ (by omega) ?_ ?_ ?_ ?_ ?_ ?_
  · simp only [sg_set, Nat.reduceEqDiff, ↓reduceIte]
  · simp only [sg_set, Nat.reduceEqDiff, ↓reduceIte]
  · simp only [sg_set, Nat.reduceEqDiff, ↓reduceIte]
  · simp only [sg_set, Nat.reduceEqDiff, ↓reduceIte]
    rfl
  · intro hall s'
    simp only [RX, VOp.fresh, bxC, bsC, un, most, callsOf, seval, Int.reducePow, ↓reduceIte, Nat.reduceEqDiff, reduceCtorEq]
    exact ⟨-1, rfl, by simp; exact fun i hi => hall i (by omega) hi⟩
  · intro j _ hj hn s' h4
    simp only [h4, RX, VOp.fresh, bxC, bsC, un, most, callsOf, seval, Int.reducePow, ↓reduceIte, Nat.reduceEqDiff, reduceCtorEq]
    exact ⟨j, rfl, ⟨fun _ h => hn (h j hj), fun _ => by omega⟩⟩
theorem containsFunc_pu (g : Pg P tab) {l : List (List Pt)} {v : AV} (hv : IsL 24 RRing v l) : Pu P 116 [v, .fn 117 []] (IsB (¬ ∀ i, i < l.length → ringOk 3 true (l.getD i []))) := by
  refine g.pu (vf := v116) rfl rfl ?_
  simp only [v116, RX, VOp.fresh, bxC, bsC, un, most, callsOf, seval, Int.reducePow, ↓reduceIte, Nat.reduceEqDiff, reduceCtorEq]
  refine (indexFunc_pu g hv).go (by simp [AV.tolds, AV.told, hv.told tRing]) ?_
  rintro x ⟨n, rfl, hn⟩
  simp only [RX, VOp.fresh, bxC, bsC, un, most, callsOf, seval, Int.reducePow, ↓reduceIte, Nat.reduceEqDiff, reduceCtorEq]
  exact hn
def featOk (f : Feat) : Prop := 1 ≤ f.id ∧ f.id ≤ 65535 ∧ 1 ≤ f.rings.length ∧ f.rings.length ≤ 4 ∧
  ((f.shape = 0 ∧ f.rings.length = 1 ∧ (f.rings.getD 0 []).length = 1 ∧ ptOk ((f.rings.getD 0 []).getD 0 ⟨0, 0⟩)) ∨ (f.shape = 1 ∧ f.rings.length = 1 ∧ ringOk 2 false (f.rings.getD 0 [])) ∨ (f.shape = 2 ∧ ∀ i, i < f.rings.length → ringOk 3 true (f.rings.getD i [])))
theorem shapeMay_pu (g : Pg P tab) {f : Feat} {v : AV} (hv : IsL 24 RRing v f.rings) : Pu P 88 [.agg [.int .i64 f.id, .int .i64 f.shape, v]] (IsB (featOk f)) := by
  refine g.pu (vf := v88) rfl rfl ?_
  have hb := hv.bound (by decide)
  by_cases h0 : 0 < f.rings.length
  · obtain ⟨rv, r1, hrv, t1, g1⟩ := getRing hv 0 h0
    simp only [Int.natCast_zero, Int.ofNat_zero, Int.ofNat_eq_natCast] at g1
    by_cases h1 : 0 < (f.rings.getD 0 []).length
    · obtain ⟨r2, t2, g2⟩ := getPt hrv 0 h1
      simp only [Int.natCast_zero, Int.ofNat_zero, Int.ofNat_eq_natCast] at g2
      simp +contextual (maxSteps := 2000000) only [v88, hv.len, hrv.len, g1, g2, RX, VOp.fresh, bxC, bsC, un, most, callsOf, seval, Int.reducePow, ↓reduceIte, Nat.reduceEqDiff, reduceCtorEq]
      repeat' (first | apply And.intro | intro _)
      all_goals first
        | (rename_i hok; obtain ⟨a1, a2, a3, a4, ⟨b1, b2, b3, b4⟩ | ⟨b1, b2, b3⟩ | ⟨b1, b2⟩⟩ := hok <;> omega)
        | (refine (pointMay_pu g _).go rfl ?_
           rintro x rfl
           simp +contextual (maxSteps := 2000000) only [RX, VOp.fresh, bxC, bsC, un, most, callsOf, seval, Int.reducePow, ↓reduceIte, Nat.reduceEqDiff, reduceCtorEq]
           exact ⟨fun h => ⟨by omega, by omega, by omega, by omega, .inl ⟨by omega, by omega, by omega, h⟩⟩, fun hok => by obtain ⟨a1, a2, a3, a4, ⟨b1, b2, b3, b4⟩ | ⟨b1, b2, b3⟩ | ⟨b1, b2⟩⟩ := hok <;> first | assumption | omega⟩)
        | (refine (ring_pu g hrv).go (by simp [AV.tolds, AV.told, hrv.told tPt]) ?_
           rintro x ⟨b, rfl, hbb⟩
           simp +contextual (maxSteps := 2000000) only [RX, VOp.fresh, bxC, bsC, un, most, callsOf, seval, Int.reducePow, ↓reduceIte, Nat.reduceEqDiff, reduceCtorEq]
           rw [hbb]
           exact ⟨fun h => ⟨by omega, by omega, by omega, by omega, .inr (.inl ⟨by omega, by omega, h⟩)⟩, fun hok => by obtain ⟨a1, a2, a3, a4, ⟨b1, b2, b3, b4⟩ | ⟨b1, b2, b3⟩ | ⟨b1, b2⟩⟩ := hok <;> first | assumption | omega⟩)
        | (refine (containsFunc_pu g hv).go (by simp [AV.tolds, AV.told, hv.told tRing]) ?_
           rintro x ⟨b, rfl, hbb⟩
           cases b <;> simp +contextual (maxSteps := 2000000) only [RX, VOp.fresh, bxC, bsC, un, most, callsOf, seval, Int.reducePow, ↓reduceIte, Nat.reduceEqDiff, reduceCtorEq]
           · exact ⟨by omega, by omega, by omega, by omega, .inr (.inr ⟨by omega, Classical.byContradiction fun hn => absurd (hbb.2 hn) (by simp)⟩)⟩
           · intro hok; obtain ⟨a1, a2, a3, a4, ⟨b1, b2, b3, b4⟩ | ⟨b1, b2, b3⟩ | ⟨b1, b2⟩⟩ := hok <;> first | exact hbb.1 rfl b2 | omega)
        | trace_state
    · have e1 : (f.rings.getD 0 []).length = 0 := by omega
      simp +contextual (maxSteps := 2000000) only [v88, hv.len, hrv.len, g1, e1, RX, VOp.fresh, bxC, bsC, un, most, callsOf, seval, Int.reducePow, ↓reduceIte, Nat.reduceEqDiff, reduceCtorEq]
      repeat' (first | apply And.intro | intro _)
      all_goals first
        | (rename_i hok; obtain ⟨a1, a2, a3, a4, ⟨b1, b2, b3, b4⟩ | ⟨b1, b2, b3⟩ | ⟨b1, b2⟩⟩ := hok <;> omega)
        | (refine (ring_pu g hrv).go (by simp [AV.tolds, AV.told, hrv.told tPt]) ?_
           rintro x ⟨b, rfl, hbb⟩
           simp +contextual (maxSteps := 2000000) only [RX, VOp.fresh, bxC, bsC, un, most, callsOf, seval, Int.reducePow, ↓reduceIte, Nat.reduceEqDiff, reduceCtorEq]
           rw [hbb]
           exact ⟨fun h => ⟨by omega, by omega, by omega, by omega, .inr (.inl ⟨by omega, by omega, h⟩)⟩, fun hok => by obtain ⟨a1, a2, a3, a4, ⟨b1, b2, b3, b4⟩ | ⟨b1, b2, b3⟩ | ⟨b1, b2⟩⟩ := hok <;> first | assumption | omega⟩)
        | (refine (containsFunc_pu g hv).go (by simp [AV.tolds, AV.told, hv.told tRing]) ?_
           rintro x ⟨b, rfl, hbb⟩
           cases b <;> simp +contextual (maxSteps := 2000000) only [RX, VOp.fresh, bxC, bsC, un, most, callsOf, seval, Int.reducePow, ↓reduceIte, Nat.reduceEqDiff, reduceCtorEq]
           · exact ⟨by omega, by omega, by omega, by omega, .inr (.inr ⟨by omega, Classical.byContradiction fun hn => absurd (hbb.2 hn) (by simp)⟩)⟩
           · intro hok; obtain ⟨a1, a2, a3, a4, ⟨b1, b2, b3, b4⟩ | ⟨b1, b2, b3⟩ | ⟨b1, b2⟩⟩ := hok <;> first | exact hbb.1 rfl b2 | omega)
        | trace_state
  · have e0 : f.rings.length = 0 := by omega
    have c1 : (f.rings.length : Int) < 1 := by omega
    simp +contextual (maxSteps := 2000000) only [v88, hv.len, c1, RX, VOp.fresh, bxC, bsC, un, most, callsOf, seval, Int.reducePow, ↓reduceIte, Nat.reduceEqDiff, reduceCtorEq]
    repeat' (first | apply And.intro | intro _)
    all_goals (rename_i hok; obtain ⟨a1, a2, a3, a4, _⟩ := hok; omega)
end
end Go.Proofs.Ythmkenkjfmbkiaa.VM
namespace Go.Proofs.Ythmkenkjfmbkiaa.VM
attribute [local irreducible] Af Nx EvO Ev Un Gd Cd EvR EvQ EvC Nc Gc Lp EvM NxM AfM GdM EvMR EvMQ EvMD EvMC Nm Gm
def opOk (nodes : Int) (o : Op) : Prop := (o.kind = 0 ∧ featOk o.f ∧ o.id = 0 ∧ mpZero o.m) ∨ (o.kind = 1 ∧ 1 ≤ o.id ∧ o.id ≤ 65535 ∧ ftZero o.f ∧ mpZero o.m) ∨ (o.kind = 2 ∧ mpOk nodes o.m ∧ o.id = 0 ∧ ftZero o.f)
def opId (o : Op) : Int := if o.kind = 0 then o.f.id else o.id
def op0 : Op := ⟨0, ⟨0, 0, []⟩, 0, ⟨0, [], []⟩⟩
section
variable {P : Program}
theorem opMay_pu (g : Pg P tab) {nodes : Int} {o : Op} {c r : List AV} (hc : ROp o c) (hr : AV.tolds r = true) : Pu P 73 [.rp (c ++ r), .int .i64 nodes] (IsB (opOk nodes o)) := by
  refine g.pu (vf := v73) rfl rfl ?_
  obtain ⟨v, a, u, rfl, _, _, _, hv, _, _, ha, hu⟩ := hc
  have tv := hv.told tRing
  have ta := ha.told tInt
  have tu := hu.told tInt
  simp +contextual (maxSteps := 2000000) only [v73, RX, VOp.fresh, bxC, bsC, un, most, callsOf, seval, Int.reducePow, ↓reduceIte, Nat.reduceEqDiff, reduceCtorEq]
  repeat' (first | apply And.intro | intro _)
  · -- a put
    refine (shapeMay_pu g hv).go (by simp [AV.tolds, AV.told, tv]) ?_
    rintro x ⟨b, rfl, hb⟩
    cases b
    · simp +contextual (maxSteps := 2000000) only [RX, VOp.fresh, bxC, bsC, un, most, callsOf, seval, Int.reducePow, ↓reduceIte, Nat.reduceEqDiff, reduceCtorEq]
      rintro (⟨h1, h2, h3, h4⟩ | ⟨h1, _⟩ | ⟨h1, _⟩)
      · exact absurd (hb.2 h2) (by simp)
      · omega
      · omega
    · simp +contextual (maxSteps := 2000000) only [RX, VOp.fresh, bxC, bsC, un, most, callsOf, seval, Int.reducePow, ↓reduceIte, Nat.reduceEqDiff, reduceCtorEq]
      repeat' (first | apply And.intro | intro _)
      · refine (noMap_pu g ha hu _).go (by simp [AV.tolds, AV.told, ta, tu, hr]) ?_
        rintro x ⟨b, rfl, hb2⟩
        simp +contextual (maxSteps := 2000000) only [RX, VOp.fresh, bxC, bsC, un, most, callsOf, seval, Int.reducePow, ↓reduceIte, Nat.reduceEqDiff, reduceCtorEq]
        rw [hb2]
        exact ⟨fun h => .inl ⟨by assumption, hb.1 rfl, by assumption, h⟩, fun h => by rcases h with ⟨_, _, _, h4⟩ | ⟨h1, _⟩ | ⟨h1, _⟩ <;> first | exact h4 | omega⟩
      · rename_i hok
        rcases hok with ⟨_, _, h3, _⟩ | ⟨h1, _⟩ | ⟨h1, _⟩ <;> first | contradiction | omega
  · -- a delete
    refine (noFeature_pu g hv _).go (by simp [AV.tolds, AV.told, tv, ta, tu, hr]) ?_
    rintro x ⟨b, rfl, hb⟩
    cases b
    · simp +contextual (maxSteps := 2000000) only [RX, VOp.fresh, bxC, bsC, un, most, callsOf, seval, Int.reducePow, ↓reduceIte, Nat.reduceEqDiff, reduceCtorEq]
      rintro (⟨h1, _⟩ | ⟨h1, h2, h3, h4, h5⟩ | ⟨h1, _⟩)
      · omega
      · exact absurd (hb.2 h4) (by simp)
      · omega
    · simp +contextual (maxSteps := 2000000) only [RX, VOp.fresh, bxC, bsC, un, most, callsOf, seval, Int.reducePow, ↓reduceIte, Nat.reduceEqDiff, reduceCtorEq]
      refine (noMap_pu g ha hu _).go (by simp [AV.tolds, AV.told, ta, tu, hr]) ?_
      rintro x ⟨b, rfl, hb2⟩
      simp +contextual (maxSteps := 2000000) only [RX, VOp.fresh, bxC, bsC, un, most, callsOf, seval, Int.reducePow, ↓reduceIte, Nat.reduceEqDiff, reduceCtorEq]
      rw [hb2]
      exact ⟨fun h => .inr (.inl ⟨by assumption, by omega, by omega, hb.1 rfl, h⟩), fun h => by rcases h with ⟨h1, _⟩ | ⟨_, _, _, _, h4⟩ | ⟨h1, _⟩ <;> first | exact h4 | omega⟩
  · rename_i hok
    rcases hok with ⟨h1, _⟩ | ⟨h1, _⟩ | ⟨h1, _⟩ <;> omega
  · rename_i hok
    rcases hok with ⟨h1, _⟩ | ⟨h1, _⟩ | ⟨h1, _⟩ <;> omega
  · -- a map
    refine (mapMay_pu g ha hu).go (by simp [AV.tolds, AV.told, ta, tu]) ?_
    rintro x ⟨b, rfl, hb⟩
    cases b
    · simp +contextual (maxSteps := 2000000) only [RX, VOp.fresh, bxC, bsC, un, most, callsOf, seval, Int.reducePow, ↓reduceIte, Nat.reduceEqDiff, reduceCtorEq]
      rintro (⟨h1, _⟩ | ⟨h1, _⟩ | ⟨h1, h2, h3, h4⟩)
      · omega
      · omega
      · exact absurd (hb.2 h2) (by simp)
    · simp +contextual (maxSteps := 2000000) only [RX, VOp.fresh, bxC, bsC, un, most, callsOf, seval, Int.reducePow, ↓reduceIte, Nat.reduceEqDiff, reduceCtorEq]
      repeat' (first | apply And.intro | intro _)
      · refine (noFeature_pu g hv _).go (by simp [AV.tolds, AV.told, tv, ta, tu, hr]) ?_
        rintro x ⟨b, rfl, hb2⟩
        simp +contextual (maxSteps := 2000000) only [RX, VOp.fresh, bxC, bsC, un, most, callsOf, seval, Int.reducePow, ↓reduceIte, Nat.reduceEqDiff, reduceCtorEq]
        rw [hb2]
        exact ⟨fun h => .inr (.inr ⟨by assumption, hb.1 rfl, by assumption, h⟩), fun h => by rcases h with ⟨h1, _⟩ | ⟨h1, _⟩ | ⟨_, _, _, h4⟩ <;> first | exact h4 | omega⟩
      · rename_i hok
        rcases hok with ⟨h1, _⟩ | ⟨h1, _⟩ | ⟨_, _, h3, _⟩ <;> first | contradiction | omega
  · rename_i hok
    rcases hok with ⟨h1, _⟩ | ⟨h1, _⟩ | ⟨h1, _⟩ <;> contradiction
theorem opId_pu (g : Pg P tab) {o : Op} {c r : List AV} (hc : ROp o c) : Pu P 74 [.rp (c ++ r)] (fun x => x = .int .i64 (opId o)) := by
  refine g.pu (vf := v74) rfl rfl ?_
  obtain ⟨v, a, u, rfl, _⟩ := hc
  simp +contextual (maxSteps := 2000000) only [v74, opId, RX, VOp.fresh, bxC, bsC, un, most, callsOf, seval, Int.reducePow, ↓reduceIte, Nat.reduceEqDiff, reduceCtorEq]
theorem getOp {v : AV} {l : List Op} (h : IsL 112 ROp v l) (i : Nat) (hi : i < l.length) : ∃ c r, ROp (l.getD i op0) c ∧ AV.tolds c = true ∧ AV.tolds r = true ∧ ∀ (hh : Heap) (kk : IntKind), iaV hh 8 none v (.int kk (i : Int)) = .val (.rp (c ++ r)) hh := by
  obtain ⟨ci, r, hr, ht, hia⟩ := h.get zOp tOp i hi
  have : l.getD i op0 = l[i] := by simp [List.getD_eq_getElem?_getD, List.getElem?_eq_getElem hi]
  rw [Cat.told.tolds_append, Bool.and_eq_true] at ht
  exact ⟨ci, r, by rw [this]; exact hr, ht.1, ht.2, hia⟩
def opsAt (nodes : Int) (l : List Op) (i : Nat) : Prop := opOk nodes (l.getD i op0) ∧ ((l.getD i op0).kind = 2 → i = 0) ∧ (0 < opId (l.getD i op0) → ∀ j, j < i → opId (l.getD j op0) ≠ opId (l.getD i op0))
def opsOk (nodes : Int) (l : List Op) : Prop := 1 ≤ l.length ∧ l.length ≤ 32 ∧ ∀ i, i < l.length → opsAt nodes l i
/-- the ids that were seen -/
def idsTo (l : List Op) : Nat → List Int
  | 0 => []
  | i + 1 => if 0 < opId (l.getD i op0) then idsTo l i ++ [opId (l.getD i op0)] else idsTo l i
theorem idsTo_mem (l : List Op) (x : Int) : ∀ i, x ∈ idsTo l i ↔ 0 < x ∧ ∃ j, j < i ∧ opId (l.getD j op0) = x
  | 0 => by simp [idsTo]
  | i + 1 => by
    unfold idsTo
    have ih := idsTo_mem l x i
    split
    · rename_i h
      rw [List.mem_append, ih, List.mem_singleton]
      constructor
      · rintro (⟨a, j, b, c⟩ | rfl)
        · exact ⟨a, j, by omega, c⟩
        · exact ⟨h, i, by omega, rfl⟩
      · rintro ⟨a, j, b, c⟩
        rcases Nat.lt_or_ge j i with h' | h'
        · exact .inl ⟨a, j, h', c⟩
        · have : j = i := by omega
          subst this; exact .inr c.symm
    · rename_i h
      rw [ih]
      constructor
      · rintro ⟨a, j, b, c⟩; exact ⟨a, j, by omega, c⟩
      · rintro ⟨a, j, b, c⟩
        refine ⟨a, j, ?_, c⟩
        rcases Nat.lt_or_ge j i with h' | h'
        · exact h'
        · have : j = i := by omega
          subst this; omega
def seenE (ids : List Int) : List (AV × AV) := ids.map fun x => (.int .i64 x, .bool true)
theorem findE_seen (x : Int) : ∀ ids : List Int, findE .int (.int .i64 x) (seenE ids) = some (if x ∈ ids then some (.bool true) else none)
  | [] => rfl
  | y :: ids => by
    show (match sameK .int (.int .i64 x) (.int .i64 y) with | some true => some (some (AV.bool true)) | some false => findE .int (.int .i64 x) (seenE ids) | none => none) = _
    have : sameK .int (.int .i64 x) (.int .i64 y) = some (decide (x = y)) := by simp [sameK]
    rw [this]
    by_cases e : x = y
    · simp [e]
    · simp [e, findE_seen x ids]
theorem updE_seen {x : Int} : ∀ {ids : List Int}, x ∉ ids → updE .int (.int .i64 x) (.bool true) (seenE ids) = seenE (ids ++ [x])
  | [], _ => rfl
  | y :: ids, h => by
    have hne : x ≠ y := fun e => h (by rw [e]; exact .head _)
    have : sameK .int (.int .i64 x) (.int .i64 y) = some (decide (x = y)) := by simp [sameK]
    show (match sameK .int (.int .i64 x) (.int .i64 y) with | some true => (AV.int .i64 x, AV.bool true) :: seenE ids | _ => (AV.int .i64 y, AV.bool true) :: updE .int (.int .i64 x) (.bool true) (seenE ids)) = _
    rw [this, decide_eq_false hne]
    simp only [updE_seen (fun hm => h (.tail _ hm))]
    rfl
theorem lkB_seen {hh : Heap} {x : Int} {ids : List Int} {ver : Nat} : lkB .int (.bool false) false hh (.int .i64 x) (some (.map (seenE ids) ver)) = .val (.bool (decide (x ∈ ids))) hh := by
  simp only [lkB, findE_seen]
  by_cases h : x ∈ ids <;> simp [h]
theorem muB_seen {hh : Heap} {b : Nat} {x : Int} {ids : List Int} {ver : Nat} (h : x ∉ ids) : muB .int hh b (.int .i64 x) (.bool true) (some (.map (seenE ids) ver)) = .val .undef (hh.put b (.map (seenE (ids ++ [x])) (ver + 1))) := by
  simp only [muB, findE_seen, updE_seen h]
theorem opsMay_loop (g : Pg P tab) {nodes : Int} {l : List Op} {v : AV} (hv : IsL 112 ROp v l) (hl : l.length ≤ 32) (b : Nat) (n : Nat) :
    ∀ (i : Nat) (s : T AV) (hh : Heap) (ver : Nat) (k : List Fr) (Q : Ex → T AV → Heap → Prop), i + n = l.length → sg s 0 = v → sg s 1 = .int .i64 nodes → sg s 5 = .map b → sg s 19 = .int .i64 l.length → sg s 20 = .int .i64 i →
      hh.get b = some (.map (seenE (idsTo l i)) ver) →
      ((∀ j, i ≤ j → j < l.length → opsAt nodes l j) → ∀ s' h', Un P k Q (.exit 0) s' h') → ((¬ ∀ j, i ≤ j → j < l.length → opsAt nodes l j) → ∀ s' h', sg s' 4 = .bool false → Un P k Q .ret s' h') → Lp P b47_0 s hh (Un P k Q) := by
  induction n with
  | zero =>
    intro i s hh ver k Q hi h0 h1 h5 h19 h20 hg hK hR
    refine g.lpe b47_0.eq_1 ?_
    have c1 : ¬ ((i : Int) < (l.length : Int)) := by omega
    simp only [h19, h20, c1, RX, VOp.fresh, bxC, bsC, un, most, callsOf, seval, Int.reducePow, ↓reduceIte, Nat.reduceEqDiff, reduceCtorEq]
    exact hK (fun j h1 h2 => by omega) _ _
  | succ n ih =>
    intro i s hh ver k Q hi h0 h1 h5 h19 h20 hg hK hR
    refine g.lpe b47_0.eq_1 ?_
    have c1 : (i : Int) < (l.length : Int) := by omega
    obtain ⟨c, r, hc, tc, tr, g1⟩ := getOp hv i (by omega)
    have w1 : IntKind.i64.wrap ((i : Int) + 1) = ((i + 1 : Nat) : Int) := by rw [w64 (by omega) (by omega)]; push_cast; rfl
    have next : opsAt nodes l i → ∀ (s' : T AV) (h' : Heap) (ver' : Nat), sg s' 0 = v → sg s' 1 = .int .i64 nodes → sg s' 5 = .map b → sg s' 19 = .int .i64 l.length → sg s' 20 = .int .i64 ((i + 1 : Nat) : Int) →
        h'.get b = some (.map (seenE (idsTo l (i + 1))) ver') → Lp P b47_0 s' h' (Un P k Q) := by
      intro hok s' h' ver' a1 a2 a3 a4 a5 a6
      refine ih (i + 1) s' h' ver' k Q (by omega) a1 a2 a3 a4 a5 a6 (fun hall => hK fun j h1 h2 => ?_) (fun hn => hR fun hall => hn fun j h1 h2 => hall j (by omega) h2)
      rcases Nat.lt_or_ge i j with h | h
      · exact hall j h h2
      · have : j = i := by omega
        subst this; exact hok
    have stop : ¬ opsAt nodes l i → ∀ (s' : T AV) (h' : Heap), sg s' 4 = .bool false → Un P k Q .ret s' h' := fun hn => hR fun hall => hn (hall i (Nat.le_refl _) (by omega))
    simp only [h0, h1, h5, h19, h20, c1, g1, RX, VOp.fresh, bxC, bsC, un, most, callsOf, seval, Int.reducePow, ↓reduceIte, Nat.reduceEqDiff, reduceCtorEq]
    refine (opMay_pu g hc tr).go (by simp [AV.tolds, AV.told, Cat.told.tolds_append, tc, tr]) ?_
    rintro x ⟨ob, rfl, hob⟩
    have hid := opId_pu g (r := r) hc
    have hkind : ∃ c', c = .int .i64 (l.getD i op0).kind :: c' := by
      obtain ⟨v', a, u, rfl, _⟩ := hc
      exact ⟨_, rfl⟩
    obtain ⟨c', rfl⟩ := hkind
    cases ob
    · simp only [RX, VOp.fresh, bxC, bsC, un, most, callsOf, seval, Int.reducePow, ↓reduceIte, Nat.reduceEqDiff, reduceCtorEq]
      exact stop (fun hok => absurd (hob.2 hok.1) (by simp)) _ _ (by simp only [sg_set, Nat.reduceEqDiff, ↓reduceIte])
    · have hok := hob.1 rfl
      generalize hx : opId (l.getD i op0) = x0 at *
      have hids : idsTo l (i + 1) = if 0 < x0 then idsTo l i ++ [x0] else idsTo l i := by rw [idsTo, hx]
      by_cases hk : (l.getD i op0).kind = 2
      · rw [hk] at hid tc
        by_cases hi0 : (0 : Int) < (i : Int)
        · simp only [h0, h1, h5, h19, h20, hk, hi0, RX, VOp.fresh, bxC, bsC, un, most, callsOf, seval, Int.reducePow, ↓reduceIte, Nat.reduceEqDiff, reduceCtorEq]
          exact stop (fun hok => absurd (hok.2.1 hk) (by omega)) _ _ (by simp only [sg_set, Nat.reduceEqDiff, ↓reduceIte])
        · simp only [h0, h1, h5, h19, h20, hk, hi0, RX, VOp.fresh, bxC, bsC, un, most, callsOf, seval, Int.reducePow, ↓reduceIte, Nat.reduceEqDiff, reduceCtorEq]
          refine hid.go (by simp [AV.tolds, AV.told, Cat.told.tolds_append, tc, tr]; simpa [AV.tolds, AV.told] using tc) ?_
          rintro x rfl
          by_cases hp : 0 < x0
          · by_cases hm : x0 ∈ idsTo l i
            · simp only [h0, h1, h5, h19, h20, hp, hm, hg, lkB_seen, RX, VOp.fresh, bxC, bsC, un, most, callsOf, seval, Int.reducePow, ↓reduceIte, Nat.reduceEqDiff, reduceCtorEq]
              refine stop (fun hok => ?_) _ _ (by simp only [sg_set, Nat.reduceEqDiff, ↓reduceIte])
              obtain ⟨_, j, h1, h2⟩ := (idsTo_mem l _ i).1 hm
              exact hok.2.2 (by rw [hx]; exact hp) j h1 (by rw [hx]; exact h2)
            · simp only [h0, h1, h5, h19, h20, hp, hm, hg, lkB_seen, muB_seen hm, w1, RX, VOp.fresh, bxC, bsC, un, most, callsOf, seval, Int.reducePow, ↓reduceIte, Nat.reduceEqDiff, reduceCtorEq]
              refine next ⟨hok, fun _ => by omega, fun _ j h1 h2 => hm ((idsTo_mem l _ i).2 ⟨hp, j, h1, by rw [h2, hx]⟩)⟩ _ _ (ver + 1) ?_ ?_ ?_ ?_ ?_ ?_
              · simp only [h0, sg_set, Nat.reduceEqDiff, ↓reduceIte]
              · simp only [h1, sg_set, Nat.reduceEqDiff, ↓reduceIte]
              · simp only [h5, sg_set, Nat.reduceEqDiff, ↓reduceIte]
              · simp only [h19, sg_set, Nat.reduceEqDiff, ↓reduceIte]
              · simp only [sg_set, Nat.reduceEqDiff, ↓reduceIte]
              · rw [Heap.get_put, if_pos rfl, hids, if_pos hp]
          · simp only [h0, h1, h5, h19, h20, hp, w1, RX, VOp.fresh, bxC, bsC, un, most, callsOf, seval, Int.reducePow, ↓reduceIte, Nat.reduceEqDiff, reduceCtorEq]
            refine next ⟨hok, fun _ => by omega, fun h => absurd (by rw [hx] at h; exact h) hp⟩ _ _ ver ?_ ?_ ?_ ?_ ?_ ?_
            · simp only [h0, sg_set, Nat.reduceEqDiff, ↓reduceIte]
            · simp only [h1, sg_set, Nat.reduceEqDiff, ↓reduceIte]
            · simp only [h5, sg_set, Nat.reduceEqDiff, ↓reduceIte]
            · simp only [h19, sg_set, Nat.reduceEqDiff, ↓reduceIte]
            · simp only [sg_set, Nat.reduceEqDiff, ↓reduceIte]
            · rw [hg, hids, if_neg hp]
      · simp only [h0, h1, h5, h19, h20, hk, RX, VOp.fresh, bxC, bsC, un, most, callsOf, seval, Int.reducePow, ↓reduceIte, Nat.reduceEqDiff, reduceCtorEq]
        refine hid.go (by simp [AV.tolds, AV.told, Cat.told.tolds_append, tc, tr]; simpa [AV.tolds, AV.told] using tc) ?_
        rintro x rfl
        by_cases hp : 0 < x0
        · by_cases hm : x0 ∈ idsTo l i
          · simp only [h0, h1, h5, h19, h20, hp, hm, hg, lkB_seen, RX, VOp.fresh, bxC, bsC, un, most, callsOf, seval, Int.reducePow, ↓reduceIte, Nat.reduceEqDiff, reduceCtorEq]
            refine stop (fun hok => ?_) _ _ (by simp only [sg_set, Nat.reduceEqDiff, ↓reduceIte])
            obtain ⟨_, j, h1, h2⟩ := (idsTo_mem l _ i).1 hm
            exact hok.2.2 (by rw [hx]; exact hp) j h1 (by rw [hx]; exact h2)
          · simp only [h0, h1, h5, h19, h20, hp, hm, hg, lkB_seen, muB_seen hm, w1, RX, VOp.fresh, bxC, bsC, un, most, callsOf, seval, Int.reducePow, ↓reduceIte, Nat.reduceEqDiff, reduceCtorEq]
            refine next ⟨hok, fun h => absurd h hk, fun _ j h1 h2 => hm ((idsTo_mem l _ i).2 ⟨hp, j, h1, by rw [h2, hx]⟩)⟩ _ _ (ver + 1) ?_ ?_ ?_ ?_ ?_ ?_
            · simp only [h0, sg_set, Nat.reduceEqDiff, ↓reduceIte]
            · simp only [h1, sg_set, Nat.reduceEqDiff, ↓reduceIte]
            · simp only [h5, sg_set, Nat.reduceEqDiff, ↓reduceIte]
            · simp only [h19, sg_set, Nat.reduceEqDiff, ↓reduceIte]
            · simp only [sg_set, Nat.reduceEqDiff, ↓reduceIte]
            · rw [Heap.get_put, if_pos rfl, hids, if_pos hp]
        · simp only [h0, h1, h5, h19, h20, hp, w1, RX, VOp.fresh, bxC, bsC, un, most, callsOf, seval, Int.reducePow, ↓reduceIte, Nat.reduceEqDiff, reduceCtorEq]
          refine next ⟨hok, fun h => absurd h hk, fun h => absurd (by rw [hx] at h; exact h) hp⟩ _ _ ver ?_ ?_ ?_ ?_ ?_ ?_
          · simp only [h0, sg_set, Nat.reduceEqDiff, ↓reduceIte]
          · simp only [h1, sg_set, Nat.reduceEqDiff, ↓reduceIte]
          · simp only [h5, sg_set, Nat.reduceEqDiff, ↓reduceIte]
          · simp only [h19, sg_set, Nat.reduceEqDiff, ↓reduceIte]
          · simp only [sg_set, Nat.reduceEqDiff, ↓reduceIte]
          · rw [hg, hids, if_neg hp]
theorem opsMay_pu (g : Pg P tab) {nodes : Int} {l : List Op} {v : AV} (hv : IsL 112 ROp v l) : Pu P 47 [v, .int .i64 nodes] (IsB (opsOk nodes l)) := by
  refine g.pu (vf := v47) rfl rfl ?_
  have hb := hv.bound (by decide)
  simp +contextual (maxSteps := 2000000) only [v47, hv.len, RX, VOp.fresh, bxC, bsC, un, most, callsOf, seval, Int.reducePow, ↓reduceIte, Nat.reduceEqDiff, reduceCtorEq]
  repeat' (first | apply And.intro | intro _)
  all_goals first
    | (rename_i hok; unfold opsOk at hok; omega)
    | skip
  refine opsMay_loop (nodes := nodes) g hv (by omega) 0 l.length 0 _ _ 0 _ _ (by omega) ?_ ?_ ?_ ?_ ?_ ?_ ?_ ?_
  · simp only [sg_set, Nat.reduceEqDiff, ↓reduceIte]
  · simp only [sg_set, Nat.reduceEqDiff, ↓reduceIte]
  · simp only [sg_set, Nat.reduceEqDiff, ↓reduceIte]
  · simp only [sg_set, Nat.reduceEqDiff, ↓reduceIte]
  · simp only [sg_set, Nat.reduceEqDiff, ↓reduceIte]
    rfl
  · rw [Heap.get_mk, if_pos rfl]; rfl
  · intro hall s' h'
    simp +contextual (maxSteps := 2000000) only [RX, VOp.fresh, bxC, bsC, un, most, callsOf, seval, Int.reducePow, ↓reduceIte, Nat.reduceEqDiff, reduceCtorEq]
    exact ⟨by omega, by omega, fun i hi => hall i (by omega) hi⟩
  · intro hn s' h' h4
    simp +contextual (maxSteps := 2000000) only [h4, RX, VOp.fresh, bxC, bsC, un, most, callsOf, seval, Int.reducePow, ↓reduceIte, Nat.reduceEqDiff, reduceCtorEq]
    intro hok
    exact hn fun j _ hj => hok.2.2 j hj
end
end Go.Proofs.Ythmkenkjfmbkiaa.VM
namespace Go.Proofs.Ythmkenkjfmbkiaa.VM
attribute [local irreducible] Af Nx EvO Ev Un Gd Cd EvR EvQ EvC Nc Gc Lp EvM NxM AfM GdM EvMR EvMQ EvMD EvMC Nm Gm
section
variable {P : Program}
theorem num_pu (g : Pg P tab) (n : Int) : Pu P 17 [.int .i64 n] (fun v => v = .int .i64 n) := by
  refine g.pu (vf := v17) rfl rfl ?_
  simp +contextual (maxSteps := 2000000) (disch := omega) only [v17, RX, VOp.fresh, bxC, bsC, un, most, callsOf, seval, Int.reducePow, ↓reduceIte, Nat.reduceEqDiff, reduceCtorEq]
theorem i64c {n : Int} (a : -1000000 ≤ n) (b : n ≤ 1000000) : I64 n := ⟨by omega, by omega⟩
theorem i1 : I64 1 := i64c (by decide) (by decide)
end
end Go.Proofs.Ythmkenkjfmbkiaa.VM
namespace Go.Proofs.Ythmkenkjfmbkiaa.VM
attribute [local irreducible] Af Nx EvO Ev Un Gd Cd EvR EvQ EvC Nc Gc Lp EvM NxM AfM GdM EvMR EvMQ EvMD EvMC Nm Gm
end Go.Proofs.Ythmkenkjfmbkiaa.VM
namespace Go.Proofs.Ythmkenkjfmbkiaa.VM
attribute [local irreducible] Af Nx EvO Ev Un Gd Cd EvR EvQ EvC Nc Gc Lp EvM NxM AfM GdM EvMR EvMQ EvMD EvMC Nm Gm
def cPt (p : Pt) : List AV := [.int .i64 p.x, .int .i64 p.y]
def cRing (r : List Pt) : AV := cRow ((r.map cPt).flatten) r.length
def cRings (rs : List (List Pt)) : AV := cRow (rs.map cRing) rs.length
def cFeat (f : Feat) : List AV := [.int .i64 f.id, .int .i64 f.shape, cRings f.rings]
/-- sizes of data that stay small -/
def ringSm (r : List Pt) : Prop := r.length ≤ 1000000 ∧ ∀ p ∈ r, I64 p.x ∧ I64 p.y
def featSm (f : Feat) : Prop := I64 f.id ∧ I64 f.shape ∧ f.rings.length ≤ 1000000 ∧ ∀ r ∈ f.rings, ringSm r
theorem row_isL {α : Type} {b : Nat} {R : α → List AV → Prop} {l : List α} {c : List AV} (hb : l.length * b ≤ reachBytes) (h : Cat R l c) : IsL b R (cRow c l.length) l := by
  cases l with
  | nil => exact isL_nil b R
  | cons x l => rw [cRow_s _ (by simp)]; exact isL_rs h hb
theorem cat_map {α : Type} {R : α → List AV → Prop} {F : α → List AV} : ∀ {l : List α}, (∀ x ∈ l, R x (F x)) → Cat R l (l.map F).flatten
  | [], _ => .nil
  | x :: l, h => .cons (h x List.mem_cons_self) (cat_map fun y hy => h y (List.mem_cons_of_mem _ hy))
theorem cat_map1 {α : Type} {R : α → List AV → Prop} {F : α → AV} : ∀ {l : List α}, (∀ x ∈ l, R x [F x]) → Cat R l (l.map F)
  | [], _ => .nil
  | x :: l, h => .cons (c := [F x]) (h x List.mem_cons_self) (cat_map1 fun y hy => h y (List.mem_cons_of_mem _ hy))
theorem reach_eq : reachBytes = 140737488351232 := rfl
theorem cRing_is {r : List Pt} (h : ringSm r) : IsL 16 RPt (cRing r) r := row_isL (by rw [reach_eq]; have := h.1; omega) (cat_map fun p hp => ⟨rfl, h.2 p hp⟩)
theorem cRings_is {f : List (List Pt)} (h1 : f.length ≤ 1000000) (h2 : ∀ r ∈ f, ringSm r) : IsL 24 RRing (cRings f) f := row_isL (by rw [reach_eq]; omega) (cat_map1 fun r hr => ⟨_, rfl, cRing_is (h2 r hr)⟩)
theorem cFeat_is {f : Feat} (h : featSm f) : RFeat f (cFeat f) := ⟨_, rfl, h.1, h.2.1, cRings_is h.2.2.1 h.2.2.2⟩
end Go.Proofs.Ythmkenkjfmbkiaa.VM
namespace Go.Proofs.Ythmkenkjfmbkiaa.VM
attribute [local irreducible] Af Nx EvO Ev Un Gd Cd EvR EvQ EvC Nc Gc Lp EvM NxM AfM GdM EvMR EvMQ EvMD EvMC Nm Gm
theorem Lvs.put {h : Heap} {B : Nat → Prop} {x y : List AV} (l : Lvs h B x y) {b : Nat} (hb : ¬ B b) (o : Blk) : Lvs (h.put b o) B x y := l.frame (by rw [put_next]; exact Nat.le_refl _) fun c hc _ => by rw [Heap.get_put, if_neg (show ¬ c = b from fun e => hb (e ▸ hc))]
end Go.Proofs.Ythmkenkjfmbkiaa.VM
namespace Go.Proofs.Ythmkenkjfmbkiaa.VM
attribute [local irreducible] Af Nx EvO Ev Un Gd Cd EvR EvQ EvC Nc Gc Lp EvM NxM AfM GdM EvMR EvMQ EvMD EvMC Nm Gm
section
variable {P : Program}
theorem rMap_loop (g : Pg P tab) {nodes : Int} {m : Mp} {v u : AV} (hv : IsL 8 RInt v m.starts) (hu : IsL 8 RInt u m.owners) (hl : m.owners.length = m.starts.length) {hh : Heap} {e : TypeId} {ver : Nat} (hg : hh.get 0 = some (.cells [.int .i64 m.epoch, v, u] e ver)) (n : Nat) :
    ∀ (i : Nat) (s : T AV) (k : List Fr) (Q : Ex → T AV → Heap → Prop), i + n = m.starts.length → sg s 2 = .ptr 0 0 → sg s 1 = .int .i64 nodes → sg s 5 = .int .i64 i →
      ((∀ j, i ≤ j → j < m.starts.length → mpAt nodes m j) → ∀ s', Un P k Q (.exit 0) s' hh) → ((¬ ∀ j, i ≤ j → j < m.starts.length → mpAt nodes m j) → ∀ s', sg s' 4 = .bool false → Un P k Q .ret s' hh) → Lp P b42_0 s hh (Un P k Q) := by
  have hb := hv.bound (by decide)
  induction n with
  | zero =>
    intro i s k Q hi h2 h1 h5 hK hR
    refine g.lpe b42_0.eq_1 ?_
    have c1 : ¬ ((i : Int) < (m.starts.length : Int)) := by omega
    simp only [h2, h5, hg, hv.len, c1, RX, VOp.fresh, bxC, bsC, un, most, callsOf, seval, Int.reducePow, ↓reduceIte, Nat.reduceEqDiff, reduceCtorEq]
    exact hK (fun j h1 h2 => by omega) _
  | succ n ih =>
    intro i s k Q hi h2 h1 h5 hK hR
    refine g.lpe b42_0.eq_1 ?_
    have c1 : (i : Int) < (m.starts.length : Int) := by omega
    obtain ⟨r1, _, g1⟩ := getInt hv i (by omega)
    obtain ⟨r2, _, g2⟩ := getInt hu i (by omega)
    have w1 : IntKind.i64.wrap ((i : Int) + 1) = ((i + 1 : Nat) : Int) := by rw [w64 (by omega) (by omega)]; push_cast; rfl
    have w2 : IntKind.i64.wrap ((i : Int) - 1) = (i : Int) - 1 := w64 (by omega) (by omega)
    have no : ¬ mpAt nodes m i → ∀ s', sg s' 4 = .bool false → Un P k Q .ret s' hh := fun h => hR fun hall => h (hall i (Nat.le_refl _) (by omega))
    have step : mpAt nodes m i → ∀ s', sg s' 2 = .ptr 0 0 → sg s' 1 = .int .i64 nodes → sg s' 5 = .int .i64 (i + 1 : Nat) → Lp P b42_0 s' hh (Un P k Q) := fun hok s' a1 a0 a5 => by
      have all : (∀ j, i ≤ j → j < m.starts.length → mpAt nodes m j) ↔ ∀ j, i + 1 ≤ j → j < m.starts.length → mpAt nodes m j := ⟨fun h j h1 h2 => h j (by omega) h2, fun h j h1 h2 => by
        rcases Nat.lt_or_ge i j with h3 | h3
        · exact h j h3 h2
        · rw [show j = i by omega]; exact hok⟩
      exact ih (i + 1) _ k Q (by omega) a1 a0 a5 (fun h => hK (all.2 h)) (fun h => hR (fun h' => h (all.1 h')))
    generalize hsi : m.starts.getD i 0 = a at *
    generalize hoi : m.owners.getD i 0 = o at *
    have mp : mpAt nodes m i ↔ (a < 4294967296 ∧ (i = 0 ∨ m.starts.getD (i - 1) 0 < a) ∧ 0 ≤ o ∧ o < nodes) := by unfold mpAt; rw [hsi, hoi]
    by_cases x1 : 4294967296 ≤ a
    · simp only [h2, h1, h5, hg, hv.len, c1, g1, x1, RX, VOp.fresh, bxC, bsC, un, most, callsOf, seval, Int.reducePow, ↓reduceIte, Nat.reduceEqDiff, reduceCtorEq]
      exact no (fun h => by have := (mp.1 h).1; omega) _ (by simp only [sg_set, Nat.reduceEqDiff, ↓reduceIte])
    by_cases x2 : o < 0
    · simp only [h2, h1, h5, hg, hv.len, c1, g1, g2, x1, x2, RX, VOp.fresh, bxC, bsC, un, most, callsOf, seval, Int.reducePow, ↓reduceIte, Nat.reduceEqDiff, reduceCtorEq]
      exact no (fun h => by have := (mp.1 h).2.2.1; omega) _ (by simp only [sg_set, Nat.reduceEqDiff, ↓reduceIte])
    by_cases x3 : nodes ≤ o
    · simp only [h2, h1, h5, hg, hv.len, c1, g1, g2, x1, x2, x3, RX, VOp.fresh, bxC, bsC, un, most, callsOf, seval, Int.reducePow, ↓reduceIte, Nat.reduceEqDiff, reduceCtorEq]
      exact no (fun h => by have := (mp.1 h).2.2.2; omega) _ (by simp only [sg_set, Nat.reduceEqDiff, ↓reduceIte])
    by_cases hi0 : i = 0
    · have c2 : ¬ ((0 : Int) < (i : Int)) := by omega
      simp only [h2, h1, h5, hg, hv.len, c1, c2, g1, g2, x1, x2, x3, w1, RX, VOp.fresh, bxC, bsC, un, most, callsOf, seval, Int.reducePow, ↓reduceIte, Nat.reduceEqDiff, reduceCtorEq]
      refine step (mp.2 ⟨by omega, .inl hi0, by omega, by omega⟩) _ ?_ ?_ ?_
      · simp only [h2, sg_set, Nat.reduceEqDiff, ↓reduceIte]
      · simp only [h1, sg_set, Nat.reduceEqDiff, ↓reduceIte]
      · simp only [sg_set, Nat.reduceEqDiff, ↓reduceIte]
    · have c2 : (0 : Int) < (i : Int) := by omega
      obtain ⟨r3, _, g3⟩ := getInt hv (i - 1) (by omega)
      have ec : ((i - 1 : Nat) : Int) = (i : Int) - 1 := by omega
      rw [ec] at g3
      by_cases x4 : a ≤ m.starts.getD (i - 1) 0
      · simp only [h2, h1, h5, hg, hv.len, c1, c2, g1, g2, g3, x1, x2, x3, x4, w1, w2, RX, VOp.fresh, bxC, bsC, un, most, callsOf, seval, Int.reducePow, ↓reduceIte, Nat.reduceEqDiff, reduceCtorEq]
        exact no (fun h => by have := (mp.1 h).2.1; omega) _ (by simp only [sg_set, Nat.reduceEqDiff, ↓reduceIte])
      · simp only [h2, h1, h5, hg, hv.len, c1, c2, g1, g2, g3, x1, x2, x3, x4, w1, w2, RX, VOp.fresh, bxC, bsC, un, most, callsOf, seval, Int.reducePow, ↓reduceIte, Nat.reduceEqDiff, reduceCtorEq]
        refine step (mp.2 ⟨by omega, .inr (by omega), by omega, by omega⟩) _ ?_ ?_ ?_
        · simp only [h2, sg_set, Nat.reduceEqDiff, ↓reduceIte]
        · simp only [h1, sg_set, Nat.reduceEqDiff, ↓reduceIte]
        · simp only [sg_set, Nat.reduceEqDiff, ↓reduceIte]
theorem rMap_pu (g : Pg P tab) {nodes : Int} {m : Mp} {v u : AV} (hv : IsL 8 RInt v m.starts) (hu : IsL 8 RInt u m.owners) : Pu P 42 [.agg [.int .i64 m.epoch, v, u], .int .i64 nodes] (IsB (mpOk nodes m)) := by
  refine g.pu (vf := v42) rfl rfl ?_
  by_cases x1 : nodes < 1
  · have no : ¬ mpOk nodes m := fun h => by have := h.1; omega
    simp only [v42, x1, no, RX, VOp.fresh, bxC, bsC, un, most, callsOf, seval, Int.reducePow, ↓reduceIte, Nat.reduceEqDiff, reduceCtorEq]
  by_cases x2 : 8 < nodes
  · have no : ¬ mpOk nodes m := fun h => by have := h.2.1; omega
    simp only [v42, x1, x2, no, RX, VOp.fresh, bxC, bsC, un, most, callsOf, seval, Int.reducePow, ↓reduceIte, Nat.reduceEqDiff, reduceCtorEq]
  by_cases x3 : m.epoch < 1
  · have no : ¬ mpOk nodes m := fun h => by have := h.2.2.1; omega
    simp only [v42, x1, x2, x3, no, RX, VOp.fresh, bxC, bsC, un, most, callsOf, seval, Int.reducePow, ↓reduceIte, Nat.reduceEqDiff, reduceCtorEq]
  by_cases x4 : 65535 < m.epoch
  · have no : ¬ mpOk nodes m := fun h => by have := h.2.2.2.1; omega
    simp only [v42, x1, x2, x3, x4, no, RX, VOp.fresh, bxC, bsC, un, most, callsOf, seval, Int.reducePow, ↓reduceIte, Nat.reduceEqDiff, reduceCtorEq]
  by_cases x5 : (m.starts.length : Int) < 1
  · have no : ¬ mpOk nodes m := fun h => by have := h.2.2.2.2.1; omega
    simp only [v42, x1, x2, x3, x4, hv.len, x5, no, RX, VOp.fresh, bxC, bsC, un, most, callsOf, seval, Int.reducePow, ↓reduceIte, Nat.reduceEqDiff, reduceCtorEq]
  by_cases x6 : (32 : Int) < (m.starts.length : Int)
  · have no : ¬ mpOk nodes m := fun h => by have := h.2.2.2.2.2.1; omega
    simp only [v42, x1, x2, x3, x4, hv.len, x5, x6, no, RX, VOp.fresh, bxC, bsC, un, most, callsOf, seval, Int.reducePow, ↓reduceIte, Nat.reduceEqDiff, reduceCtorEq]
  by_cases x7 : (m.owners.length : Int) = (m.starts.length : Int)
  · obtain ⟨r1, _, g1⟩ := getInt hv 0 (by omega)
    simp only [Int.natCast_zero, Int.ofNat_zero, Int.ofNat_eq_natCast] at g1
    by_cases x8 : m.starts.getD 0 0 = 0
    · simp only [v42, x1, x2, x3, x4, hv.len, hu.len, x5, x6, x7, g1, x8, RX, VOp.fresh, bxC, bsC, un, most, callsOf, seval, Int.reducePow, ↓reduceIte, Nat.reduceEqDiff, reduceCtorEq]
      refine rMap_loop g hv hu (nodes := nodes) (by omega) (by rw [Heap.get_mk, if_pos rfl]) m.starts.length 0 _ _ _ (by omega) ?_ ?_ ?_ ?_ ?_
      · simp only [sg_set, Nat.reduceEqDiff, ↓reduceIte]
      · simp only [sg_set, Nat.reduceEqDiff, ↓reduceIte]
      · simp only [sg_set, Nat.reduceEqDiff, ↓reduceIte]
        rfl
      · intro hall s'
        simp only [RX, VOp.fresh, bxC, bsC, un, most, callsOf, seval, Int.reducePow, ↓reduceIte, Nat.reduceEqDiff, reduceCtorEq]
        exact ⟨by omega, by omega, by omega, by omega, by omega, by omega, by omega, x8, fun i hi => hall i (by omega) hi⟩
      · intro hn s' h4
        simp only [h4, RX, VOp.fresh, bxC, bsC, un, most, callsOf, seval, Int.reducePow, ↓reduceIte, Nat.reduceEqDiff, reduceCtorEq]
        exact fun h => hn fun j _ hj => h.2.2.2.2.2.2.2.2 j hj
    · have no : ¬ mpOk nodes m := fun h => x8 h.2.2.2.2.2.2.2.1
      simp only [v42, x1, x2, x3, x4, hv.len, hu.len, x5, x6, x7, g1, x8, no, RX, VOp.fresh, bxC, bsC, un, most, callsOf, seval, Int.reducePow, ↓reduceIte, Nat.reduceEqDiff, reduceCtorEq]
  · have no : ¬ mpOk nodes m := fun h => by have := h.2.2.2.2.2.2.1; omega
    simp only [v42, x1, x2, x3, x4, hv.len, hu.len, x5, x6, x7, no, RX, VOp.fresh, bxC, bsC, un, most, callsOf, seval, Int.reducePow, ↓reduceIte, Nat.reduceEqDiff, reduceCtorEq]
end
end Go.Proofs.Ythmkenkjfmbkiaa.VM
set_option linter.unusedSimpArgs false
set_option linter.unusedVariables false
set_option linter.defProp false
set_option maxHeartbeats 1000000
namespace Go.Proofs.Ythmkenkjfmbkiaa.VM
attribute [local irreducible] Af Nx EvO Ev Un Gd Cd EvR EvQ EvC Nc Gc Lp EvM NxM AfM GdM EvMR EvMQ EvMD EvMC Nm Gm
def Plain {α : Type} (R : α → List AV → Prop) (sz : Nat) : Prop := ∀ a c, R a c → c.length = sz ∧ c.all AV.one = true ∧ AV.tolds c = true ∧ AV.bares c = true
theorem Plain.cat {α : Type} {R : α → List AV → Prop} {sz : Nat} (p : Plain R sz) : ∀ {l : List α} {c : List AV}, Cat R l c → c.length = l.length * sz ∧ c.all AV.one = true ∧ AV.tolds c = true ∧ AV.bares c = true
  | _, _, .nil => ⟨by simp, rfl, rfl, rfl⟩
  | _, _, .cons h t => by
    obtain ⟨a1, a2, a3, a4⟩ := p _ _ h
    obtain ⟨b1, b2, b3, b4⟩ := p.cat t
    exact ⟨by rw [List.length_append, a1, b1, List.length_cons, Nat.add_mul]; omega, by rw [List.all_append, a2, b2]; rfl, by rw [Cat.told.tolds_append, a3, b3]; rfl, by rw [bares_app, a4, b4]; rfl⟩
theorem plainPt : Plain RPt 2 := fun a c h => by rw [h.1]; exact ⟨rfl, rfl, rfl, rfl⟩
/-- what stands is put behind an empty slice of one's own -/
theorem app_copy {α : Type} {R : α → List AV → Prop} {sz bytes : Nat} (p : Plain R sz) {x : AV} {l : List α} (hx : IsL bytes R x l) {h : Heap} {b e0 v0 : Nat} (hg : h.get b = some (.cells [] e0 v0)) (e : TypeId) :
    ∃ v h' t, appendV h sz bytes e (.sl b 0 0 0 sz) x = some (v, h') ∧ h.next ≤ h'.next ∧ (∀ c, c < h.next → c ≠ b → h'.get c = h.get c) ∧ Lv h' (fun c => h.next ≤ c) v t ∧ IsL bytes R t l ∧ v.cells = some [v] ∧ v.one = true := by
  have hbq : Nat.beq sz sz = true := by rw [Nat.beq_eq]
  have z : ∀ x : AV, l = [] → lenV x = some 0 → cellsOf h sz 0 x = some [] → ∃ v h' t, appendV h sz bytes e (.sl b 0 0 0 sz) x = some (v, h') ∧ h.next ≤ h'.next ∧ (∀ c, c < h.next → c ≠ b → h'.get c = h.get c) ∧ Lv h' (fun c => h.next ≤ c) v t ∧ IsL bytes R t l ∧ v.cells = some [v] ∧ v.one = true := by
    intro x hl h1 h2
    subst hl
    refine ⟨.sl b 0 0 0 sz, h.put b (.cells [] e0 (v0 + 1)), .rs [] 0, ?_, Nat.le_refl _, fun c _ hc => by rw [Heap.get_put, if_neg hc], ⟨[], .sl0, rfl, Own.nil, fun b hb => by simp at hb⟩, ⟨by simp, .inr ⟨[], rfl, .nil⟩⟩, rfl, rfl⟩
    simp only [appendV, h1, h2, List.length_nil, Nat.zero_mul, List.all_nil, and_self, if_true, hbq, cond_true, Nat.add_zero, Nat.le_refl, writeAt, hg, lsets]
    rfl
  obtain ⟨hb0, ⟨rfl, hl⟩ | ⟨c, rfl, hc⟩⟩ := hx
  · exact z _ hl rfl rfl
  · obtain ⟨h1, h2, h3, h4⟩ := p.cat hc
    by_cases h0 : l.length = 0
    · have hl : l = [] := List.eq_nil_of_length_eq_zero h0
      have : c = [] := List.eq_nil_of_length_eq_zero (by rw [h1, h0, Nat.zero_mul])
      subst this
      refine z _ hl (by rw [lenV, h0]) ?_
      simp [cellsOf, cut_eq]
    · have hcut : cut c 0 (l.length * sz) = some c := by rw [cut_eq, List.drop_zero, ← h1, List.take_length, if_pos rfl]
      refine ⟨.sl h.next 0 l.length l.length sz, (h.put b .dead).mk' h.next (.cells c e 0), .rs c l.length, ?_, by rw [mk_next, put_next]; omega, fun d hd hne => by rw [Heap.get_mk, if_neg (by omega), Heap.get_put, if_neg hne], ⟨[h.next], ?_, rfl, ?_, fun d hd => by simp at hd; omega⟩, ⟨hb0, .inr ⟨c, rfl, hc⟩⟩, rfl, rfl⟩
      · have hm : l.length * bytes ≤ most2 := by exact Nat.le_trans hb0 (by rw [reach_eq]; decide)
        have h5 : ¬ (l.length ≤ 0) := by omega
        have hc0 : cut ([] : List AV) 0 0 = some [] := rfl
        simp only [appendV, lenV, cellsOf, hcut, hc0, h1, h2, List.nil_append, and_self, if_true, hbq, cond_true, h5, if_false, hm, Nat.le_refl, hg, Nat.zero_mul, Nat.zero_add]
      · exact (Fd.sl (by omega) (by rw [mk_next]; omega) (by rw [Heap.get_mk, if_pos rfl]) (hcut) (Fds.tolds h3)).cast rfl
      · intro d hd
        simp only [List.mem_singleton] at hd
        subst hd
        exact ⟨c, e, 0, by rw [Heap.get_mk, if_pos rfl], h4⟩
section
variable {P : Program}
theorem Cat.take {α : Type} {R : α → List AV → Prop} {l : List α} {c d : List AV} {i : Nat} (hi : i < l.length) (h : Cat R (l.take i) c) (h' : R l[i] d) : Cat R (l.take (i + 1)) (c ++ d) := by
  rw [List.take_succ_eq_append_getElem hi]
  have := h.append (Cat.cons h' .nil)
  rwa [List.append_nil] at this
end
theorem len3 {l : List AV} (h : l.length = 3) : ∃ x y z, l = [x, y, z] := match l, h with | [x, y, z], _ => ⟨x, y, z, rfl⟩
end Go.Proofs.Ythmkenkjfmbkiaa.VM
namespace Go.Proofs.Ythmkenkjfmbkiaa.VM
attribute [local irreducible] Af Nx EvO Ev Un Gd Cd EvR EvQ EvC Nc Gc Lp EvM NxM AfM GdM EvMR EvMQ EvMD EvMC Nm Gm
section
variable {P : Program}
theorem sInts_loop (g : Pg P tab) {l : List Int} {a b : AV} (ha : IsL 8 RInt a l) (hb : IsL 8 RInt b l) (n : Nat) :
    ∀ (i : Nat) (s : T AV) (hh : Heap) (k : List Fr) (Q : Ex → T AV → Heap → Prop), i + n = l.length → sg s 0 = a → sg s 1 = b → sg s 5 = .int .i64 i → (∀ s' h', Un P k Q (.exit 0) s' h') → Lp P b30_0 s hh (Un P k Q) := by
  have hbd := ha.bound (by decide)
  induction n with
  | zero =>
    intro i s hh k Q hi h0 h1 h5 hK
    refine g.lpe b30_0.eq_1 ?_
    have c1 : ¬ ((i : Int) < (l.length : Int)) := by omega
    simp only [h0, h5, ha.len, c1, RX, VOp.fresh, bxC, bsC, un, most, callsOf, seval, Int.reducePow, ↓reduceIte, Nat.reduceEqDiff, reduceCtorEq]
    exact hK _ _
  | succ n ih =>
    intro i s hh k Q hi h0 h1 h5 hK
    refine g.lpe b30_0.eq_1 ?_
    have c1 : (i : Int) < (l.length : Int) := by omega
    obtain ⟨r1, _, g1⟩ := getInt ha i (by omega)
    obtain ⟨r2, _, g2⟩ := getInt hb i (by omega)
    have w1 : IntKind.i64.wrap ((i : Int) + 1) = ((i + 1 : Nat) : Int) := by rw [w64 (by omega) (by omega)]; push_cast; rfl
    simp only [h0, h1, h5, ha.len, c1, g1, g2, w1, RX, VOp.fresh, bxC, bsC, un, most, callsOf, seval, Int.reducePow, ↓reduceIte, Nat.reduceEqDiff, reduceCtorEq]
    refine ih (i + 1) _ _ k Q (by omega) ?_ ?_ ?_ hK
    · simp only [h0, sg_set, Nat.reduceEqDiff, ↓reduceIte]
    · simp only [h1, sg_set, Nat.reduceEqDiff, ↓reduceIte]
    · simp only [sg_set, Nat.reduceEqDiff, ↓reduceIte]
theorem sInts_pu (g : Pg P tab) {l : List Int} {a b : AV} (ha : IsL 8 RInt a l) (hb : IsL 8 RInt b l) : Pu P 30 [a, b] (fun v => v = .bool true) := by
  refine g.pu (vf := v30) rfl rfl ?_
  simp only [v30, ha.len, hb.len, RX, VOp.fresh, bxC, bsC, un, most, callsOf, seval, Int.reducePow, ↓reduceIte, Nat.reduceEqDiff, reduceCtorEq]
  refine sInts_loop g ha hb l.length 0 _ _ _ _ (by omega) ?_ ?_ ?_ fun s' h' => ?_
  · simp only [sg_set, Nat.reduceEqDiff, ↓reduceIte]
  · simp only [sg_set, Nat.reduceEqDiff, ↓reduceIte]
  · simp only [sg_set, Nat.reduceEqDiff, ↓reduceIte]
    rfl
  simp only [RX, VOp.fresh, bxC, bsC, un, most, callsOf, seval, Int.reducePow, ↓reduceIte, Nat.reduceEqDiff, reduceCtorEq]
theorem sMap_pu (g : Pg P tab) {e : Int} {l1 l2 : List Int} {a1 a2 b1 b2 : AV} (h1 : IsL 8 RInt a1 l1) (h2 : IsL 8 RInt a2 l2) (k1 : IsL 8 RInt b1 l1) (k2 : IsL 8 RInt b2 l2) : Pu P 19 [.agg [.int .i64 e, a1, a2], .agg [.int .i64 e, b1, b2]] (fun v => v = .bool true) := by
  refine g.pu (vf := v19) rfl rfl ?_
  simp only [v19, RX, VOp.fresh, bxC, bsC, un, most, callsOf, seval, Int.reducePow, ↓reduceIte, Nat.reduceEqDiff, reduceCtorEq]
  refine (sInts_pu g h1 k1).go (by simp [AV.tolds, h1.told tInt, k1.told tInt]) ?_
  rintro v rfl
  simp only [RX, VOp.fresh, bxC, bsC, un, most, callsOf, seval, Int.reducePow, ↓reduceIte, Nat.reduceEqDiff, reduceCtorEq]
  refine (sInts_pu g h2 k2).go (by simp [AV.tolds, h2.told tInt, k2.told tInt]) ?_
  rintro v rfl
  simp only [RX, VOp.fresh, bxC, bsC, un, most, callsOf, seval, Int.reducePow, ↓reduceIte, Nat.reduceEqDiff, reduceCtorEq]
end
end Go.Proofs.Ythmkenkjfmbkiaa.VM
namespace Go.Proofs.Ythmkenkjfmbkiaa.VM
attribute [local irreducible] Af Nx EvO Ev Un Gd Cd EvR EvQ EvC Nc Gc Lp EvM NxM AfM GdM EvMR EvMQ EvMD EvMC Nm Gm
end Go.Proofs.Ythmkenkjfmbkiaa.VM
namespace Go.Proofs.Ythmkenkjfmbkiaa.VM
attribute [local irreducible] Af Nx EvO Ev Un Gd Cd EvR EvQ EvC Nc Gc Lp EvM NxM AfM GdM EvMR EvMQ EvMD EvMC Nm Gm
end Go.Proofs.Ythmkenkjfmbkiaa.VM
namespace Go.Proofs.Ythmkenkjfmbkiaa.VM
attribute [local irreducible] Af Nx EvO Ev Un Gd Cd EvR EvQ EvC Nc Gc Lp EvM NxM AfM GdM EvMR EvMQ EvMD EvMC Nm Gm
theorem bares_mem : ∀ {l : List AV} {x : AV}, AV.bares l = true → x ∈ l → x.bare = true
  | y :: l, x, h, hx => by
    simp only [AV.bares, Bool.and_eq_true] at h
    rcases List.mem_cons.1 hx with rfl | hx
    · exact h.1
    · exact bares_mem h.2 hx
section
variable {h : Heap} {B : Nat → Prop}
theorem Lv.int_inv {x : AV} {k : IntKind} {m : Int} (l : Lv h B x (.int k m)) : x = .int k m := by
  obtain ⟨D, f, _⟩ := l
  cases f
  rfl
theorem Fds.get : ∀ {x y : List AV} {D : List Nat}, Fds h x y D → ∀ {j : Nat} {b : AV}, y[j]? = some b → ∃ a E, x[j]? = some a ∧ a ∈ x ∧ Fd h a b E ∧ ∀ c ∈ E, c ∈ D
  | _, _, _, .nil, j, b, e => by simp at e
  | _, _, _, .cons (x := x) (D := D) f t, 0, b, e => by
    simp only [List.getElem?_cons_zero, Option.some.injEq] at e
    subst e
    exact ⟨x, D, rfl, List.mem_cons_self, f, fun c hc => List.mem_append_left _ hc⟩
  | _, _, _, .cons f t, j + 1, b, e => by
    simp only [List.getElem?_cons_succ] at e
    obtain ⟨a, E, h1, h2, h3, h4⟩ := t.get e
    exact ⟨a, E, by simpa using h1, List.mem_cons_of_mem _ h2, h3, fun c hc => List.mem_append_right _ (h4 c hc)⟩
theorem Lvs.get {x y : List AV} (l : Lvs h B x y) {j : Nat} {b : AV} (e : y[j]? = some b) : ∃ a, x[j]? = some a ∧ Lv h B a b := by
  obtain ⟨D, f, hb, o, i⟩ := l
  obtain ⟨a, E, h1, h2, h3, h4⟩ := f.get e
  exact ⟨a, h1, E, h3, bares_mem hb h2, fun c hc => o c (h4 c hc), fun c hc => i c (h4 c hc)⟩
end
end Go.Proofs.Ythmkenkjfmbkiaa.VM
namespace Go.Proofs.Ythmkenkjfmbkiaa.VM
attribute [local irreducible] Af Nx EvO Ev Un Gd Cd EvR EvQ EvC Nc Gc Lp EvM NxM AfM GdM EvMR EvMQ EvMD EvMC Nm Gm
structure Bx where
  x0 : Int
  y0 : Int
  x1 : Int
  y1 : Int
def boxOk (b : Bx) : Prop := coordOk b.x0 ∧ coordOk b.y0 ∧ coordOk b.x1 ∧ coordOk b.y1 ∧ b.x0 ≤ b.x1 ∧ b.y0 ≤ b.y1
instance (b : Bx) : Decidable (boxOk b) := by unfold boxOk; infer_instance
def nodeOk (x : Int) : Prop := 0 ≤ x ∧ x < 8
instance (x : Int) : Decidable (nodeOk x) := by unfold nodeOk; infer_instance
section
variable {P : Program}
theorem isL_one {b : Nat} {α : Type} {R : α → List AV → Prop} {v : AV} {l : List α} (h : IsL b R v l) : v.one = true := by
  rcases h.2 with ⟨rfl, _⟩ | ⟨c, rfl, _⟩ <;> rfl
theorem zFeat (a : Feat) (c : List AV) (h : RFeat a c) : c.length = 3 := by obtain ⟨v, rfl, _⟩ := h; rfl
end
def zeroBox (b : Bx) : Prop := b.x0 = 0 ∧ b.y0 = 0 ∧ b.x1 = 0 ∧ b.y1 = 0
instance (b : Bx) : Decidable (zeroBox b) := by unfold zeroBox; infer_instance
end Go.Proofs.Ythmkenkjfmbkiaa.VM
namespace Go.Proofs.Ythmkenkjfmbkiaa.VM
attribute [local irreducible] Af Nx EvO Ev Un Gd Cd EvR EvQ EvC Nc Gc Lp EvM NxM AfM GdM EvMR EvMQ EvMD EvMC Nm Gm
end Go.Proofs.Ythmkenkjfmbkiaa.VM
namespace Go.Proofs.Ythmkenkjfmbkiaa.VM
attribute [local irreducible] Af Nx EvO Ev Un Gd Cd EvR EvQ EvC Nc Gc Lp EvM NxM AfM GdM EvMR EvMQ EvMD EvMC Nm Gm
def cFeats (l : List Feat) : AV := cRow ((l.map cFeat).flatten) l.length
def featsSm (l : List Feat) : Prop := l.length ≤ 1000000 ∧ ∀ f ∈ l, featSm f
theorem cFeats_is {l : List Feat} (h : featsSm l) : IsL 40 RFeat (cFeats l) l := row_isL (by rw [reach_eq]; have := h.1; omega) (cat_map fun f hf => cFeat_is (h.2 f hf))
end Go.Proofs.Ythmkenkjfmbkiaa.VM
namespace Go.Proofs.Ythmkenkjfmbkiaa.VM
attribute [local irreducible] Af Nx EvO Ev Un Gd Cd EvR EvQ EvC Nc Gc Lp EvM NxM AfM GdM EvMR EvMQ EvMD EvMC Nm Gm
end Go.Proofs.Ythmkenkjfmbkiaa.VM
namespace Go.Proofs.Ythmkenkjfmbkiaa.VM
attribute [local irreducible] Af Nx EvO Ev Un Gd Cd EvR EvQ EvC Nc Gc Lp EvM NxM AfM GdM EvMR EvMQ EvMD EvMC Nm Gm
/-- the stretch that has a place -/
def IxAt (l : List Int) (d : Int) (k : Nat) : Prop := k < l.length ∧ l.getD k 0 ≤ d ∧ (k + 1 < l.length → d < l.getD (k + 1) 0)
def Rise (l : List Int) : Prop := ∀ i, i + 1 < l.length → l.getD i 0 < l.getD (i + 1) 0
theorem Rise.lt {l : List Int} (h : Rise l) : ∀ {j i : Nat}, i < j → j < l.length → l.getD i 0 < l.getD j 0
  | 0, i, h1, _ => by omega
  | j + 1, i, h1, h2 => by
    have h3 := h j h2
    rcases Nat.lt_or_ge i j with h4 | h4
    · exact Int.lt_trans (Rise.lt h h4 (by omega)) h3
    · rw [show i = j by omega]; exact h3
theorem IxAt.uniq {l : List Int} {d : Int} {a b : Nat} (h : Rise l) (x : IxAt l d a) (y : IxAt l d b) : a = b := by
  obtain ⟨x1, x2, x3⟩ := x
  obtain ⟨y1, y2, y3⟩ := y
  rcases Nat.lt_trichotomy a b with c | c | c
  · have h1 := x3 (by omega)
    rcases Nat.lt_or_ge (a + 1) b with e | e
    · have := h.lt e y1; omega
    · have : a + 1 = b := by omega
      rw [this] at h1; omega
  · exact c
  · have h1 := y3 (by omega)
    rcases Nat.lt_or_ge (b + 1) a with e | e
    · have := h.lt e x1; omega
    · have : b + 1 = a := by omega
      rw [this] at h1; omega
section
variable {P : Program}
theorem nan121 (g : Pg P tab) (a : Int) : Pu P 121 [.int .i64 a] (fun v => v = .bool false) := by
  refine g.pu (vf := v121) rfl rfl ?_
  simp only [v121, RX, VOp.fresh, bxC, bsC, un, most, callsOf, seval, Int.reducePow, ↓reduceIte, Nat.reduceEqDiff, reduceCtorEq]
theorem nan102 (g : Pg P tab) (a : Int) : Pu P 102 [.int .i64 a] (fun v => v = .bool false) := by
  refine g.pu (vf := v102) rfl rfl ?_
  simp only [v102, RX, VOp.fresh, bxC, bsC, un, most, callsOf, seval, Int.reducePow, ↓reduceIte, Nat.reduceEqDiff, reduceCtorEq]
theorem less_pu (g : Pg P tab) (a b : Int) : Pu P 101 [.int .i64 a, .int .i64 b] (fun v => v = .bool (decide (a < b))) := by
  refine g.pu (vf := v101) rfl rfl ?_
  simp only [v101, RX, VOp.fresh, bxC, bsC, un, most, callsOf, seval, Int.reducePow, ↓reduceIte, Nat.reduceEqDiff, reduceCtorEq]
  refine (nan121 g _).go rfl ?_
  rintro v rfl
  simp only [RX, VOp.fresh, bxC, bsC, un, most, callsOf, seval, Int.reducePow, ↓reduceIte, Nat.reduceEqDiff, reduceCtorEq]
theorem bs_loop (g : Pg P tab) {l : List Int} {w : AV} (hw : IsL 8 RInt w l) (hr : Rise l) {d : Int} (n : Nat) : ∀ (i j : Nat) (s : T AV) (h : Heap) (k : List Fr) (Q : Ex → T AV → Heap → Prop), j ≤ i + n → i ≤ j → j ≤ l.length → (∀ a, a < i → l.getD a 0 < d) → (∀ a, j ≤ a → a < l.length → d ≤ l.getD a 0) →
    sg s 0 = w → sg s 1 = .int .i64 d → sg s 6 = .int .i64 l.length → sg s 7 = .int .i64 i → sg s 8 = .int .i64 j →
    (∀ s' m, m ≤ l.length → (∀ a, a < m → l.getD a 0 < d) → (∀ a, m ≤ a → a < l.length → d ≤ l.getD a 0) → sg s' 0 = w → sg s' 1 = .int .i64 d → sg s' 6 = .int .i64 l.length → sg s' 7 = .int .i64 m → Un P k Q (.exit 0) s' h) → Lp P b82_0 s h (Un P k Q) := by
  have hbd := hw.bound (by decide)
  induction n with
  | zero =>
    intro i j s h k Q hn hij hj hlo hhi t0 t1 t6 t7 t8 hQ
    refine g.lpe b82_0.eq_1 ?_
    obtain rfl : i = j := by omega
    have c1 : ¬ (i : Int) < (i : Int) := by omega
    simp only [t7, t8, c1, RX, VOp.fresh, bxC, bsC, un, most, callsOf, seval, Int.reducePow, ↓reduceIte, Nat.reduceEqDiff, reduceCtorEq]
    refine hQ _ i hj hlo hhi ?_ ?_ ?_ ?_
    · simp only [t0, sg_set, Nat.reduceEqDiff, ↓reduceIte]
    · simp only [t1, sg_set, Nat.reduceEqDiff, ↓reduceIte]
    · simp only [t6, sg_set, Nat.reduceEqDiff, ↓reduceIte]
    · simp only [t7, sg_set, Nat.reduceEqDiff, ↓reduceIte]
  | succ n ih =>
    intro i j s h k Q hn hij hj hlo hhi t0 t1 t6 t7 t8 hQ
    by_cases hlt : i < j
    · refine g.lpe b82_0.eq_1 ?_
      have c1 : (i : Int) < (j : Int) := by omega
      obtain ⟨m, hm⟩ : ∃ m : Nat, m = (i + j) / 2 := ⟨_, rfl⟩
      have w1 : IntKind.i64.wrap ((i : Int) + (j : Int)) = ((i + j : Nat) : Int) := by rw [w64 (by omega) (by omega)]; push_cast; rfl
      have w2 : IntKind.u64.wrap ((i + j : Nat) : Int) = ((i + j : Nat) : Int) := wu64 (by omega) (by omega)
      have w3 : ((i + j : Nat) : Int) / 2 = (m : Int) := by omega
      have w4 : IntKind.i64.wrap (m : Int) = (m : Int) := w64 (by omega) (by omega)
      have w5 : IntKind.i64.wrap ((m : Int) + 1) = ((m + 1 : Nat) : Int) := by rw [w64 (by omega) (by omega)]; push_cast; rfl
      obtain ⟨r, ht, hia⟩ := getInt hw m (by omega)
      simp only [t0, t1, t7, t8, c1, w1, w2, w3, w4, hia, RX, VOp.fresh, bxC, bsC, un, most, callsOf, seval, Int.reducePow, ↓reduceIte, Nat.reduceEqDiff, reduceCtorEq]
      refine (less_pu g _ _).go rfl ?_
      rintro v rfl
      by_cases hc : l.getD m 0 < d
      · simp only [hc, w5, RX, VOp.fresh, bxC, bsC, un, most, callsOf, seval, Int.reducePow, ↓reduceIte, Nat.reduceEqDiff, reduceCtorEq]
        refine ih (m + 1) j _ h k Q (by omega) (by omega) hj (fun a ha => ?_) hhi ?_ ?_ ?_ ?_ ?_ hQ
        · rcases Nat.lt_or_ge a m with e | e
          · exact Int.lt_trans (hr.lt e (by omega)) hc
          · rw [show a = m by omega]; exact hc
        · simp only [t0, sg_set, Nat.reduceEqDiff, ↓reduceIte]
        · simp only [t1, sg_set, Nat.reduceEqDiff, ↓reduceIte]
        · simp only [t6, sg_set, Nat.reduceEqDiff, ↓reduceIte]
        · simp only [sg_set, Nat.reduceEqDiff, ↓reduceIte]
        · simp only [t8, sg_set, Nat.reduceEqDiff, ↓reduceIte]
      · simp only [hc, RX, VOp.fresh, bxC, bsC, un, most, callsOf, seval, Int.reducePow, ↓reduceIte, Nat.reduceEqDiff, reduceCtorEq]
        refine ih i m _ h k Q (by omega) (by omega) (by omega) hlo (fun a ha hb => ?_) ?_ ?_ ?_ ?_ ?_ hQ
        · rcases Nat.lt_or_ge m a with e | e
          · have := hr.lt e hb; omega
          · rw [show a = m by omega]; omega
        · simp only [t0, sg_set, Nat.reduceEqDiff, ↓reduceIte]
        · simp only [t1, sg_set, Nat.reduceEqDiff, ↓reduceIte]
        · simp only [t6, sg_set, Nat.reduceEqDiff, ↓reduceIte]
        · simp only [t7, sg_set, Nat.reduceEqDiff, ↓reduceIte]
        · simp only [sg_set, Nat.reduceEqDiff, ↓reduceIte]
    · refine g.lpe b82_0.eq_1 ?_
      obtain rfl : i = j := by omega
      have c1 : ¬ (i : Int) < (i : Int) := by omega
      simp only [t7, t8, c1, RX, VOp.fresh, bxC, bsC, un, most, callsOf, seval, Int.reducePow, ↓reduceIte, Nat.reduceEqDiff, reduceCtorEq]
      refine hQ _ i hj hlo hhi ?_ ?_ ?_ ?_
      · simp only [t0, sg_set, Nat.reduceEqDiff, ↓reduceIte]
      · simp only [t1, sg_set, Nat.reduceEqDiff, ↓reduceIte]
      · simp only [t6, sg_set, Nat.reduceEqDiff, ↓reduceIte]
      · simp only [t7, sg_set, Nat.reduceEqDiff, ↓reduceIte]
theorem bs_pu (g : Pg P tab) {l : List Int} {w : AV} (hw : IsL 8 RInt w l) (hr : Rise l) (d : Int) : Pu P 82 [w, .int .i64 d] (fun v => ∃ (m : Nat) (f : Bool), v = .tup [.int .i64 m, .bool f] ∧ m ≤ l.length ∧ (∀ a, a < m → l.getD a 0 < d) ∧ (∀ a, m ≤ a → a < l.length → d ≤ l.getD a 0) ∧ (f = true ↔ m < l.length ∧ l.getD m 0 = d)) := by
  refine g.pu (vf := v82) rfl rfl ?_
  simp only [v82, hw.len, RX, VOp.fresh, bxC, bsC, un, most, callsOf, seval, Int.reducePow, ↓reduceIte, Nat.reduceEqDiff, reduceCtorEq]
  refine bs_loop g hw hr (d := d) l.length 0 l.length _ _ _ _ (by omega) (by omega) (Nat.le_refl _) (fun a ha => by omega) (fun a h1 h2 => by omega) ?_ ?_ ?_ ?_ ?_ ?_
  · simp only [sg_set, Nat.reduceEqDiff, ↓reduceIte]
  · simp only [sg_set, Nat.reduceEqDiff, ↓reduceIte]
  · simp only [sg_set, Nat.reduceEqDiff, ↓reduceIte]
  · simp only [sg_set, Nat.reduceEqDiff, ↓reduceIte]
    rfl
  · simp only [sg_set, Nat.reduceEqDiff, ↓reduceIte]
  intro s' m hm hlo hhi t0 t1 t6 t7
  have told : ∀ (m : Nat) (f : Bool) (hh : Heap) {R : AV → Prop}, R (.tup [.int .i64 m, .bool f]) → Tl hh (.tup [.int .i64 m, .bool f]) R := fun m f hh R r => ⟨_, .tup (.cons (.int _ _) (.cons (.bool _) .nil)), r⟩
  by_cases hml : m < l.length
  · have c1 : (m : Int) < (l.length : Int) := by omega
    obtain ⟨r, ht, hia⟩ := getInt hw m hml
    by_cases he : l.getD m 0 = d
    · simp only [t0, t1, t6, t7, c1, hia, he, RX, VOp.fresh, bxC, bsC, un, most, callsOf, seval, Int.reducePow, ↓reduceIte, Nat.reduceEqDiff, reduceCtorEq]
      exact told m true _ ⟨m, true, rfl, hm, hlo, hhi, ⟨fun _ => ⟨hml, he⟩, fun _ => rfl⟩⟩
    · simp only [t0, t1, t6, t7, c1, hia, he, RX, VOp.fresh, bxC, bsC, un, most, callsOf, seval, Int.reducePow, ↓reduceIte, Nat.reduceEqDiff, reduceCtorEq]
      refine (nan102 g _).go rfl ?_
      rintro v rfl
      simp only [RX, VOp.fresh, bxC, bsC, un, most, callsOf, seval, Int.reducePow, ↓reduceIte, Nat.reduceEqDiff, reduceCtorEq]
      exact told m false _ ⟨m, false, rfl, hm, hlo, hhi, ⟨fun c => (by cases c), fun c => absurd c.2 he⟩⟩
  · have c1 : ¬ (m : Int) < (l.length : Int) := by omega
    simp only [t0, t1, t6, t7, c1, RX, VOp.fresh, bxC, bsC, un, most, callsOf, seval, Int.reducePow, ↓reduceIte, Nat.reduceEqDiff, reduceCtorEq]
    exact told m false _ ⟨m, false, rfl, hm, hlo, hhi, ⟨fun c => (by cases c), fun c => absurd c.1 hml⟩⟩
theorem Cl.exact {f : Nat} {args : List AV} {h h2 : Heap} {a : AV} (c : Cl P f args h fun v h' => v = a ∧ h' = h2) : OK P f args h a h2 := by
  obtain ⟨v, h', o, rfl, rfl⟩ := c
  exact o
theorem at_ok (g : Pg P tab) {l : List Int} {w ep u : AV} (hw : IsL 8 RInt w l) (hr : Rise l) {d : Int} {k : Nat} (hk : IxAt l d k) {h : Heap} {b e ver : Nat} (hg : h.get b = some (.cells [ep, w, u] e ver)) : OK P 58 [.ptr b 0, .int .i64 d] h (.int .i64 k) h := by
  have hbd := hw.bound (by decide)
  refine Cl.exact ?_
  refine g.cl (vf := v58) rfl rfl ?_
  simp only [v58, hg, RX, VOp.fresh, bxC, bsC, un, most, callsOf, seval, Int.reducePow, ↓reduceIte, Nat.reduceEqDiff, reduceCtorEq]
  refine (bs_pu g hw hr d).go (by simp [AV.tolds, AV.told, hw.told tInt]) ?_
  rintro v ⟨m, f, rfl, hm, hlo, hhi, hf⟩
  obtain ⟨k1, k2, k3⟩ := hk
  cases f with
  | true =>
    obtain ⟨f1, f2⟩ := hf.1 rfl
    have : m = k := IxAt.uniq hr (d := d) ⟨f1, by omega, fun h => by have := hr m h; omega⟩ ⟨k1, k2, k3⟩
    subst this
    simp only [RX, VOp.fresh, bxC, bsC, un, most, callsOf, seval, Int.reducePow, ↓reduceIte, Nat.reduceEqDiff, reduceCtorEq]
  | false =>
    have hkm : k < m := by
      rcases Nat.lt_or_ge k m with e | e
      · exact e
      · exfalso
        have h1 := hhi k e k1
        have h2 : l.getD k 0 = d := by omega
        rcases Nat.lt_or_ge m k with e2 | e2
        · have := hhi m (Nat.le_refl _) (by omega)
          have := hr.lt e2 k1
          omega
        · have : m = k := by omega
          subst this
          have := hf.2 ⟨k1, h2⟩
          cases this
    have hmk : m = k + 1 := by
      rcases Nat.lt_or_ge (k + 1) m with e | e
      · have := hlo (k + 1) e
        have := k3 (by omega)
        omega
      · omega
    have w1 : IntKind.i64.wrap ((m : Int) - 1) = (k : Int) := by rw [w64 (by omega) (by omega)]; omega
    simp only [w1, RX, VOp.fresh, bxC, bsC, un, most, callsOf, seval, Int.reducePow, ↓reduceIte, Nat.reduceEqDiff, reduceCtorEq]
theorem ixAt_ex {l : List Int} (hr : Rise l) {d : Int} (h0 : 0 < l.length) (h1 : l.getD 0 0 ≤ d) : ∃ k, IxAt l d k := by
  have go : ∀ n i, i + n = l.length → i < l.length → l.getD i 0 ≤ d → ∃ k, IxAt l d k := by
    intro n
    induction n with
    | zero => intro i hi hl; omega
    | succ n ih =>
      intro i hi hl hd
      by_cases hc : i + 1 < l.length ∧ l.getD (i + 1) 0 ≤ d
      · exact ih (i + 1) (by omega) hc.1 hc.2
      · exact ⟨i, hl, hd, fun h => by
          rcases Int.lt_or_le d (l.getD (i + 1) 0) with e | e
          · exact e
          · exact absurd ⟨h, e⟩ hc⟩
  exact go l.length 0 (by omega) h0 h1
theorem mpOk.rise {nodes : Int} {m : Mp} (h : mpOk nodes m) : Rise m.starts := fun i hi => by
  have := h.2.2.2.2.2.2.2.2 (i + 1) hi
  unfold mpAt at this
  rcases this.2.1 with h | h
  · omega
  · exact h
end
end Go.Proofs.Ythmkenkjfmbkiaa.VM
namespace Go.Proofs.Ythmkenkjfmbkiaa.VM
attribute [local irreducible] Af Nx EvO Ev Un Gd Cd EvR EvQ EvC Nc Gc Lp EvM NxM AfM GdM EvMR EvMQ EvMD EvMC Nm Gm
abbrev ic (l : List Int) : List AV := l.map (.int .i64)
theorem ic_len (l : List Int) : (ic l).length = l.length := List.length_map _
theorem ic_one (l : List Int) : (ic l).all AV.one = true := by simp [ic, AV.one]
section
variable {P : Program}
theorem cat_int {l : List Int} {c : List AV} (h : Cat RInt l c) : c = ic l := by
  induction h with
  | nil => rfl
  | cons h t ih => rw [h.1, ih]; rfl
/-- a row of numbers, told, as cells -/
theorem isL_cells {l : List Int} {w : AV} (hw : IsL 8 RInt w l) (hh : Heap) : lenV w = some l.length ∧ cellsOf hh 1 l.length w = some (ic l) := by
  rcases hw.2 with ⟨rfl, rfl⟩ | ⟨c, rfl, hc⟩
  · exact ⟨rfl, rfl⟩
  · refine ⟨rfl, ?_⟩
    rw [cat_int hc]
    simp only [cellsOf, Nat.mul_one]
    rw [cut_eq, List.drop_zero, List.take_of_length_le (by rw [ic_len]; exact Nat.le_refl _), if_pos (ic_len l)]
theorem clone_cl (g : Pg P tab) {l : List Int} {w : AV} (hw : IsL 8 RInt w l) (h0 : 0 < l.length) {h : Heap} {Q : AV → Heap → Prop} (q : ∀ h' b, h.next ≤ b → b < h'.next → (∃ e ver, h'.get b = some (.cells (ic l) e ver)) → Ext h h' → Q (.sl b 0 l.length l.length 1) h') : Cl P 83 [w] h Q := by
  refine g.cl (vf := v83) rfl rfl ?_
  have hne : eqv .sl w .nils = some false := by
    rcases hw.2 with ⟨rfl, rfl⟩ | ⟨c, rfl, hc⟩
    · simp at h0
    · rfl
  have x1 := Ext.mk (h := h) (.cells [] 3 0)
  have n1 : (h.mk' h.next (.cells [] 3 0)).next = h.next + 1 := by rw [mk_next]; omega
  obtain ⟨hl, hc⟩ := isL_cells hw (h.mk' h.next (.cells [] 3 0))
  have hm : l.length * 8 ≤ most2 := by have := hw.1; rw [reach_eq] at this; unfold most2; omega
  have hm0 : ¬ l.length ≤ 0 := by omega
  have hold : cellsOf (h.mk' h.next (.cells [] 3 0)) 1 0 (.sl h.next 0 0 0 1) = some [] := cells_of (by rw [Heap.get_mk, if_pos rfl]) rfl 0
  have ha : appendV (h.mk' h.next (.cells [] 3 0)) 1 8 3 (.sl h.next 0 0 0 1) w = some (.sl (h.next + 1) 0 l.length l.length 1, ((h.mk' h.next (.cells [] 3 0)).put h.next .dead).mk' (h.next + 1) (.cells (ic l) 3 0)) := by
    have o1 := ic_one l
    have il := ic_len l
    simp only [appendV, hl, hc, il, Nat.mul_one, o1, and_self, if_true, Nat.beq_refl, cond_true, hm0, if_false, hm, hold, n1, Nat.zero_add, List.nil_append]
  simp only [v83, HE, hne, ha, RX, VOp.fresh, bxC, bsC, un, most, callsOf, seval, Int.reducePow, ↓reduceIte, Nat.reduceEqDiff, reduceCtorEq]
  refine q _ _ (Nat.le_succ _) ?_ ⟨3, 0, ?_⟩ ⟨?_, fun b hb => ?_⟩
  · rw [mk_next, put_next, n1]; omega
  · rw [Heap.get_mk, if_pos rfl]
  · rw [mk_next, put_next, n1]; omega
  · rw [Heap.get_mk, if_neg (by omega), Heap.get_put, if_neg (by omega)]; exact x1.2 b hb
/-- a map of one's own -/
structure OMap (h : Heap) (N : Nat) (m : Mp) (sv ov : AV) : Prop where
  s : ∃ b e ver, sv = .sl b 0 m.starts.length m.starts.length 1 ∧ N ≤ b ∧ b < h.next ∧ h.get b = some (.cells (ic m.starts) e ver)
  o : ∃ b e ver, ov = .sl b 0 m.owners.length m.owners.length 1 ∧ N ≤ b ∧ b < h.next ∧ h.get b = some (.cells (ic m.owners) e ver)
  ne : blkOf sv ≠ blkOf ov
theorem mapCopy_cl (g : Pg P tab) {m : Mp} {v u : AV} (hv : IsL 8 RInt v m.starts) (hu : IsL 8 RInt u m.owners) (h0 : 0 < m.starts.length) (h1 : 0 < m.owners.length) {h : Heap} {Q : AV → Heap → Prop} (q : ∀ h' sv ov, OMap h' h.next m sv ov → Ext h h' → Q (.agg [.int .i64 m.epoch, sv, ov]) h') : Cl P 59 [.agg [.int .i64 m.epoch, v, u]] h Q := by
  refine g.cl (vf := v59) rfl rfl ?_
  have ov := isL_one hv
  have ou := isL_one hu
  simp only [v59, RX, VOp.fresh, bxC, bsC, un, most, callsOf, seval, Int.reducePow, ↓reduceIte, Nat.reduceEqDiff, reduceCtorEq]
  obtain ⟨_, h2, ok1, b1, rfl, p1, p2, ⟨e1, ver1, p3⟩, x1⟩ := clone_cl g hv h0 (h := (h.mk' h.next (.cells [.int .i64 m.epoch, v, u] 24 0)).mk' (h.next + 1) (.cells [.int .i64 0, .nils, .nils] 24 0)) (Q := fun v h' => ∃ b, v = .sl b 0 m.starts.length m.starts.length 1 ∧ _ ≤ b ∧ b < h'.next ∧ (∃ e ver, h'.get b = some (.cells (ic m.starts) e ver)) ∧ Ext _ h') (fun h' b a c d e => ⟨b, rfl, a, c, d, e⟩)
  obtain ⟨_, h3, ok2, b2, rfl, r1, r2, ⟨e2, ver2, r3⟩, x2⟩ := clone_cl g hu h1 (h := h2) (Q := fun v h' => ∃ b, v = .sl b 0 m.owners.length m.owners.length 1 ∧ _ ≤ b ∧ b < h'.next ∧ (∃ e ver, h'.get b = some (.cells (ic m.owners) e ver)) ∧ Ext _ h') (fun h' b a c d e => ⟨b, rfl, a, c, d, e⟩)
  have nH : ((h.mk' h.next (.cells [.int .i64 m.epoch, v, u] 24 0)).mk' (h.next + 1) (.cells [.int .i64 0, .nils, .nils] 24 0)).next = h.next + 2 := by rw [mk_next, mk_next]; omega
  rw [nH] at p1
  have x1n := x1.1
  rw [nH] at x1n
  have x2n := x2.1
  have n2 : ¬ h2.next = h.next + 2 := by omega
  have g0 : h2.get h.next = some (.cells [.int .i64 m.epoch, v, u] 24 0) := (x1.2 _ (by omega)).trans (by rw [Heap.get_mk, if_neg (by omega), Heap.get_mk, if_pos rfl])
  have g1 : h2.get (h.next + 1) = some (.cells [.int .i64 0, .nils, .nils] 24 0) := (x1.2 _ (by omega)).trans (by rw [Heap.get_mk, if_pos rfl])
  have g03 := (x2.2 h.next (by omega)).trans g0
  have g13 := (x2.2 (h.next + 1) (by omega)).trans g1
  have k3 : ∀ b, b < h.next → h3.get b = h.get b := fun b hb => by rw [x2.2 b (by omega), x1.2 b (by omega), Heap.get_mk, if_neg (by omega), Heap.get_mk, if_neg (by omega)]
  have pb1 := (x2.2 b1 (by omega)).trans p3
  refine EvD.lk (fun _ _ hh => if hh.next = h.next + 2 then (.sl b1 0 m.starts.length m.starts.length 1, h2) else (.sl b2 0 m.owners.length m.owners.length 1, h3)) ?_
  simp only [nH, n2, ok1, ok2, g0, g1, g03, g13, HN, RW, RX, VOp.fresh, bxC, bsC, un, most, callsOf, seval, Int.reducePow, ↓reduceIte, Nat.reduceEqDiff, reduceCtorEq]
  refine ⟨⟨⟨?_, trivial⟩, trivial⟩, ?_⟩
  · show Lk _ _ _ _
    simp only [Lk, wanted, HN, RX, VOp.fresh, bxC, bsC, un, most, callsOf, seval, Int.reducePow, ↓reduceIte, Nat.reduceEqDiff, reduceCtorEq]
  refine q _ _ _ ⟨⟨b1, e1, ver1, rfl, by omega, by rw [put_next, put_next, put_next]; omega, ?_⟩, ⟨b2, e2, ver2, rfl, by omega, by rw [put_next, put_next, put_next]; omega, ?_⟩, ?_⟩ ⟨by rw [put_next, put_next, put_next]; omega, fun b hb => ?_⟩
  · rw [Heap.get_put, if_neg (by omega), Heap.get_put, if_neg (by omega), Heap.get_put, if_neg (by omega)]; exact pb1
  · rw [Heap.get_put, if_neg (by omega), Heap.get_put, if_neg (by omega), Heap.get_put, if_neg (by omega)]; exact r3
  · simp only [blkOf, ne_eq, List.cons.injEq, and_true]; omega
  · rw [Heap.get_put, if_neg (by omega), Heap.get_put, if_neg (by omega), Heap.get_put, if_neg (by omega)]; exact k3 b hb
/-- a part of a row goes to the front -/
theorem del_cells {A B C z y : List AV} (hb : B.length = y.length) : (((A ++ B ++ C ++ z).take A.length ++ C ++ (A ++ B ++ C ++ z).drop (A.length + C.length)).take (A.length + C.length) ++ y ++ ((A ++ B ++ C ++ z).take A.length ++ C ++ (A ++ B ++ C ++ z).drop (A.length + C.length)).drop (A.length + C.length + y.length)) = A ++ C ++ (y ++ z) := by
  have e1 : (A ++ B ++ C ++ z).take A.length = A := by rw [List.append_assoc, List.append_assoc, List.take_left' rfl]
  rw [e1]
  have e2 : (A ++ C ++ (A ++ B ++ C ++ z).drop (A.length + C.length)).take (A.length + C.length) = A ++ C := List.take_left' (by rw [List.length_append])
  rw [e2]
  have e3 : (A ++ C ++ (A ++ B ++ C ++ z).drop (A.length + C.length)).drop (A.length + C.length + y.length) = z := by
    rw [← List.drop_drop, List.drop_left' (by rw [List.length_append]), List.drop_drop, show A.length + C.length + y.length = (A ++ B ++ C).length by simp only [List.length_append]; omega, List.drop_left' rfl]
  rw [e3, List.append_assoc]
theorem delI_cl (g : Pg P tab) {h : Heap} {b e ver : Nat} {l : List Int} {i : Nat} (hi : i < l.length) (hx : l.length ≤ 1000) (hb : b < h.next) (hg : h.get b = some (.cells (ic l) e ver)) {Q : AV → Heap → Prop}
    (q : ∀ h' ver', h'.next = h.next → (∀ c, c ≠ b → h'.get c = h.get c) → h'.get b = some (.cells (ic (l.eraseIdx i) ++ [AV.int .i64 0]) e ver') → Q (.sl b 0 (l.length - 1) l.length 1) h') : Cl P 61 [.sl b 0 l.length l.length 1, .int .i64 i, .int .i64 ((i + 1 : Nat) : Int)] h Q := by
  refine g.cl (vf := v61) rfl rfl ?_
  obtain ⟨n, hn⟩ : ∃ n, n = l.length := ⟨_, rfl⟩
  have s1 := slV3 (b := b) (off := 0) (len := l.length) (cap := l.length) (sz := 1) (k1 := .i64) (k2 := .i64) (k3 := .i64) (show i ≤ i + 1 by omega) (show i + 1 ≤ l.length by omega) (Nat.le_refl _)
  have s2 := slVhi (b := b) (off := 0) (len := l.length) (cap := l.length) (sz := 1) (k2 := .i64) (hi := i) (by omega)
  have s3 := slVlo (b := b) (off := 0) (len := l.length) (cap := l.length) (sz := 1) (k1 := .i64) (lo := i + 1) (by omega)
  have s4 := slV2 (b := b) (off := 0) (len := l.length - 1) (cap := l.length) (sz := 1) (k1 := .i64) (k2 := .i64) (lo := l.length - 1) (hi := l.length) (by omega) (by omega)
  have n1 : ¬ ((i : Int) = ((i + 1 : Nat) : Int)) := by omega
  obtain ⟨A, x, C, hl, hA⟩ : ∃ A x C, l = A ++ x :: C ∧ A.length = i := ⟨l.take i, l[i], l.drop (i + 1), by rw [List.getElem_cons_drop, List.take_append_drop], by rw [List.length_take]; omega⟩
  have er : l.eraseIdx i = A ++ C := by rw [hl, ← hA, List.eraseIdx_append_of_length_le (Nat.le_refl _)]; simp
  have eR : ic l = ic A ++ [AV.int .i64 x] ++ ic C ++ [] := by rw [hl]; simp
  have lA := ic_len A
  have lC := ic_len C
  have ll : l.length = A.length + C.length + 1 := by rw [hl]; simp; omega
  have oC := ic_one C
  rw [eR] at hg
  have hc : cellsOf h 1 (l.length - (i + 1)) (.sl b (i + 1) (l.length - (i + 1)) (l.length - (i + 1)) 1) = some (ic C) := by
    have h1 := cells_part (sz := 1) (lo := i + 1) (k := l.length - (i + 1)) (cap := l.length - (i + 1)) hg (by simp only [List.length_append, lA, lC, List.length_singleton, List.length_nil]; omega)
    simp only [Nat.mul_one] at h1
    rw [h1, List.append_nil, List.drop_left' (by rw [List.length_append, lA, List.length_singleton]; omega), List.take_of_length_le (by omega)]
  have hw : writeAt h b i (ic C) = some (h.put b (.cells ((ic A ++ [AV.int .i64 x] ++ ic C ++ []).take (ic A).length ++ ic C ++ (ic A ++ [AV.int .i64 x] ++ ic C ++ []).drop ((ic A).length + (ic C).length)) e (ver + 1))) := by
    rw [writeAt_go, hg, wrB_some, if_pos ⟨by simp only [List.length_append, lA, lC, List.length_singleton, List.length_nil]; omega, oC⟩, show i = (ic A).length by omega]
  have ha : appendV h 1 8 3 (.sl b 0 i l.length 1) (.sl b (i + 1) (l.length - (i + 1)) (l.length - (i + 1)) 1) = some (.sl b 0 (l.length - 1) l.length 1, h.put b (.cells ((ic A ++ [AV.int .i64 x] ++ ic C ++ []).take (ic A).length ++ ic C ++ (ic A ++ [AV.int .i64 x] ++ ic C ++ []).drop ((ic A).length + (ic C).length)) e (ver + 1))) := by
    have e1 : (ic C).length = l.length - (i + 1) := by omega
    have e2 : l.length - 1 ≤ l.length := by omega
    have e3 : i + (l.length - (i + 1)) = l.length - 1 := by omega
    simp only [appendV, lenV, hc, e1, oC, Nat.mul_one, and_self, if_true, Nat.beq_refl, cond_true, Nat.zero_add, hw, e3, e2]
  have hw2 : writeAt (h.put b (.cells ((ic A ++ [AV.int .i64 x] ++ ic C ++ []).take (ic A).length ++ ic C ++ (ic A ++ [AV.int .i64 x] ++ ic C ++ []).drop ((ic A).length + (ic C).length)) e (ver + 1))) b (l.length - 1) [AV.int .i64 0] = some ((h.put b (.cells ((ic A ++ [AV.int .i64 x] ++ ic C ++ []).take (ic A).length ++ ic C ++ (ic A ++ [AV.int .i64 x] ++ ic C ++ []).drop ((ic A).length + (ic C).length)) e (ver + 1))).put b (.cells (ic A ++ ic C ++ ([AV.int .i64 0] ++ [])) e (ver + 1 + 1))) := by
    rw [writeAt_go, Heap.get_put, if_pos rfl, wrB_some, if_pos ⟨by simp only [List.length_append, List.length_take, List.length_drop, lA, lC, List.length_singleton, List.length_nil]; omega, by rfl⟩, show l.length - 1 = (ic A).length + (ic C).length by omega, del_cells (A := ic A) (B := [AV.int .i64 x]) (C := ic C) (z := []) (y := [AV.int .i64 0]) rfl]
  have hcl : l.length - (l.length - 1) = 1 := by omega
  simp only [Nat.zero_add, Nat.mul_one] at s1 s2 s3 s4
  rw [hcl] at s4
  have hcs := clS_go (z := [AV.int .i64 0]) (b := b) (off := l.length - 1) (len := 1) (cap := l.length - (l.length - 1)) (sz := 1) (by decide) ((by rw [List.replicate_one, List.flatten_singleton]; exact hw2 : writeAt _ b (l.length - 1) (List.replicate 1 [AV.int .i64 0]).flatten = _))
  rw [hcl] at hcs
  simp only [v61, s1, s2, s3, s4, n1, ha, vop_clearS, hcs, RX, VOp.fresh, bxC, bsC, un, most, callsOf, seval, Int.reducePow, ↓reduceIte, Nat.reduceEqDiff, reduceCtorEq]
  refine q _ (ver + 1 + 1) rfl (fun c hc => by rw [Heap.get_put, if_neg hc, Heap.get_put, if_neg hc]) ?_
  rw [Heap.get_put, if_pos rfl, er]
  simp
end
end Go.Proofs.Ythmkenkjfmbkiaa.VM
namespace Go.Proofs.Ythmkenkjfmbkiaa.VM
attribute [local irreducible] Af Nx EvO Ev Un Gd Cd EvR EvQ EvC Nc Gc Lp EvM NxM AfM GdM EvMR EvMQ EvMD EvMC Nm Gm
def ins (l : List Int) (i : Nat) (x : Int) : List Int := l.take i ++ x :: l.drop i
theorem ins_len {l : List Int} {i : Nat} (h : i ≤ l.length) (x : Int) : (ins l i x).length = l.length + 1 := by
  simp [ins]; omega
theorem ins_ic {l : List Int} {i : Nat} {x : Int} : (ic l).take i ++ .int .i64 x :: (ic l).drop i = ic (ins l i x) := by
  simp [ins, ic]
/-- what a change makes, at the stretch i -/
def chgR (m : Mp) (k a t : Int) (i : Nat) : Mp :=
  if k = 0 then ⟨m.epoch + 1, ins m.starts (i + 1) a, ins m.owners (i + 1) (m.owners.getD i 0)⟩
  else if k = 1 then ⟨m.epoch + 1, m.starts, m.owners.set i t⟩
  else ⟨m.epoch + 1, m.starts.eraseIdx (i + 1), m.owners.eraseIdx (i + 1)⟩
/-- what slices.Insert does -/
def InsOk (P : Program) : Prop := ∀ {H : Heap} {b n cap i vb e e2 ver ver2 : Nat} {cs : List AV} {x : AV}, H.get b = some (.cells cs e ver) → cs.length = n → cs.all AV.one = true → x.one = true → i ≤ n → H.get vb = some (.cells [x] e2 ver2) → vb ≠ b → n < 1000000 →
  OK P 60 [.sl b 0 n cap 1, .int .i64 i, .sl vb 0 1 1 1] H (.sl H.next 0 (n + 1) (n + 1) 1) ((H.put b .dead).mk' H.next (.cells (cs.take i ++ x :: cs.drop i) 3 0))
/-- a row of one's own, there may be more behind -/
def WRow (h : Heap) (N : Nat) (l : List Int) (v : AV) (b : Nat) : Prop := ∃ cap e ver z, v = .sl b 0 l.length cap 1 ∧ N ≤ b ∧ b < h.next ∧ h.get b = some (.cells (ic l ++ z) e ver) ∧ AV.bares z = true
def tI (l : List Int) : AV := .rs (ic l) l.length
theorem tI_is {l : List Int} (h64 : ∀ x ∈ l, I64 x) (hl : l.length ≤ 1000000) : IsL 8 RInt (tI l) l := by
  refine isL_rs ?_ (by rw [reach_eq]; omega)
  clear hl
  induction l with
  | nil => exact .nil
  | cons x l ih => exact .cons (l := l) (c := [.int .i64 x]) ⟨rfl, h64 x (.head _)⟩ (ih fun y hy => h64 y (.tail _ hy))
section
variable {P : Program} {h h' : Heap} {N : Nat} {l : List Int} {v : AV} {b : Nat}
theorem ic_told (l : List Int) : AV.tolds (ic l) = true := by
  induction l with
  | nil => rfl
  | cons x l ih => simpa [ic, AV.tolds, AV.told] using ih
theorem WRow.frame (r : WRow h N l v b) (hn : h.next ≤ h'.next) (k : h'.get b = h.get b) : WRow h' N l v b := by
  obtain ⟨cap, e, ver, z, h1, h2, h3, h4, h5⟩ := r
  exact ⟨cap, e, ver, z, h1, h2, by omega, k.trans h4, h5⟩
theorem WRow.ext (r : WRow h N l v b) (x : Ext h h') : WRow h' N l v b := by
  obtain ⟨cap, e, ver, z, h1, h2, h3, h4, h5⟩ := r
  exact ⟨cap, e, ver, z, h1, h2, Nat.lt_of_lt_of_le h3 x.1, (x.2 _ h3).trans h4, h5⟩
theorem WRow.fz {r : Bool} (w : WRow h N l v b) (h0 : 0 < l.length) (hr : r = true) : Fz r h v (tI l) := by
  obtain ⟨cap, e, ver, z, rfl, h2, h3, h4, _⟩ := w
  refine .sl (cs := ic l) h0 h4 ?_ (by subst hr; exact Fzs.refl (ic_told l))
  rw [cut_eq, List.drop_zero, Nat.mul_one, List.take_left' (ic_len l), if_pos (ic_len l)]
theorem WRow.one (w : WRow h N l v b) : v.one = true := by obtain ⟨cap, e, ver, z, rfl, _⟩ := w; rfl
theorem WRow.cells (w : WRow h N l v b) : v.cells = some [v] := by obtain ⟨cap, e, ver, z, rfl, _⟩ := w; rfl
/-- what goes before -/
def ChP (nodes : Int) (m : Mp) (k a : Int) : Prop := mpOk nodes m ∧ 0 ≤ k ∧ k ≤ 2 ∧ 0 ≤ a ∧ a < 4294967296
abbrev z3 : List AV := [.int .i64 0, .nils, .nils]
def blkC (n : Nat) : VCode := blk n v32.body
theorem chg_a (g : Pg P tab) {m : Mp} {v u : AV} (hv : IsL 8 RInt v m.starts) (hu : IsL 8 RInt u m.owners) {nodes k a t : Int} {Q : AV → Heap → Prop} {B : VCode}
    (q7 : ∀ h' e, Ext h h' → ((¬ ChP nodes m k a ∧ e = 700) ∨ (ChP nodes m k a ∧ m.epoch = 65535 ∧ e = 701)) → Q (.tup [.agg z3, .int .i64 e]) h')
    (hK : ChP nodes m k a → m.epoch ≠ 65535 → ∀ s' h' i sv ov, IxAt m.starts a i → sg s' 1 = .int .i64 nodes → sg s' 3 = .ptr h.next 0 → sg s' 5 = .ptr (h.next + 1) 0 → sg s' 6 = .ptr (h.next + 2) 0 → sg s' 8 = .int .i64 i → (∃ d, sg s' 9 = .ptr d 0 ∧ h.next + 2 < d ∧ Has h' [(d, [.int .i64 (m.epoch + 1), sv, ov]), (h.next, [.int .i64 m.epoch, v, u]), (h.next + 1, [.int .i64 k, .int .i64 a, .int .i64 t]), (h.next + 2, z3)] ∧
      (∃ b b', WRow h' (h.next + 3) m.starts sv b ∧ WRow h' (h.next + 3) m.owners ov b' ∧ b ≠ b' ∧ b ≠ d ∧ b' ≠ d ∧ ∃ e ver e' ver', h'.get b = some (.cells (ic m.starts) e ver) ∧ h'.get b' = some (.cells (ic m.owners) e' ver') ∧ sv = .sl b 0 m.starts.length m.starts.length 1 ∧ ov = .sl b' 0 m.owners.length m.owners.length 1)) → Ext h h' → Ev P B s' h' (Un P [] (Fin v32.res Q))) :
    Ev P (.seq (blkC 0) (.seq (blkC 1) (.seq (blkC 2) (.seq (blkC 3) (.seq (blkC 4) B))))) (argsT [.agg [.int .i64 m.epoch, v, u], .int .i64 nodes, .agg [.int .i64 k, .int .i64 a, .int .i64 t]] 0 .e) h (Un P [] (Fin v32.res Q)) := by
  have ov := isL_one hv
  have ou := isL_one hu
  have ht : AV.tolds [.agg [.int .i64 m.epoch, v, u], .int .i64 nodes] = true := by simp [AV.tolds, AV.told, hv.told tInt, hu.told tInt]
  simp only [blkC, v32, blk, HN, RW, RX, VOp.fresh, bxC, bsC, un, most, callsOf, seval, Int.reducePow, ↓reduceIte, Nat.reduceEqDiff, reduceCtorEq]
  refine (mapMay_pu g hv hu).go ht ?_
  rintro x ⟨b, rfl, hb⟩
  have bad : ∀ H : Heap, Ext h H → ∀ c e ver, Ext h (H.put (h.next + 2) (.cells c e ver)) := fun H x c e ver => x.putn (by omega) _
  have x3 : Ext h (((h.mk' h.next (.cells [.int .i64 m.epoch, v, u] 24 0)).mk' (h.next + 1) (.cells [.int .i64 k, .int .i64 a, .int .i64 t] 26 0)).mk' (h.next + 2) (.cells z3 24 0)) := (((Ext.refl h).mkn (Nat.le_refl _) _).mkn (by omega) _).mkn (by omega) _
  by_cases pre : ChP nodes m k a
  · have hb1 : b = true := hb.2 pre.1
    subst hb1
    obtain ⟨p1, p2, p3, p4, p5⟩ := id pre
    have c1 : ¬ k < 0 := by omega
    have c2 : ¬ 2 < k := by omega
    have c3 : ¬ a < 0 := by omega
    have c4 : ¬ 4294967296 ≤ a := by omega
    by_cases he : m.epoch = 65535
    · simp only [c1, c2, c3, c4, he, HN, RW, RX, VOp.fresh, bxC, bsC, un, most, callsOf, seval, Int.reducePow, ↓reduceIte, Nat.reduceEqDiff, reduceCtorEq]
      exact q7 _ _ (bad _ (he ▸ x3) _ _ _) (.inr ⟨pre, he, rfl⟩)
    · simp only [c1, c2, c3, c4, he, HN, RW, RX, VOp.fresh, bxC, bsC, un, most, callsOf, seval, Int.reducePow, ↓reduceIte, Nat.reduceEqDiff, reduceCtorEq]
      have h0 : 0 < m.starts.length := p1.2.2.2.2.1
      have h1 : 0 < m.owners.length := by rw [p1.2.2.2.2.2.2.1]; exact h0
      have he2 := p1.2.2.2.1
      have he1 := p1.2.2.1
      have w1 : IntKind.i64.wrap (m.epoch + 1) = m.epoch + 1 := w64 (by omega) (by omega)
      obtain ⟨i, hi⟩ := ixAt_ex p1.rise h0 (d := a) (by have := p1.2.2.2.2.2.2.2.1; omega)
      have H3 : Has (((h.mk' h.next (.cells [.int .i64 m.epoch, v, u] 24 0)).mk' (h.next + 1) (.cells [.int .i64 k, .int .i64 a, .int .i64 t] 26 0)).mk' (h.next + 2) (.cells z3 24 0)) [(h.next + 2, z3), (h.next + 1, [.int .i64 k, .int .i64 a, .int .i64 t]), (h.next, [.int .i64 m.epoch, v, u])] :=
        ((Has.nil.mk (Nat.le_refl _)).mk (by rw [mk_next]; omega)).mk (by rw [mk_next, mk_next]; omega)
      have n3 : (((h.mk' h.next (.cells [.int .i64 m.epoch, v, u] 24 0)).mk' (h.next + 1) (.cells [.int .i64 k, .int .i64 a, .int .i64 t] 26 0)).mk' (h.next + 2) (.cells z3 24 0)).next = h.next + 3 := by rw [mk_next, mk_next, mk_next]; omega
      generalize ((h.mk' h.next (.cells [.int .i64 m.epoch, v, u] 24 0)).mk' (h.next + 1) (.cells [.int .i64 k, .int .i64 a, .int .i64 t] 26 0)).mk' (h.next + 2) (.cells z3 24 0) = h3 at *
      obtain ⟨e0, v0, g0⟩ := H3.get (b := h.next) (.tail _ (.tail _ (.head _)))
      refine (at_ok g hv p1.rise hi g0).cl ?_
      simp only [g0, RX, VOp.fresh, bxC, bsC, un, most, callsOf, seval, Int.reducePow, ↓reduceIte, Nat.reduceEqDiff, reduceCtorEq]
      refine mapCopy_cl g hv hu h0 h1 fun h4 sv ov om x4 => ?_
      obtain ⟨⟨b1, e1, r1, rfl, o1, o2, o3⟩, ⟨b2, e2, r2, rfl, s1, s2, s3⟩, hne⟩ := om
      have x4n := x4.1
      have H4 := H3.ext x4
      have n5 : ((h4.mk' h4.next (.cells z3 24 0)).put h4.next (.cells [.int .i64 m.epoch, .sl b1 0 m.starts.length m.starts.length 1, .sl b2 0 m.owners.length m.owners.length 1] 24 1)).next = h4.next + 1 := new_next
      have z0 : ¬ h.next = h4.next := by omega
      simp only [w1, RW, RX, VOp.fresh, bxC, bsC, un, most, callsOf, seval, Int.reducePow, ↓reduceIte, Nat.reduceEqDiff, reduceCtorEq]
      have ne12 : b1 ≠ b2 := fun e => hne (by simp [blkOf, e])
      have kk : ∀ c X Y, c < h4.next → (((h4.mk' h4.next (.cells z3 24 0)).put h4.next X).put h4.next Y).get c = h4.get c := fun c X Y hc => by rw [Heap.get_put, if_neg (by omega), Heap.get_put, if_neg (by omega), Heap.get_mk, if_neg (by omega)]
      have nn : ∀ X Y, (((h4.mk' h4.next (.cells z3 24 0)).put h4.next X).put h4.next Y).next = h4.next + 1 := fun X Y => by rw [put_next, new_next]
      have xh : Ext h h4 := x3.trans x4
      refine hK pre he _ _ i _ _ hi ?_ ?_ ?_ ?_ ?_ ⟨h4.next, ?_, by omega, ?_, b1, b2, ⟨_, e1, r1, [], rfl, by omega, by rw [nn]; omega, by rw [kk _ _ _ o2, o3, List.append_nil], rfl⟩, ⟨_, e2, r2, [], rfl, by omega, by rw [nn]; omega, by rw [kk _ _ _ s2, s3, List.append_nil], rfl⟩, ne12, by omega, by omega, e1, r1, e2, r2, by rw [kk _ _ _ o2, o3], by rw [kk _ _ _ s2, s3], rfl, rfl⟩ ⟨by rw [nn]; have := xh.1; omega, fun c hc => by rw [kk _ _ _ (by have := xh.1; omega)]; exact xh.2 c hc⟩
      · simp only [sg_set, Nat.reduceEqDiff, ↓reduceIte]
      · simp only [sg_set, Nat.reduceEqDiff, ↓reduceIte]
      · simp only [sg_set, Nat.reduceEqDiff, ↓reduceIte]
      · simp only [sg_set, Nat.reduceEqDiff, ↓reduceIte]
      · simp only [sg_set, Nat.reduceEqDiff, ↓reduceIte]
      · simp only [sg_set, Nat.reduceEqDiff, ↓reduceIte]
      · refine (H4.new.put ?_).sub ?_
        · intro p hp
          have := (H4 p hp).1
          omega
        · intro p hp
          simp only [List.mem_cons, List.not_mem_nil, or_false] at hp ⊢
          rcases hp with rfl | rfl | rfl | rfl <;> simp
  · have go : ∀ H : Heap, Ext h H → ∀ c e ver, Q (.tup [.agg z3, .int .i64 700]) (H.put (h.next + 2) (.cells c e ver)) := fun H x c e ver => q7 _ _ (bad H x c e ver) (.inl ⟨pre, rfl⟩)
    cases b with
    | false =>
      simp only [HN, RW, RX, VOp.fresh, bxC, bsC, un, most, callsOf, seval, Int.reducePow, ↓reduceIte, Nat.reduceEqDiff, reduceCtorEq]
      exact go _ x3 _ _ _
    | true =>
      have p1 := hb.1 rfl
      by_cases c1 : k < 0
      · simp only [c1, HN, RW, RX, VOp.fresh, bxC, bsC, un, most, callsOf, seval, Int.reducePow, ↓reduceIte, Nat.reduceEqDiff, reduceCtorEq]
        exact go _ x3 _ _ _
      by_cases c2 : 2 < k
      · simp only [c1, c2, HN, RW, RX, VOp.fresh, bxC, bsC, un, most, callsOf, seval, Int.reducePow, ↓reduceIte, Nat.reduceEqDiff, reduceCtorEq]
        exact go _ x3 _ _ _
      by_cases c3 : a < 0
      · simp only [c1, c2, c3, HN, RW, RX, VOp.fresh, bxC, bsC, un, most, callsOf, seval, Int.reducePow, ↓reduceIte, Nat.reduceEqDiff, reduceCtorEq]
        exact go _ x3 _ _ _
      by_cases c4 : 4294967296 ≤ a
      · simp only [c1, c2, c3, c4, HN, RW, RX, VOp.fresh, bxC, bsC, un, most, callsOf, seval, Int.reducePow, ↓reduceIte, Nat.reduceEqDiff, reduceCtorEq]
        exact go _ x3 _ _ _
      · exact absurd ⟨p1, by omega, by omega, by omega, by omega⟩ pre
end
end Go.Proofs.Ythmkenkjfmbkiaa.VM
