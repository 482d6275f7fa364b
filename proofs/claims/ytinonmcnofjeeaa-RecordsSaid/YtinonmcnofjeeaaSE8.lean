/- Live data: values with the blocks that they reach; calls that lay new data. -/
import Derived.Test.YtinonmcnofjeeaaSE5
namespace Go.Proofs.Ytinonmcnofjeeaa.VM
set_option linter.unusedSimpArgs false
set_option linter.unusedVariables false
set_option linter.defProp false
set_option maxHeartbeats 1000000
open Go.RowKit

/-- nothing of what was there is changed -/
def Ext (h h' : Heap) : Prop := h.next ≤ h'.next ∧ ∀ b, b < h.next → h'.get b = h.get b
theorem Ext.refl (h : Heap) : Ext h h := ⟨Nat.le_refl _, fun _ _ => rfl⟩
theorem Ext.trans {a b c : Heap} (x : Ext a b) (y : Ext b c) : Ext a c := ⟨Nat.le_trans x.1 y.1, fun n hn => (y.2 n (Nat.lt_of_lt_of_le hn x.1)).trans (x.2 n hn)⟩
theorem Ext.mk {h : Heap} (x : Blk) : Ext h (h.mk' h.next x) := ⟨by rw [mk_next]; omega, fun b hb => by rw [Heap.get_mk, if_neg (by omega)]⟩

mutual
/-- A live value, told; the blocks that it reaches, in their row. -/
inductive Fd (h : Heap) : AV → AV → List Nat → Prop
  | told {x : AV} (hx : x.told = true) : Fd h x x []
  | sl {b off len cap sz : Nat} {l cs cs' : List AV} {e : TypeId} {ver : Nat} {D : List Nat} (hl : 0 < len) (hn : b < h.next) (hg : h.get b = some (.cells l e ver)) (hc : cut l off (len * sz) = some cs) (t : Fds h cs cs' D) : Fd h (.sl b off len cap sz) (.rs cs' len) (b :: D)
  | sl0 {b off cap sz : Nat} : Fd h (.sl b off 0 cap sz) (.rs [] 0) []
  | ptr {b off : Nat} {l cs' : List AV} {e : TypeId} {ver : Nat} {D : List Nat} (hn : b < h.next) (hg : h.get b = some (.cells l e ver)) (t : Fds h (l.drop off) cs' D) : Fd h (.ptr b off) (.rp cs') (b :: D)
  | agg {l l' : List AV} {D : List Nat} (t : Fds h l l' D) : Fd h (.agg l) (.agg l') D
  | tup {l l' : List AV} {D : List Nat} (t : Fds h l l' D) : Fd h (.tup l) (.tup l') D
inductive Fds (h : Heap) : List AV → List AV → List Nat → Prop
  | nil : Fds h [] [] []
  | cons {x y : AV} {l k : List AV} {D E : List Nat} (f : Fd h x y D) (t : Fds h l k E) : Fds h (x :: l) (y :: k) (D ++ E)
end
section
variable {h h' : Heap}
theorem Fds.tolds : ∀ {l : List AV}, AV.tolds l = true → Fds h l l []
  | [], _ => .nil
  | x :: l, e => by
    simp only [AV.tolds, Bool.and_eq_true] at e
    exact .cons (D := []) (.told e.1) (Fds.tolds e.2)
theorem Fds.app : ∀ {l l' k k' : List AV} {D E : List Nat}, Fds h l k D → Fds h l' k' E → Fds h (l ++ l') (k ++ k') (D ++ E)
  | _, _, _, _, _, _, .nil, t => t
  | _, _, _, _, _, _, .cons f t, t' => by rw [List.append_assoc]; exact .cons f (t.app t')
theorem Fds.length : ∀ {l k : List AV} {D : List Nat}, Fds h l k D → k.length = l.length
  | _, _, _, .nil => rfl
  | _, _, _, .cons _ t => by simp [t.length]
theorem Fds.cast {l k : List AV} {D E : List Nat} (t : Fds h l k D) (e : D = E) : Fds h l k E := e ▸ t
theorem Fd.cast {l k : AV} {D E : List Nat} (t : Fd h l k D) (e : D = E) : Fd h l k E := e ▸ t
mutual
theorem Fd.fz : ∀ {x y : AV} {D : List Nat}, Fd h x y D → Fz true h x y
  | _, _, _, .told hx => Fz.refl hx
  | _, _, _, .sl hl _ hg hc t => .sl hl hg hc t.fzs
  | _, _, _, .sl0 => .sl0
  | _, _, _, .ptr _ hg t => .ptr hg t.fzs
  | _, _, _, .agg t => .agg t.fzs
  | _, _, _, .tup t => .tup t.fzs
theorem Fds.fzs : ∀ {x y : List AV} {D : List Nat}, Fds h x y D → Fzs true h x y
  | _, _, _, .nil => .nil
  | _, _, _, .cons f t => .cons f.fz t.fzs
end
mutual
theorem Fd.frame (hn : h.next ≤ h'.next) : ∀ {x y : AV} {D : List Nat}, Fd h x y D → (∀ b ∈ D, h'.get b = h.get b) → Fd h' x y D
  | _, _, _, .told hx, _ => .told hx
  | _, _, _, .sl hl hb hg hc t, k => .sl hl (Nat.lt_of_lt_of_le hb hn) ((k _ List.mem_cons_self).trans hg) hc (t.frame hn fun b hb => k b (List.mem_cons_of_mem _ hb))
  | _, _, _, .sl0, _ => .sl0
  | _, _, _, .ptr hb hg t, k => .ptr (Nat.lt_of_lt_of_le hb hn) ((k _ List.mem_cons_self).trans hg) (t.frame hn fun b hb => k b (List.mem_cons_of_mem _ hb))
  | _, _, _, .agg t, k => .agg (t.frame hn k)
  | _, _, _, .tup t, k => .tup (t.frame hn k)
theorem Fds.frame (hn : h.next ≤ h'.next) : ∀ {x y : List AV} {D : List Nat}, Fds h x y D → (∀ b ∈ D, h'.get b = h.get b) → Fds h' x y D
  | _, _, _, .nil, _ => .nil
  | _, _, _, .cons f t, k => .cons (f.frame hn fun b hb => k b (List.mem_append_left _ hb)) (t.frame hn fun b hb => k b (List.mem_append_right _ hb))
end
mutual
theorem Fd.lt : ∀ {x y : AV} {D : List Nat}, Fd h x y D → ∀ b ∈ D, b < h.next
  | _, _, _, .told hx => fun b hb => by simp at hb
  | _, _, _, .sl hl hb hg hc t => fun b h => by rcases List.mem_cons.1 h with rfl | h; exact hb; exact t.lt b h
  | _, _, _, .sl0 => fun b hb => by simp at hb
  | _, _, _, .ptr hb hg t => fun b h => by rcases List.mem_cons.1 h with rfl | h; exact hb; exact t.lt b h
  | _, _, _, .agg t => t.lt
  | _, _, _, .tup t => t.lt
theorem Fds.lt : ∀ {x y : List AV} {D : List Nat}, Fds h x y D → ∀ b ∈ D, b < h.next
  | _, _, _, .nil => fun b hb => by simp at hb
  | _, _, _, .cons f t => fun b h => by rcases List.mem_append.1 h with h | h; exact f.lt b h; exact t.lt b h
end
theorem Fd.ext {x y : AV} {D : List Nat} (f : Fd h x y D) (e : Ext h h') : Fd h' x y D := f.frame e.1 fun b hb => e.2 b (f.lt b hb)
theorem Fds.ext {x y : List AV} {D : List Nat} (f : Fds h x y D) (e : Ext h h') : Fds h' x y D := f.frame e.1 fun b hb => e.2 b (f.lt b hb)
end

mutual
/-- numbers, truths, texts, slices and structs of them: nothing told, no functions, no maps -/
def AV.bare : AV → Bool
  | .undef | .bool _ | .int .. | .str _ | .nilp | .nils | .nilm | .nilf | .ptr .. | .sl .. => true
  | .agg l | .tup l => AV.bares l
  | _ => false
def AV.bares : List AV → Bool
  | [] => true
  | x :: l => x.bare && AV.bares l
end
theorem bares_app : ∀ {l k : List AV}, AV.bares (l ++ k) = (AV.bares l && AV.bares k)
  | [], _ => by simp [AV.bares]
  | x :: l, k => by rw [List.cons_append, AV.bares, AV.bares, bares_app, Bool.and_assoc]
/-- all that is reached is bare, block by block -/
def Own (h : Heap) (D : List Nat) : Prop := ∀ b ∈ D, ∃ l e ver, h.get b = some (.cells l e ver) ∧ AV.bares l = true

mutual
def sh (n : Nat) : AV → AV
  | .ptr b off => .ptr (n + b) off
  | .sl b off len cap sz => .sl (n + b) off len cap sz
  | .agg l => .agg (shs n l)
  | .tup l => .tup (shs n l)
  | x => x
def shs (n : Nat) : List AV → List AV
  | [] => []
  | x :: l => sh n x :: shs n l
end
theorem shs_map (n : Nat) : ∀ l, shs n l = l.map (sh n)
  | [] => rfl
  | x :: l => by rw [shs, List.map_cons, shs_map]
section
variable {φ φ2 : Env} {w : World} {n : Nat}
mutual
theorem VR.sh (h2 : ∀ b p, φ b = some p → φ2 (n + b) = some p) : ∀ {x : AV} {u : Value}, VR φ w x u → x.bare = true → VR φ2 w (VM.sh n x) u
  | _, _, .undef, _ => .undef
  | _, _, .bool b, _ => .bool b
  | _, _, .int k n, _ => .int k n
  | _, _, .str s, _ => .str s
  | _, _, .ptr h, _ => .ptr (h2 _ _ h)
  | _, _, .nilp, _ => .nilp
  | _, _, .sl h hc hl hs hr, _ => .sl (h2 _ _ h) hc hl hs hr
  | _, _, .sl0 a, _ => .sl0 a
  | _, _, .nils, _ => .nils
  | _, _, .map h, e => by cases e
  | _, _, .nilm, _ => .nilm
  | _, _, .fn h, e => by cases e
  | _, _, .nilf, _ => .nilf
  | _, _, .agg h, e => .agg (VRs.sh h2 h e)
  | _, _, .tup h, e => .tup (VRs.sh h2 h e)
  | _, _, .rs .., e => by cases e
  | _, _, .rs0 .., e => by cases e
  | _, _, .rp .., e => by cases e
theorem VRs.sh (h2 : ∀ b p, φ b = some p → φ2 (n + b) = some p) : ∀ {x : List AV} {u : List Value}, VRs φ w x u → AV.bares x = true → VRs φ2 w (VM.shs n x) u
  | _, _, .nil, _ => .nil
  | _, _, .cons h t, e => by
    simp only [AV.bares, Bool.and_eq_true] at e
    exact .cons (VR.sh h2 h e.1) (VRs.sh h2 t e.2)
end
theorem VRm.sh (h2 : ∀ b p, φ b = some p → φ2 (n + b) = some p) : ∀ {x : List AV} {B o : Nat}, VRm φ w x B o → AV.bares x = true → VRm φ2 w (VM.shs n x) B o
  | _, _, _, .nil, _ => .nil
  | _, _, _, .cons hc h t, e => by
    simp only [AV.bares, Bool.and_eq_true] at e
    exact .cons hc (VR.sh h2 h e.1) (VRm.sh h2 t e.2)
end
theorem shs_cut {n : Nat} {l cs : List AV} {i m : Nat} (h : cut l i m = some cs) : cut (shs n l) i m = some (shs n cs) := by
  rw [cut_eq] at h ⊢
  split at h
  · rename_i e
    cases h
    rw [shs_map, shs_map, ← List.map_drop, ← List.map_take, List.length_map, if_pos e]
  · cases h
theorem shs_drop (n : Nat) (l : List AV) (i : Nat) : shs n (l.drop i) = (shs n l).drop i := by rw [shs_map, shs_map, List.map_drop]
/-- memory with new blocks behind it -/
def lay (h : Heap) (h0 : Heap) (D : List Nat) : Nat → T Blk
  | 0 => h.t
  | m + 1 => (lay h h0 D m).set (h.next + m) (if m ∈ D then (match h0.get m with
    | some (.cells l e ver) => .cells (shs h.next l) e ver
    | _ => .dead) else .dead)
theorem lay_get (h h0 : Heap) (D : List Nat) (b : Nat) : ∀ m, (lay h h0 D m).get b = if h.next ≤ b ∧ b < h.next + m then some (if b - h.next ∈ D then (match h0.get (b - h.next) with
    | some (.cells l e ver) => .cells (shs h.next l) e ver
    | _ => .dead) else .dead) else h.get b
  | 0 => by rw [if_neg (by omega)]; rfl
  | m + 1 => by
    rw [lay, T.get_set, lay_get h h0 D b m]
    by_cases e : b = h.next + m
    · subst e
      rw [if_pos rfl, if_pos (show h.next ≤ h.next + m ∧ h.next + m < h.next + (m + 1) from ⟨by omega, by omega⟩), Nat.add_sub_cancel_left]
    · rw [if_neg e]
      by_cases c : h.next ≤ b ∧ b < h.next + m
      · rw [if_pos c, if_pos (show h.next ≤ b ∧ b < h.next + (m + 1) from ⟨by omega, by omega⟩)]
      · rw [if_neg c, if_neg (show ¬ (h.next ≤ b ∧ b < h.next + (m + 1)) from by omega)]
def laid (h h0 : Heap) (D : List Nat) : Heap := ⟨h.next + h0.next, lay h h0 D h0.next⟩
theorem laid_old {h h0 : Heap} {D : List Nat} {b : Nat} (hb : b < h.next) : (laid h h0 D).get b = h.get b := by
  show (lay h h0 D h0.next).get b = _
  rw [lay_get, if_neg (by omega)]
theorem laid_new {h h0 : Heap} {D : List Nat} {b : Nat} {l : List AV} {e : TypeId} {ver : Nat} (hb : b < h0.next) (hD : b ∈ D) (hg : h0.get b = some (.cells l e ver)) : (laid h h0 D).get (h.next + b) = some (.cells (shs h.next l) e ver) := by
  show (lay h h0 D h0.next).get (h.next + b) = _
  rw [lay_get, if_pos ⟨by omega, by omega⟩, Nat.add_sub_cancel_left, if_pos hD, hg]
theorem laid_ext (h h0 : Heap) (D : List Nat) : Ext h (laid h h0 D) := ⟨Nat.le_add_right _ _, fun _ hb => laid_old hb⟩

section
variable {P : Program}
/-- A call that was shown in an empty memory, in any memory: what it makes is laid behind it. -/
theorem OK.laid {f : Nat} {args args' : List AV} {h h0 : Heap} {v : AV} {D : List Nat} (ha : Fzs true h args args') (o : OK P f args' ⟨0, .e⟩ v h0) (hv : v.bare = true) (hD : Own h0 D) (hlt : ∀ b ∈ D, b < h0.next) :
    OK P f args h (sh h.next v) (VM.laid h h0 D) := by
  refine ⟨o.1, fun φ w us hr hus => ?_⟩
  have hus' : VRs none0 w args' us.toList := Fzs.vrs hr (fun _ _ _ _ c p e => by cases e) (fun _ _ => rfl) ha hus
  refine Calls.mono (o.2 none0 w us (hr_empty w) hus') ?_
  rintro e w' ⟨φ', u, rfl, hvu, hr', hu⟩
  have old : ∀ b p, φ b = some p → b < h.next := fun b p hb => by
    rcases Nat.lt_or_ge b h.next with c | c
    · exact c
    · have := hr.blk b
      rw [hr.next b c] at this
      rw [show φ b = none from this] at hb; cases hb
  have new' : ∀ b B o, φ' b = some (B, o) → w.heap.size ≤ B := fun b B o hb => by
    rcases hu.new b B o hb with ⟨_, _, c⟩ | c
    · cases c
    · exact c
  have keep : ∀ B, B < w.heap.size → w'.heap[B]? = w.heap[B]? := fun B hB => hu.keep B hB fun _ _ c => by cases c
  let φ2 : Env := fun b => if b < h.next then φ b else φ' (b - h.next)
  have f1 : ∀ b, b < h.next → φ2 b = φ b := fun b hb => if_pos hb
  have f2 : ∀ b, φ2 (h.next + b) = φ' b := fun b => by
    show (if h.next + b < h.next then _ else _) = _
    rw [if_neg (by omega), Nat.add_sub_cancel_left]
  have f2' : ∀ b, h.next ≤ b → φ2 b = φ' (b - h.next) := fun b hb => if_neg (by omega)
  have hU : Upd φ w φ2 w' := ⟨hu.os, hu.tape, hu.output, hu.size, fun b p hb => by rw [f1 b (old b p hb)]; exact hb, fun b B o hb => by
      rcases Nat.lt_or_ge b h.next with c | c
      · rw [f1 b c] at hb; exact .inl ⟨_, _, hb⟩
      · rw [f2' b c] at hb; exact .inr (new' _ _ _ hb), fun B hB _ => keep B hB, hu.shape⟩
  have g2 : ∀ b, h.next ≤ b → ((VM.laid h h0 D).get b = some .dead ∨ (∃ l e ver, b - h.next ∈ D ∧ h0.get (b - h.next) = some (.cells l e ver) ∧ AV.bares l = true ∧ (VM.laid h h0 D).get b = some (.cells (shs h.next l) e ver)) ∨ (h0.next ≤ b - h.next ∧ (VM.laid h h0 D).get b = none)) := fun b hb => by
    by_cases c : b - h.next ∈ D
    · obtain ⟨l, e, ver, q1, q2⟩ := hD _ c
      refine .inr (.inl ⟨l, e, ver, c, q1, q2, ?_⟩)
      have := laid_new (h := h) (hlt _ c) c q1
      rwa [show h.next + (b - h.next) = b by omega] at this
    · have : (VM.laid h h0 D).get b = if h.next ≤ b ∧ b < h.next + h0.next then some .dead else h.get b := by
        show (lay h h0 D h0.next).get b = _
        rw [lay_get, if_neg c]
      rw [this]
      by_cases c2 : b < h.next + h0.next
      · rw [if_pos ⟨hb, c2⟩]; exact .inl rfl
      · rw [if_neg (by omega), hr.next b hb]; exact .inr (.inr ⟨by omega, rfl⟩)
  refine ⟨φ2, u, rfl, hvu.sh (fun b p hb => by rw [f2]; exact hb) hv, ⟨fun b => ?_, fun b p hb => ?_, fun b b' p p' hl hl' hp hp' he => ?_, fun b hb => ?_⟩, ?_⟩
  · rcases Nat.lt_or_ge b h.next with c | c
    · rw [laid_old c]
      cases hl : live (h.get b) with
      | true => exact BR.upd hr hU hl fun p hp => keep _ (hr.lt _ _ hp)
      | false =>
        have hb := hr.blk b
        rcases not_live (x := h.get b) (by rw [hl]; simp) with e | e
        · rw [e] at hb ⊢
          exact (f1 b c).trans hb
        · rw [e]; trivial
    · rcases g2 b c with e | ⟨l, e, ver, q0, q1, q2, q3⟩ | ⟨e1, e⟩
      · rw [e]; trivial
      · rw [q3]
        have hb := hr'.blk (b - h.next)
        rw [q1] at hb
        obtain ⟨B, o, e', n, h1, h2, h3, h4, h5⟩ := hb
        exact ⟨B, o, e', n, by rw [f2' b c]; exact h1, h2, h3.sh (fun b p hb => by rw [f2]; exact hb) q2, h4, by rw [shs_map, List.length_map]; exact h5⟩
      · rw [e]
        have hb := hr'.blk (b - h.next)
        rw [hr'.next _ e1] at hb
        exact (f2' b c).trans hb
  · rcases Nat.lt_or_ge b h.next with c | c
    · rw [f1 b c] at hb
      exact Nat.lt_of_lt_of_le (hr.lt _ _ hb) hu.size
    · rw [f2' b c] at hb
      exact hr'.lt _ _ hb
  · rcases Nat.lt_or_ge b h.next with c | c <;> rcases Nat.lt_or_ge b' h.next with c' | c'
    · rw [f1 b c] at hp; rw [f1 b' c'] at hp'
      rw [laid_old c] at hl; rw [laid_old c'] at hl'
      exact hr.inj b b' p p' hl hl' hp hp' he
    · rw [f1 b c] at hp; rw [f2' b' c'] at hp'
      have := hr.lt _ _ hp
      have := new' _ p'.1 p'.2 hp'
      omega
    · rw [f2' b c] at hp; rw [f1 b' c'] at hp'
      have := hr.lt _ _ hp'
      have := new' _ p.1 p.2 hp
      omega
    · rw [f2' b c] at hp; rw [f2' b' c'] at hp'
      have L : ∀ d, h.next ≤ d → live ((VM.laid h h0 D).get d) = true → live (h0.get (d - h.next)) = true := fun d hd hl => by
        rcases g2 d hd with e | ⟨l, e, ver, q0, q1, q2, q3⟩ | ⟨_, e⟩
        · rw [e] at hl; cases hl
        · rw [q1]; rfl
        · rw [e] at hl; cases hl
      have := hr'.inj _ _ p p' (L b c hl) (L b' c' hl') hp hp' he
      omega
  · have hb' : h.next + h0.next ≤ b := hb
    rcases g2 b (by omega) with e | ⟨l, e, ver, q0, _⟩ | ⟨_, e⟩
    · exfalso
      have : (VM.laid h h0 D).get b = h.get b := by
        show (lay h h0 D h0.next).get b = _
        rw [lay_get, if_neg (by omega)]
      rw [this, hr.next b (by omega)] at e; cases e
    · have := hlt _ q0; omega
    · exact e
  · have oldg : ∀ b, h.get b ≠ none → b < h.next := fun b hb => by
      rcases Nat.lt_or_ge b h.next with c | c
      · exact c
      · exact absurd (hr.next b c) hb
    exact { toUpd := hU, keepL := fun B hB _ => keep B hB
            deadL := fun b h1 h2 => by rw [laid_old (oldg b h1)]; exact ⟨h1, h2, f1 b (oldg b h1)⟩
            newL := fun b B o h1 h2 => by
              rcases Nat.lt_or_ge b h.next with c | c
              · rw [laid_old c] at h1; rw [f1 b c] at h2; exact .inl ⟨_, _, h1, h2⟩
              · rw [f2' b c] at h2; exact .inr (new' _ _ _ h2)
            stay := fun b h1 => by rw [laid_old (oldg b h1)]; exact h1 }
end

def blkOf : AV → List Nat
  | .sl b .. => [b]
  | _ => []
/-- a slice over the whole of its block, or none -/
def Row (h : Heap) (v : AV) (sz : Nat) (cs : List AV) (n : Nat) : Prop :=
  (v = .nils ∧ n = 0 ∧ cs = []) ∨ ∃ b e ver, v = .sl b 0 n n sz ∧ 0 < n ∧ b < h.next ∧ cs.length = n * sz ∧ h.get b = some (.cells cs e ver)
theorem Row.nil (h : Heap) (sz : Nat) : Row h .nils sz [] 0 := .inl ⟨rfl, rfl, rfl⟩
theorem Row.len {h : Heap} {v : AV} {sz n : Nat} {cs : List AV} (r : Row h v sz cs n) (hh : Heap) : lnV hh v = .val (.int .i64 n) hh := by
  rcases r with ⟨rfl, rfl, rfl⟩ | ⟨b, e, ver, rfl, _⟩ <;> rfl
theorem Row.one {h : Heap} {v : AV} {sz n : Nat} {cs : List AV} (r : Row h v sz cs n) : v.one = true := by
  rcases r with ⟨rfl, rfl, rfl⟩ | ⟨b, e, ver, rfl, _⟩ <;> rfl
theorem Row.bare {h : Heap} {v : AV} {sz n : Nat} {cs : List AV} (r : Row h v sz cs n) : v.bare = true := by
  rcases r with ⟨rfl, rfl, rfl⟩ | ⟨b, e, ver, rfl, _⟩ <;> rfl
theorem Row.lt {h : Heap} {v : AV} {sz n : Nat} {cs : List AV} (r : Row h v sz cs n) : ∀ b ∈ blkOf v, b < h.next := by
  rcases r with ⟨rfl, rfl, rfl⟩ | ⟨b, e, ver, rfl, _, h1, _⟩
  · intro b hb; simp [blkOf] at hb
  · intro c hc; simp [blkOf] at hc; omega
theorem Row.frame {h h' : Heap} {v : AV} {sz n : Nat} {cs : List AV} (r : Row h v sz cs n) (hn : h.next ≤ h'.next) (hg : ∀ b ∈ blkOf v, h'.get b = h.get b) : Row h' v sz cs n := by
  rcases r with ⟨rfl, rfl, rfl⟩ | ⟨b, e, ver, rfl, h0, h1, h2, h3⟩
  · exact .nil _ _
  · exact .inr ⟨b, e, ver, rfl, h0, by omega, h2, (hg b (by simp [blkOf])).trans h3⟩
theorem Row.ext {h h' : Heap} {v : AV} {sz n : Nat} {cs : List AV} (r : Row h v sz cs n) (e : Ext h h') : Row h' v sz cs n := r.frame e.1 fun b hb => e.2 b (r.lt b hb)
theorem Row.length {h : Heap} {v : AV} {sz n : Nat} {cs : List AV} (r : Row h v sz cs n) : cs.length = n * sz := by
  rcases r with ⟨rfl, rfl, rfl⟩ | ⟨b, e, ver, rfl, _, _, h2, _⟩
  · simp
  · exact h2
theorem cells_of {h : Heap} {b n sz : Nat} {c : List AV} {e : TypeId} {ver : Nat} (hg : h.get b = some (.cells c e ver)) (hl : c.length = n * sz) (cap : Nat) : cellsOf h sz n (.sl b 0 n cap sz) = some c := by
  simp only [cellsOf, Nat.le_refl, if_true, hg, cut_eq, List.drop_zero, ← hl, List.take_length]
/-- elements are put behind -/
theorem Row.append {h : Heap} {v x : AV} {sz n m : Nat} {cs c : List AV} (r : Row h v sz cs n) (hx : cellsOf h sz m x = some c) (hlx : lenV x = some m) (hm : 0 < m) (hl : c.length = m * sz) (ho : c.all AV.one = true) {bytes : Nat} (hb : (n + m) * bytes ≤ most2) (e : TypeId) :
    ∃ h', appendV h sz bytes e v x = some (.sl h.next 0 (n + m) (n + m) sz, h') ∧ Row h' (.sl h.next 0 (n + m) (n + m) sz) sz (cs ++ c) (n + m) ∧ h'.next = h.next + 1 ∧ ∀ b, b ∉ blkOf v → b ≠ h.next → h'.get b = h.get b := by
  rcases r with ⟨rfl, rfl, rfl⟩ | ⟨b, e0, ver, rfl, h0, h1, h2, h3⟩
  · refine ⟨h.mk' h.next (.cells c e 0), ?_, .inr ⟨h.next, e, 0, rfl, by omega, by rw [mk_next]; omega, by rw [List.nil_append, hl, Nat.zero_add], by rw [Heap.get_mk, if_pos rfl, List.nil_append]⟩, by rw [mk_next]; omega, fun b _ hb => by rw [Heap.get_mk, if_neg hb]⟩
    simp only [appendV, hlx, hx, hl, ho, and_self, if_true]
    rw [if_neg (by omega), if_pos (by rwa [Nat.zero_add] at hb), Nat.zero_add]
  · refine ⟨(h.put b .dead).mk' h.next (.cells (cs ++ c) e 0), ?_, .inr ⟨h.next, e, 0, rfl, by omega, ?_, ?_, by rw [Heap.get_mk, if_pos rfl]⟩, ?_, fun b' hb' hb => ?_⟩
    · have hbq : Nat.beq sz sz = true := by rw [Nat.beq_eq]
      simp only [appendV, hlx, hx, hl, ho, and_self, if_true, hbq, cond_true, cells_of h3 h2]
      rw [if_neg (by omega), if_pos hb]
    · rw [mk_next, put_next]; omega
    · rw [List.length_append, h2, hl, Nat.add_mul]
    · rw [mk_next, put_next]; omega
    · rw [Heap.get_mk, if_neg hb, Heap.get_put, if_neg (by simpa [blkOf] using hb')]
/-- one element of a literal -/
theorem Row.push {h : Heap} {v : AV} {sz n nb : Nat} {cs c : List AV} (r : Row h v sz cs n) {eb : TypeId} {vb : Nat} (hg : h.get nb = some (.cells c eb vb)) (hl : c.length = sz) (ho : c.all AV.one = true) {bytes : Nat} (hb : (n + 1) * bytes ≤ most2) (e : TypeId) :
    ∃ h', appendV h sz bytes e v (.sl nb 0 1 1 sz) = some (.sl h.next 0 (n + 1) (n + 1) sz, h') ∧ Row h' (.sl h.next 0 (n + 1) (n + 1) sz) sz (cs ++ c) (n + 1) ∧ h'.next = h.next + 1 ∧ ∀ b, b ∉ blkOf v → b ≠ h.next → h'.get b = h.get b :=
  r.append (cells_of hg (by rw [hl, Nat.one_mul]) 1) rfl (by decide) (by rw [hl, Nat.one_mul]) ho hb e
/-- its cells told -/
theorem Row.fd {h : Heap} {v : AV} {sz n : Nat} {cs cs' : List AV} {D : List Nat} (r : Row h v sz cs n) (t : Fds h cs cs' D) : ∃ v', Fd h v v' (blkOf v ++ D) ∧ ((v' = .nils ∧ n = 0) ∨ v' = .rs cs' n) := by
  rcases r with ⟨rfl, rfl, rfl⟩ | ⟨b, e0, ver, rfl, h0, h1, h2, h3⟩
  · cases t
    exact ⟨_, .told rfl, .inl ⟨rfl, rfl⟩⟩
  · refine ⟨_, .sl h0 h1 h3 (cs := cs) ?_ t, .inr rfl⟩
    rw [cut_eq, List.drop_zero, ← h2, List.take_length, if_pos rfl]
/-- an element of a row, by its place -/
theorem Row.at {h : Heap} {v : AV} {sz n : Nat} {cs : List AV} (r : Row h v sz cs n) {i : Nat} (hi : i < n) : ∃ b e ver, v = .sl b 0 n n sz ∧ h.get b = some (.cells cs e ver) ∧ b < h.next ∧ ∀ (hh : Heap) (kk : IntKind), iaV hh sz none v (.int kk (i : Int)) = .val (.ptr b (i * sz)) hh := by
  rcases r with ⟨rfl, rfl, rfl⟩ | ⟨b, e0, ver, rfl, h0, h1, h2, h3⟩
  · omega
  · refine ⟨b, e0, ver, rfl, h3, h1, fun hh kk => ?_⟩
    rw [iaV_sl, if_pos ⟨by omega, by omega, rfl⟩, Int.toNat_natCast, Nat.zero_add]
end Go.Proofs.Ytinonmcnofjeeaa.VM
