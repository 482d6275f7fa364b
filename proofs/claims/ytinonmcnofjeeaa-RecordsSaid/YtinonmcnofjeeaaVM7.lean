/- The small machine's operations stand for the program's: what is the same. -/
import Derived.Test.YtinonmcnofjeeaaVM6
namespace Go.Proofs.Ytinonmcnofjeeaa.VM
set_option linter.unusedSimpArgs false
set_option linter.unusedVariables false
set_option linter.defProp false
set_option maxHeartbeats 1000000
open Go.RowKit

section
variable {P : Program} {φ : Env} {w : World} {H : Heap}

theorem sameK_int {t : TypeId} {k0 : IntKind} (ht : P.underlying t = some (.int k0)) {x y : AV} {u v : Value} {b : Bool} (hx : VR φ w x u) (hy : VR φ w y v) (h : sameK .int x y = some b) (d : Nat) :
    (Op.equalIn (d + 1) t u v).run P w = .ok b w := by
  cases hx <;> cases hy <;> simp only [sameK] at h <;> try (cases h; done)
  case int.int k n k' m =>
    split at h
    · rename_i ek
      subst ek
      cases h
      rw [run_equalIn_int w d t k k0 n m ht]; rfl
    · cases h
theorem sameK_bool {t : TypeId} (ht : P.underlying t = some .bool) {x y : AV} {u v : Value} {b : Bool} (hx : VR φ w x u) (hy : VR φ w y v) (h : sameK .bool x y = some b) (d : Nat) :
    (Op.equalIn (d + 1) t u v).run P w = .ok b w := by
  cases hx <;> cases hy <;> simp only [sameK] at h <;> try (cases h; done)
  case bool.bool a c => cases h; exact run_equalIn_bool w d t a c ht
theorem sameK_str {t : TypeId} (ht : P.underlying t = some .string) {x y : AV} {u v : Value} {b : Bool} (hx : VR φ w x u) (hy : VR φ w y v) (h : sameK .str x y = some b) (d : Nat) :
    (Op.equalIn (d + 1) t u v).run P w = .ok b w := by
  cases hx <;> cases hy <;> simp only [sameK] at h <;> try (cases h; done)
  case str.str a c =>
    cases h
    rw [run_equalIn_string w d t a c ht]
    congr 1
    rw [Bool.eq_iff_iff, beq_iff_eq, beq_iff_eq, toList_data, toList_data]
    exact tx_inj.symm

theorem sameCells_append : ∀ (ks ks' : List EqC) (a b a' b' : List AV), a.length = ks.length → b.length = ks.length →
    sameCells (ks ++ ks') (a ++ a') (b ++ b') = (match sameCells ks a b with | some true => sameCells ks' a' b' | r => r)
  | [], _, [], [], _, _, _, _ => by simp [sameCells]
  | k :: ks, ks', x :: a, y :: b, a', b', h1, h2 => by
    simp only [List.cons_append, sameCells]
    split
    · exact sameCells_append ks ks' a b a' b' (by simpa using h1) (by simpa using h2)
    · rename_i r hr
      split
      · rename_i hh; exact absurd hh hr
      · rfl
  | [], _, _ :: _, _, _, _, h1, _ => by simp at h1
  | [], _, [], _ :: _, _, _, _, h2 => by simp at h2
  | _ :: _, _, [], _, _, _, h1, _ => by simp at h1
  | _ :: _, _, _ :: _, [], _, _, _, h2 => by simp at h2

/-- a part's '==', out of its cells -/
def PartEq (P : Program) (d : Nat) (t : TypeId) (ks : List EqC) : Prop :=
  ∀ (φ : Env) (w : World) (l1 l2 : List AV) (xs ys : Array Value) (off : Nat) (b : Bool), VRs φ w l1 xs.toList → VRs φ w l2 ys.toList → off + ks.length ≤ l1.length → off + ks.length ≤ l2.length →
    sameCells ks ((l1.drop off).take ks.length) ((l2.drop off).take ks.length) = some b → ∀ D, d ≤ D →
    ∃ a c, (Go.part t xs off).run P w = .ok a w ∧ (Go.part t ys off).run P w = .ok c w ∧ (Op.equalIn D t a c).run P w = .ok b w

theorem fields_eq {d : Nat} {rec : TypeId → Option (List EqC)} (hrec : ∀ t ks, rec t = some ks → has P t = true → P.cellsOf t = ks.length → PartEq P d t ks) :
    ∀ (fs : List Field) (n : Nat) (ks : List EqC), eqFs P rec fs n = some ks → ∀ (φ : Env) (w : World) (l1 l2 : List AV) (xs ys : Array Value) (b : Bool), VRs φ w l1 xs.toList → VRs φ w l2 ys.toList →
      n + ks.length ≤ l1.length → n + ks.length ≤ l2.length → sameCells ks ((l1.drop n).take ks.length) ((l2.drop n).take ks.length) = some b → ∀ D, d ≤ D → (Op.eqFields D xs ys fs).run P w = .ok b w
  | [], n, ks, h, φ, w, l1, l2, xs, ys, b, _, _, _, _, hs, D, _ => by
    simp only [eqFs, Option.some.injEq] at h
    subst h
    simp [sameCells] at hs
    subst hs
    simp [Op.eqFields]
  | f :: fs, n, ks, h, φ, w, l1, l2, xs, ys, b, hx, hy, g1, g2, hs, D, hD => by
    simp only [eqFs] at h
    split at h
    · cases h
    · rename_i hc
      simp only [not_or, Decidable.not_not, Bool.not_eq_false] at hc
      obtain ⟨c1, c2, c3⟩ := hc
      split at h
      · rename_i k1 hk1
        split at h
        · rename_i hsz
          rw [Option.map_eq_some_iff] at h
          obtain ⟨k2, hk2, rfl⟩ := h
          rw [List.length_append] at g1 g2 hs
          have e1 : ∀ l : List AV, n + (k1.length + k2.length) ≤ l.length → (l.drop n).take (k1.length + k2.length) = (l.drop n).take k1.length ++ ((l.drop (n + k1.length)).take k2.length) := by
            intro l _
            rw [List.take_add, List.drop_drop]
          rw [e1 l1 g1, e1 l2 g2, sameCells_append _ _ _ _ _ _ (by simp; omega) (by simp; omega)] at hs
          have hP := hrec _ _ hk1 c3 hsz
          simp only [Op.eqFields, c1, ne_eq, not_false_eq_true, if_true]
          have go : ∀ b1, sameCells k1 ((l1.drop n).take k1.length) ((l2.drop n).take k1.length) = some b1 → ∃ a c, (Go.part f.type xs f.offset).run P w = .ok a w ∧ (Go.part f.type ys f.offset).run P w = .ok c w ∧ (Op.equalIn D f.type a c).run P w = .ok b1 w := by
            intro b1 hb1
            rw [c2]
            exact hP φ w l1 l2 xs ys n b1 hx hy (by omega) (by omega) hb1 D hD
          split at hs
          · rename_i htrue
            obtain ⟨a, c, p1, p2, p3⟩ := go true htrue
            have ih := fields_eq hrec fs (n + k1.length) k2 hk2 φ w l1 l2 xs ys b hx hy (by omega) (by omega) hs D hD
            simp [p1, p2, p3, ih]
          · rename_i hne
            obtain ⟨a, c, p1, p2, p3⟩ := go b hs
            cases b with
            | true => exact absurd hs hne
            | false => simp [p1, p2, p3]
        · cases h
      · cases h

theorem fieldsOf_eq {t : TypeId} {fs : Array Field} (h : P.underlying t = some (.struct fs)) : P.fieldsOf t = fs := by
  unfold Program.fieldsOf; rw [h]

theorem flat_eq : ∀ (d : Nat) (t : TypeId) (ks : List EqC), eqFlat P d t = some ks → has P t = true → P.cellsOf t = ks.length → PartEq P d t ks
  | 0, _, _, h, _, _ => by cases h
  | d + 1, t, ks, h, ht, hsz => by
    intro φ w l1 l2 xs ys off b hx hy g1 g2 hs D hD
    obtain ⟨D, rfl⟩ : ∃ m, D = m + 1 := ⟨D - 1, by omega⟩
    have one : ∀ (c : EqC), ks = [c] → isAggB P t = false → (∀ (x y : AV) (u v : Value), VR φ w x u → VR φ w y v → sameK c x y = some b → (Op.equalIn (D + 1) t u v).run P w = .ok b w) →
        ∃ a c, (Go.part t xs off).run P w = .ok a w ∧ (Go.part t ys off).run P w = .ok c w ∧ (Op.equalIn (D + 1) t a c).run P w = .ok b w := by
      intro c hk hagg hc
      subst hk
      have hp : ∀ (l : List AV), off + 1 ≤ l.length → ∃ x, (l.drop off).take 1 = [x] ∧ part (isAggB P t) l off (P.cellsOf t) = some x := by
        intro l hl
        have hne : (l.drop off).take 1 = [l[off]'(by omega)] := by
          rw [List.drop_eq_getElem_cons (by omega)]
          rfl
        refine ⟨_, hne, ?_⟩
        rw [hagg, hsz]
        unfold part cut
        simp [hne]
      obtain ⟨x, hx1, hx2⟩ := hp l1 g1
      obtain ⟨y, hy1, hy2⟩ := hp l2 g2
      obtain ⟨u, hu, hxu⟩ := part_ok ht hx hx2
      obtain ⟨v, hv, hyv⟩ := part_ok ht hy hy2
      refine ⟨u, v, hu, hv, hc x y u v hxu hyv ?_⟩
      rw [show [c].length = 1 from rfl, hx1, hy1] at hs
      simp only [sameCells] at hs
      split at hs
      · rename_i htrue; rw [← hs]; exact htrue
      · exact hs
    simp only [eqFlat] at h
    split at h
    · rename_i k0 hu
      cases h
      exact one .int rfl (by unfold isAggB; rw [hu]) fun x y u v h1 h2 h3 => sameK_int hu h1 h2 h3 D
    · rename_i hu
      cases h
      exact one .bool rfl (by unfold isAggB; rw [hu]) fun x y u v h1 h2 h3 => sameK_bool hu h1 h2 h3 D
    · rename_i hu
      cases h
      exact one .str rfl (by unfold isAggB; rw [hu]) fun x y u v h1 h2 h3 => sameK_str hu h1 h2 h3 D
    · rename_i fs hu
      split at h
      · cases h
      · rename_i hst
        have hagg : isAggB P t = true := by unfold isAggB; rw [hu]
        have hp : ∀ (l : List AV), off + ks.length ≤ l.length → part (isAggB P t) l off (P.cellsOf t) = some (.agg ((l.drop off).take ks.length)) := by
          intro l hl
          rw [hagg, hsz]
          unfold part cut
          have : ((l.drop off).take ks.length).length = ks.length := by simp; omega
          simp only [this, T.beq_dec, decide_true, cond_true, if_true]
        obtain ⟨u, hu1, hxu⟩ := part_ok ht hx (hp l1 g1)
        obtain ⟨v, hv1, hyv⟩ := part_ok ht hy (hp l2 g2)
        refine ⟨u, v, hu1, hv1, ?_⟩
        cases hxu with
        | agg q1 =>
          cases hyv with
          | agg q2 =>
            have hu' : P.underlying t = some (.struct (P.fieldsOf t)) := by rw [fieldsOf_eq hu]; exact hu
            rw [run_equalIn_struct w D t _ _ hu' (by simpa using hst), fieldsOf_eq hu]
            refine fields_eq (d := d) (fun t' ks' h1 h2 h3 => flat_eq d t' ks' h1 h2 h3) fs.toList 0 ks h φ w _ _ _ _ b q1 q2 (by simp; omega) (by simp; omega) ?_ D (by omega)
            rw [List.drop_zero, List.drop_zero, List.take_take, List.take_take, Nat.min_self]
            exact hs
    · cases h

theorem eqn_ptr {t : TypeId} {e : TypeId} (ht : P.underlying t = some (.pointer e)) {x y : AV} {u v : Value} {b : Bool} (hx : VR φ w x u) (hy : VR φ w y v) (h : eqv .ptr x y = some b) (d : Nat) :
    (Op.equalIn (d + 1) t u v).run P w = .ok b w := by
  cases hx <;> cases hy <;> simp only [eqv] at h <;> first | (cases h; done) | (cases h; simp [Op.equalIn, run_underlying ht])
theorem eqn_sl {t : TypeId} {e : TypeId} (ht : P.underlying t = some (.slice e)) {x y : AV} {u v : Value} {b : Bool} (hx : VR φ w x u) (hy : VR φ w y v) (h : eqv .sl x y = some b) (d : Nat) :
    (Op.equalIn (d + 1) t u v).run P w = .ok b w := by
  cases hx <;> cases hy <;> simp only [eqv] at h <;> first | (cases h; done) | (cases h; simp [Op.equalIn, run_underlying ht])
theorem eqn_map {t : TypeId} {e e' : TypeId} (ht : P.underlying t = some (.map e e')) {x y : AV} {u v : Value} {b : Bool} (hx : VR φ w x u) (hy : VR φ w y v) (h : eqv .map x y = some b) (d : Nat) :
    (Op.equalIn (d + 1) t u v).run P w = .ok b w := by
  cases hx <;> cases hy <;> simp only [eqv] at h <;> first | (cases h; done) | (cases h; simp [Op.equalIn, run_underlying ht])
theorem eqn_fn {t : TypeId} {e e' : Array TypeId} {e'' : Bool} (ht : P.underlying t = some (.func e e' e'')) {x y : AV} {u v : Value} {b : Bool} (hx : VR φ w x u) (hy : VR φ w y v) (h : eqv .fn x y = some b) (d : Nat) :
    (Op.equalIn (d + 1) t u v).run P w = .ok b w := by
  cases hx <;> cases hy <;> simp only [eqv] at h <;> first | (cases h; done) | (cases h; simp [Op.equalIn, run_underlying ht])

theorem eqv_ok {op : BinOp} {t : TypeId} {k : EqK} {x y : AV} {u v : Value} {b : Bool} (hop : op = .eql ∨ op = .neq) (xo yo : Operand) (hx : VR φ w x u) (hy : VR φ w y v) (h : eqv k x y = some b)
    (hk : (k = .bool ∧ P.underlying t = some .bool) ∨ (k = .ptr ∧ ∃ e, P.underlying t = some (.pointer e)) ∨ (k = .sl ∧ ∃ e, P.underlying t = some (.slice e)) ∨ (k = .map ∧ ∃ a b, P.underlying t = some (.map a b)) ∨
      (k = .fn ∧ ∃ a b c, P.underlying t = some (.func a b c)) ∨ (∃ ks fs, k = .flat ks ∧ P.underlying t = some (.struct fs) ∧ eqFlat P 5 t = some ks ∧ P.eqGuardType P.depth t = false)) :
    (do eqGuard op t xo yo u v; Go.binOp op t u v : Sem Value).run P w = .ok (.bool (b != decide (op = .neq))) w := by
  have fin : ∀ (g : (eqGuard op t xo yo u v).run P w = .ok () w) (e : (Op.equalIn 10000 t u v).run P w = .ok b w) (n1 : ∀ k a k' c, ¬ (u = .int k a ∧ v = .int k' c)) (n2 : ∀ a c, ¬ (u = .string a ∧ v = .string c)) (n3 : ∀ k a k' c, ¬ (u = .float k a ∧ v = .float k' c)) (n4 : ∀ k a a' k' c c', ¬ (u = .complex k a a' ∧ v = .complex k' c c')),
      (do eqGuard op t xo yo u v; Go.binOp op t u v : Sem Value).run P w = .ok (.bool (b != decide (op = .neq))) w := by
    intro g e n1 n2 n3 n4
    rw [Sem.run_bind, g, Result.andThen_ok]
    have e' : (Op.equal t u v).run P w = .ok b w := e
    rcases hop with rfl | rfl
    · have : Go.binOp .eql t u v = (do pure (.bool (← Op.equal t u v))) := by
        unfold Go.binOp
        split <;> first | rfl | (rename_i h1 h2 h3; cases h1; done) | skip
        all_goals first | (exact absurd ⟨rfl, rfl⟩ (n1 _ _ _ _)) | (exact absurd ⟨rfl, rfl⟩ (n2 _ _)) | (exact absurd ⟨rfl, rfl⟩ (n3 _ _ _ _)) | (exact absurd ⟨rfl, rfl⟩ (n4 _ _ _ _ _ _)) | (simp_all; done)
      rw [this]
      simp [e']
    · have : Go.binOp .neq t u v = (do pure (.bool (!(← Op.equal t u v)))) := by
        unfold Go.binOp
        split <;> first | rfl | (rename_i h1 h2 h3; cases h1; done) | skip
        all_goals first | (exact absurd ⟨rfl, rfl⟩ (n1 _ _ _ _)) | (exact absurd ⟨rfl, rfl⟩ (n2 _ _)) | (exact absurd ⟨rfl, rfl⟩ (n3 _ _ _ _)) | (exact absurd ⟨rfl, rfl⟩ (n4 _ _ _ _ _ _)) | (simp_all; done)
      rw [this]
      simp [e']
  have g0 : (∀ a c, ¬ (u = .agg a ∧ v = .agg c)) → (¬ (u = .nilIface ∧ v = .nilIface)) → (eqGuard op t xo yo u v).run P w = .ok () w := by
    intro h1 h2
    unfold eqGuard
    rcases hop with rfl | rfl
    · simp only [Bool.not_true, Bool.false_eq_true, if_false]
      split
      · exact absurd ⟨rfl, rfl⟩ h2
      · exact absurd ⟨rfl, rfl⟩ (h1 _ _)
      · rfl
    · simp only [Bool.not_true, Bool.false_eq_true, if_false]
      split
      · exact absurd ⟨rfl, rfl⟩ h2
      · exact absurd ⟨rfl, rfl⟩ (h1 _ _)
      · rfl
  rcases hk with ⟨rfl, ht⟩ | ⟨rfl, e, ht⟩ | ⟨rfl, e, ht⟩ | ⟨rfl, e, e', ht⟩ | ⟨rfl, e, e', e'', ht⟩ | ⟨ks, fs, rfl, ht, hf, hg⟩
  · have q := fun (a c : Bool) => run_equalIn_bool (P := P) w 9999 t a c ht
    cases hx <;> cases hy <;> simp only [eqv] at h <;> try (cases h; done)
    cases h
    exact fin (g0 (by simp) (by simp)) (q _ _) (by simp) (by simp) (by simp) (by simp)
  · have q := eqn_ptr ht hx hy h 9999
    cases hx <;> cases hy <;> simp only [eqv] at h <;> try (cases h; done)
    all_goals exact fin (g0 (by simp) (by simp)) q (by simp) (by simp) (by simp) (by simp)
  · have q := eqn_sl ht hx hy h 9999
    cases hx <;> cases hy <;> simp only [eqv] at h <;> try (cases h; done)
    all_goals exact fin (g0 (by simp) (by simp)) q (by simp) (by simp) (by simp) (by simp)
  · have q := eqn_map ht hx hy h 9999
    cases hx <;> cases hy <;> simp only [eqv] at h <;> try (cases h; done)
    all_goals exact fin (g0 (by simp) (by simp)) q (by simp) (by simp) (by simp) (by simp)
  · have q := eqn_fn ht hx hy h 9999
    cases hx <;> cases hy <;> simp only [eqv] at h <;> try (cases h; done)
    all_goals exact fin (g0 (by simp) (by simp)) q (by simp) (by simp) (by simp) (by simp)
  · cases hx <;> cases hy <;> simp only [eqv] at h <;> try (cases h; done)
    case agg.agg l1 vs1 h1 l2 vs2 h2 =>
      split at h
      · rename_i hl
        refine fin (run_eqGuard_agg w op t xo yo _ _ hg) ?_ (by simp) (by simp) (by simp) (by simp)
        have hu' : P.underlying t = some (.struct (P.fieldsOf t)) := by rw [fieldsOf_eq ht]; exact ht
        have hf' := hf
        simp only [eqFlat, ht] at hf'
        split at hf'
        · cases hf'
        · rename_i hst
          refine Eq.trans (run_equalIn_struct w 9999 t _ _ hu' (by simpa using hst)) ?_
          rw [fieldsOf_eq ht]
          refine fields_eq (d := 4) (fun t' ks' h1 h2 h3 => flat_eq 4 t' ks' h1 h2 h3) fs.toList 0 ks hf' φ w _ _ _ _ b h1 h2 (by omega) (by omega) ?_ 9999 (by omega)
          rw [List.drop_zero, List.drop_zero, List.take_of_length_le (by omega), List.take_of_length_le (by omega)]
          exact h
      · cases h

end
end Go.Proofs.Ytinonmcnofjeeaa.VM
