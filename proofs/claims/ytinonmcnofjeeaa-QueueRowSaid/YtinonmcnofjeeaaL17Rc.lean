/- Part of a proof: what stands for the program, and its walk. No condition. -/
import Derived.Below
import Derived.ChangeArms
import Derived.ChangeMaps5
import Derived.KernelRfl
import Derived.Laws.Cells
import Derived.Laws.IdiomCopy
import Derived.MapKept
import Derived.Orders
import Derived.SizedLaws
import Derived.WalkKit
import Derived.WalkLawsBesides
import GoSem.Claim
import Derived.Test.YtinonmcnofjeeaaL17Rb
set_option linter.unusedSimpArgs false
set_option linter.unusedVariables false
set_option linter.defProp false
set_option maxHeartbeats 1000000
namespace Go.Proofs.Ytinonmcnofjeeaa.VM
open Go.RowKit
/-- The shape of a cell; of a slice: an element's bytes, its cells. -/
inductive Sh where
  | int (k : IntKind)
  | bool
  | str
  | sl (bytes : Nat) (l : List Sh)
section
variable (P : Program)
def shFs (rec : TypeId → Option (List Sh)) : List Field → Nat → Option (List Sh)
  | [], _ => some []
  | f :: fs, n => if f.offset = n then (match rec f.type with
    | some l => if P.cellsOf f.type = l.length then (shFs rec fs (n + l.length)).map (l ++ ·) else none
    | none => none) else none
def shOf : Nat → TypeId → Option (List Sh)
  | 0, _ => none
  | d + 1, t => match P.underlying t with
    | some (.int k) => some [.int k]
    | some .bool => some [.bool]
    | some .string => some [.str]
    | some (.slice e) => match shOf d e with
      | some l => if l.length = P.cellsOf e ∧ 0 < l.length then some [.sl (P.bytesOf e) l] else none
      | none => none
    | some (.struct fs) => match shFs P (shOf d) fs.toList 0 with
      | some l => if l.length = P.cellsOf t then some l else none
      | none => none
    | _ => none
end
mutual
/-- cells of a shape -/
inductive W : Sh → AV → Prop
  | int (k : IntKind) (n : Int) (h : (Lit.int k n).wf = true) : W (.int k) (.int k n)
  | bool (b : Bool) : W .bool (.bool b)
  | str (s : ByteArray) (h : s.size ≤ reachBytes) : W .str (.str (s.data.toList.map fun c => c.toNat))
  | nils (b : Nat) (l : List Sh) : W (.sl b l) .nils
  | rs {b len : Nat} {l : List Sh} {c : List AV} (h : Wn l len c) (hb : len * b ≤ reachBytes) : W (.sl b l) (.rs c len)
inductive Ws : List Sh → List AV → Prop
  | nil : Ws [] []
  | cons {s : Sh} {x : AV} {l : List Sh} {k : List AV} (h : W s x) (t : Ws l k) : Ws (s :: l) (x :: k)
inductive Wn : List Sh → Nat → List AV → Prop
  | nil (l : List Sh) : Wn l 0 []
  | cons {l : List Sh} {c k : List AV} {n : Nat} (h : Ws l c) (t : Wn l n k) : Wn l (n + 1) (c ++ k)
end
theorem Ws.append : ∀ {l l' : List Sh} {k k' : List AV}, Ws l k → Ws l' k' → Ws (l ++ l') (k ++ k')
  | _, _, _, _, .nil, h => h
  | _, _, _, _, .cons h t, h' => .cons h (t.append h')
theorem Ws.length : ∀ {l : List Sh} {k : List AV}, Ws l k → l.length = k.length
  | _, _, .nil => rfl
  | _, _, .cons _ t => by simp [t.length]
theorem VRm.append {φ : Env} {w : World} {B : Nat} : ∀ {l k : List AV} {off : Nat}, VRm φ w l B off → VRm φ w k B (off + l.length) → VRm φ w (l ++ k) B off
  | _, _, _, .nil, h => h
  | _, k, off, .cons (l := l) hc h t, h' => .cons hc h (t.append (by rw [List.length_cons] at h'; rwa [show off + (l.length + 1) = off + 1 + l.length by omega] at h'))
theorem VRs.mem {φ : Env} {w : World} {B : Nat} : ∀ {l : List AV} {vs : List Value} {off : Nat}, VRs φ w l vs → (∀ j u, vs[j]? = some u → w.cell? ⟨B, off + j, none⟩ = some u) → VRm φ w l B off
  | _, _, _, .nil, _ => .nil
  | _, _, off, .cons (u := u) h t, hc => .cons (by simpa using hc 0 u rfl) h (t.mem fun j v hj => by rw [show off + 1 + j = off + (j + 1) by omega]; exact hc (j + 1) v hj)
theorem mapM_get {α β : Type} {f : α → Option β} : ∀ {l : List α} {r : List β}, l.mapM f = some r → r.length = l.length ∧ ∀ (j : Nat) (x : α) (y : β), l[j]? = some x → r[j]? = some y → f x = some y
  | [], r, h => by
    simp at h; subst h
    exact ⟨rfl, fun j x y h => by simp at h⟩
  | a :: l, r, h => by
    simp only [List.mapM_cons, Option.bind_eq_bind, Option.bind_eq_some_iff, Option.pure_def, Option.some.injEq] at h
    obtain ⟨b, h1, r', h2, rfl⟩ := h
    obtain ⟨e1, e2⟩ := mapM_get h2
    refine ⟨by simp [e1], fun j x y hx hy => ?_⟩
    cases j with
    | zero => simp at hx hy; subst hx hy; exact h1
    | succ j => exact e2 j x y (by simpa using hx) (by simpa using hy)
section
variable {H : Type} {enc : TypeId × Value → H} {P : Program} {w : World} {base : Nat} {spare : Nat → Bool} {held : Bool}
def OpenAt (enc : TypeId × Value → H) (P : Program) (w : World) (base : Nat) (spare : Nat → Bool) (held : Bool) (fuel : Nat) : Prop :=
  ∀ (n : Nat) (t : TypeId) (cs : List Value) (x : DataW H × List MemPlace) (shs : List Sh), shOf P n t = some shs → DataW.trod enc P w base spare held fuel t cs = some x → (x.1.weights P t).all (· ≤ reachBytes) = true → ∃ avs, VRs none0 w avs cs ∧ Ws shs avs
theorem open_fs {fuel d : Nat} (ih : OpenAt enc P w base spare held fuel) {cs : List Value} : ∀ (fs : List Field) (n : Nat) (xs : List (DataW H × List MemPlace)) (shs : List Sh), shFs P (shOf P d) fs n = some shs → xs.length = fs.length →
    (∀ (i : Nat) (f : Field), fs[i]? = some f → DataW.trod enc P w base spare held fuel f.type ((cs.drop f.offset).take (P.cellsOf f.type)) = xs[i]?) → (DataW.weightsEach P (fs.map (·.type)) (xs.map (·.1))).all (· ≤ reachBytes) = true →
    ∃ avs, VRs none0 w avs ((cs.drop n).take shs.length) ∧ Ws shs avs
  | [], n, xs, shs, h, _, _, _ => by cases h; exact ⟨[], by simpa using VRs.nil, .nil⟩
  | f :: fs, n, [], shs, h, hl, _, _ => by simp at hl
  | f :: fs, n, x :: xs, shs, h, hl, ht, hw => by
    unfold shFs at h
    split at h
    · rename_i ho
      split at h
      · rename_i l hr
        split at h
        · rename_i hc
          obtain ⟨k, hk, rfl⟩ := Option.map_eq_some_iff.1 h
          simp only [List.map_cons, DataW.weightsEach, List.all_append, Bool.and_eq_true] at hw
          obtain ⟨a1, v1, w1⟩ := ih d f.type _ x l hr (ht 0 f rfl) hw.1
          obtain ⟨a2, v2, w2⟩ := open_fs ih fs (n + l.length) xs k hk (by simpa using hl) (fun i g hg => by simpa using ht (i + 1) g (by simpa using hg)) hw.2
          refine ⟨a1 ++ a2, ?_, w1.append w2⟩
          rw [List.length_append, List.take_add, List.drop_drop]
          rw [ho, hc] at v1
          exact v1.append v2
        · cases h
      · cases h
    · cases h
theorem open_all : ∀ fuel : Nat, OpenAt enc P w base spare held fuel
  | 0 => by intro n t cs x shs _ h _; simp [DataW.trod] at h
  | fuel + 1 => by
    intro n t cs x shs hs h hw
    have ih := open_all fuel
    cases n with
    | zero => cases hs
    | succ d =>
      unfold shOf at hs
      split at hs
      · rename_i k hu
        cases hs
        obtain ⟨n, rfl, rfl, hwf⟩ := DataW.trod_int hu h
        exact ⟨[.int k n], .cons (.int k n) .nil, .cons (.int k n hwf) .nil⟩
      · rename_i hu
        cases hs
        unfold DataW.trod at h
        rw [hu] at h
        split at h <;> simp_all
        rename_i b
        exact ⟨[.bool b], .cons (.bool b) .nil, .cons (.bool b) .nil⟩
      · rename_i hu
        cases hs
        obtain ⟨s, rfl, rfl, hs⟩ := DataW.trod_string hu h
        simp only [DataW.weights, List.all_cons, List.all_nil, Bool.and_true, decide_eq_true_eq] at hw
        exact ⟨[.str (s.data.toList.map fun c => c.toNat)], .cons (.str s) .nil, .cons (.str s (by simpa using hw)) .nil⟩
      · rename_i e hu
        split at hs
        · rename_i l hl
          split at hs
          · rename_i hc
            cases hs
            rcases DataW.trod_slice hu h with ⟨rfl, rfl⟩ | ⟨a, len, cap, elems, rest, m, hm, rfl, rfl, hb, hlc, _, hlen, hel, _, _⟩
            · exact ⟨[.nils], .cons .nils .nil, .cons (.nils _ _) .nil⟩
            · cases hm
              simp only [DataW.weights, hu, List.all_cons, List.all_append, Bool.and_eq_true, decide_eq_true_eq, List.length_map] at hw
              obtain ⟨hw1, hw2, _⟩ := hw
              have hbytes : len * P.bytesOf e ≤ reachBytes := Nat.le_trans (Nat.mul_le_mul_right _ (by omega)) hw1
              cases len with
              | zero => exact ⟨[.rs [] 0], .cons (.rs0 a cap) .nil, .cons (.rs (.nil _) hbytes) .nil⟩
              | succ len' =>
                generalize hL : len' + 1 = len at *
                have hwe : ∀ (i : Nat) (y : DataW H × List MemPlace), elems[i]? = some y → (y.1.weights P e).all (· ≤ reachBytes) = true := by
                  clear hel hlen h hw1 hbytes
                  induction elems with
                  | nil => intro i y hy; simp at hy
                  | cons z zs ihz =>
                    simp only [List.map_cons, DataW.weightsAll, List.all_append, Bool.and_eq_true] at hw2
                    intro i y hy
                    cases i with
                    | zero => simp at hy; subst hy; exact hw2.1
                    | succ i => exact ihz hw2.2 i y (by simpa using hy)
                have each : ∀ i, i < len → ∃ ecs avs, w.cells? base (a.add (i * P.cellsOf e)) (P.cellsOf e) = some ecs ∧ VRs none0 w avs ecs ∧ Ws l avs := by
                  intro i hi
                  have h1 := hel i hi
                  have h2 : elems[i]? = some elems[i] := List.getElem?_eq_getElem (by omega)
                  rw [h2] at h1
                  obtain ⟨ecs, h3, h4⟩ := Option.bind_eq_some_iff.1 h1
                  obtain ⟨avs, h5, h6⟩ := ih d e ecs _ l hl h4 (hwe i _ h2)
                  exact ⟨ecs, avs, h3, h5, h6⟩
                have cellsAt : ∀ {c : Addr} {k : Nat} {ecs : List Value}, w.cells? base c k = some ecs → ecs.length = k ∧ ∀ j u, ecs[j]? = some u → w.cell? (c.add j) = some u := by
                  intro c k ecs hk
                  unfold World.cells? at hk
                  split at hk
                  · obtain ⟨e1, e2⟩ := mapM_get hk
                    rw [List.length_range] at e1
                    refine ⟨e1, fun j u hj => e2 j j u ?_ hj⟩
                    have hjl : j < ecs.length := by
                      rcases Nat.lt_or_ge j ecs.length with h | h
                      · exact h
                      · rw [List.getElem?_eq_none h] at hj; cases hj
                    rw [List.getElem?_range (by omega)]
                  · cases hk
                obtain ⟨B, off, spot⟩ := a
                have hspot : spot = none ∧ B < w.heap.size := by
                  obtain ⟨ecs, avs, h1, h2, h3⟩ := each 0 (by omega)
                  obtain ⟨q1, q2⟩ := cellsAt h1
                  have h0 : 0 < ecs.length := by omega
                  have := q2 0 ecs[0] (List.getElem?_eq_getElem h0)
                  have ha : ((⟨B, off, spot⟩ : Addr).add (0 * P.cellsOf e)).add 0 = ⟨B, off, spot⟩ := by simp [Addr.add]
                  rw [ha] at this
                  unfold World.cell? at this
                  split at this
                  · rename_i c _ _ hh
                    split at this
                    · cases this
                    · rename_i hn
                      refine ⟨by simpa using hn, ?_⟩
                      rcases Nat.lt_or_ge B w.heap.size with h | h
                      · exact h
                      · rw [Array.getElem?_eq_none h] at hh; cases hh
                  · cases this
                obtain ⟨rfl, hB⟩ := hspot
                have all : ∀ k i, i + k = len → ∃ c, Wn l k c ∧ VRm none0 w c B (off + i * P.cellsOf e) := by
                  intro k
                  induction k with
                  | zero => intro i _; exact ⟨[], .nil _, .nil⟩
                  | succ k ihk =>
                    intro i hi
                    obtain ⟨c, c1, c2⟩ := ihk (i + 1) (by omega)
                    obtain ⟨ecs, avs, h1, h2, h3⟩ := each i (by omega)
                    obtain ⟨q1, q2⟩ := cellsAt h1
                    have hal : avs.length = P.cellsOf e := by rw [← h3.length]; exact hc.1
                    refine ⟨avs ++ c, .cons h3 c1, VRm.append (h2.mem fun j u hj => ?_) ?_⟩
                    · have := q2 j u hj
                      rw [add_none, add_none] at this
                      exact this
                    · rw [hal]
                      rw [Nat.add_mul, Nat.one_mul, ← Nat.add_assoc] at c2
                      exact c2
                obtain ⟨c, c1, c2⟩ := all len 0 (by omega)
                rw [Nat.zero_mul, Nat.add_zero] at c2
                exact ⟨[.rs c len], .cons (.rs hlc (fun b p hb => by cases hb) hB c2) .nil, .cons (.rs c1 hbytes) .nil⟩
          · cases hs
        · cases hs
      · rename_i fs hu
        split at hs
        · rename_i l hl
          split at hs
          · rename_i hc
            cases hs
            obtain ⟨xs, m, hm, rfl, hcl, hxl, hx⟩ := DataW.trod_struct hu h
            cases hm
            simp only [DataW.weights, hu] at hw
            obtain ⟨avs, v1, v2⟩ := open_fs ih fs.toList 0 xs _ hl (by simpa using hxl) (fun i f hf => hx i f (by simpa using hf)) hw
            refine ⟨avs, ?_, v2⟩
            rw [List.drop_zero, List.take_of_length_le (by omega)] at v1
            exact v1
          · cases hs
        · cases hs
      · cases hs
/-- an argument, opened -/
theorem open_arg {t : TypeId} {v : Value} {d : DataW H} {ps : List MemPlace} {n : Nat} {shs : List Sh} (hs : shOf P n t = some shs) (h : DataW.Trod enc P w base spare held t v d ps) (hw : (d.weights P t).all (· ≤ reachBytes) = true) :
    ∃ avs, VRs none0 w avs v.cells.toList ∧ Ws shs avs :=
  let ⟨fuel, hf⟩ := h
  open_all fuel n t _ _ shs hs hf hw
end
def I64 (n : Int) : Prop := -9223372036854775808 ≤ n ∧ n ≤ 9223372036854775807
theorem i64_wf {n : Int} (h : (Lit.int .i64 n).wf = true) : I64 n := by
  simp only [Lit.wf, Bool.and_eq_true, decide_eq_true_eq] at h
  exact ⟨h.1, h.2⟩
section
variable {α : Type}
/-- cells of things, one behind the other -/
inductive Cat (R : α → List AV → Prop) : List α → List AV → Prop
  | nil : Cat R [] []
  | cons {a : α} {l : List α} {c k : List AV} (h : R a c) (t : Cat R l k) : Cat R (a :: l) (c ++ k)
/-- a slice of things, each of so many bytes -/
def IsL (b : Nat) (R : α → List AV → Prop) (v : AV) (l : List α) : Prop := l.length * b ≤ reachBytes ∧ ((v = .nils ∧ l = []) ∨ ∃ c, v = .rs c l.length ∧ Cat R l c)
variable {R : α → List AV → Prop} {z b : Nat}
theorem Cat.length (hz : ∀ a c, R a c → c.length = z) : ∀ {l : List α} {c : List AV}, Cat R l c → c.length = l.length * z
  | _, _, .nil => by simp
  | _, _, .cons h t => by rw [List.length_append, hz _ _ h, t.length hz, List.length_cons, Nat.add_mul, Nat.one_mul, Nat.add_comm]
theorem Cat.append : ∀ {l l' : List α} {c c' : List AV}, Cat R l c → Cat R l' c' → Cat R (l ++ l') (c ++ c')
  | _, _, _, _, .nil, h => h
  | _, _, _, _, .cons (c := c) (k := k) h t, h' => by rw [List.append_assoc]; exact .cons h (t.append h')
theorem Cat.at (hz : ∀ a c, R a c → c.length = z) : ∀ {l : List α} {c : List AV}, Cat R l c → ∀ (i : Nat) (hi : i < l.length), ∃ ci r, c.drop (i * z) = ci ++ r ∧ R l[i] ci
  | _, _, .nil, i, hi => by simp at hi
  | _, _, .cons (c := c) (k := k) h t, 0, _ => ⟨c, k, by simp, h⟩
  | _, _, .cons (c := c) (k := k) h t, i + 1, hi => by
    obtain ⟨ci, r, e, hr⟩ := t.at hz i (by simpa using hi)
    refine ⟨ci, r, ?_, hr⟩
    rw [Nat.add_mul, Nat.one_mul, Nat.add_comm, ← List.drop_drop, ← hz _ _ h, List.drop_left]
    rw [hz _ _ h]; exact e
theorem Cat.told (ht : ∀ a c, R a c → AV.tolds c = true) : ∀ {l : List α} {c : List AV}, Cat R l c → AV.tolds c = true
  | _, _, .nil => rfl
  | _, _, .cons h t => by rw [tolds_append, ht _ _ h, t.told ht]; rfl
where tolds_append : ∀ {l k : List AV}, AV.tolds (l ++ k) = (AV.tolds l && AV.tolds k)
  | [], _ => by simp [AV.tolds]
  | x :: l, k => by rw [List.cons_append, AV.tolds, AV.tolds, tolds_append, Bool.and_assoc]
theorem IsL.told (ht : ∀ a c, R a c → AV.tolds c = true) {v : AV} {l : List α} (h : IsL b R v l) : v.told = true := by
  rcases h.2 with ⟨rfl, _⟩ | ⟨c, rfl, hc⟩
  · rfl
  · exact hc.told ht
theorem IsL.len {v : AV} {l : List α} (h : IsL b R v l) (hh : Heap) : lnV hh v = .val (.int .i64 l.length) hh := by
  rcases h.2 with ⟨rfl, rfl⟩ | ⟨c, rfl, _⟩ <;> rfl
theorem IsL.bound {v : AV} {l : List α} (h : IsL b R v l) (hb : 0 < b) : (l.length : Int) ≤ 140737488351232 := by
  have := h.1
  have h2 : l.length ≤ l.length * b := Nat.le_mul_of_pos_right _ hb
  have : l.length ≤ reachBytes := Nat.le_trans h2 this
  have e : reachBytes = 140737488351232 := rfl
  rw [e] at this
  omega
theorem IsL.at {v : AV} {l : List α} (h : IsL b R v l) (hz : ∀ a c, R a c → c.length = z) (i : Nat) (hi : i < l.length) :
    ∃ ci r, R l[i] ci ∧ ∀ (hh : Heap) (kk : IntKind), iaV hh z none v (.int kk (i : Int)) = .val (.rp (ci ++ r)) hh := by
  rcases h.2 with ⟨rfl, rfl⟩ | ⟨c, rfl, hc⟩
  · simp at hi
  · obtain ⟨ci, r, e, hr⟩ := hc.at hz i hi
    refine ⟨ci, r, hr, fun hh kk => ?_⟩
    rw [iaV_rs, if_pos ⟨by omega, by omega⟩]
    rw [Int.toNat_natCast, e]
theorem tolds_drop : ∀ {l : List AV} (i : Nat), AV.tolds l = true → AV.tolds (l.drop i) = true
  | _, 0, h => h
  | [], _ + 1, _ => rfl
  | _ :: l, i + 1, h => by
    simp only [AV.tolds, Bool.and_eq_true] at h
    exact tolds_drop i h.2
theorem IsL.get {v : AV} {l : List α} (h : IsL b R v l) (hz : ∀ a c, R a c → c.length = z) (ht : ∀ a c, R a c → AV.tolds c = true) (i : Nat) (hi : i < l.length) :
    ∃ ci r, R l[i] ci ∧ AV.tolds (ci ++ r) = true ∧ ∀ (hh : Heap) (kk : IntKind), iaV hh z none v (.int kk (i : Int)) = .val (.rp (ci ++ r)) hh := by
  rcases h.2 with ⟨rfl, rfl⟩ | ⟨c, rfl, hc⟩
  · simp at hi
  · obtain ⟨ci, r, e, hr⟩ := hc.at hz i hi
    refine ⟨ci, r, hr, by rw [← e]; exact tolds_drop _ (hc.told ht), fun hh kk => ?_⟩
    rw [iaV_rs, if_pos ⟨by omega, by omega⟩]
    rw [Int.toNat_natCast, e]
theorem isL_nil (b : Nat) (R : α → List AV → Prop) : IsL b R .nils [] := ⟨by simp, .inl ⟨rfl, rfl⟩⟩
/-- out of what a law is handed -/
theorem Wn.cat {ss : List Sh} (hR : ∀ c, Ws ss c → ∃ a, R a c) : ∀ {n : Nat} {c : List AV}, Wn ss n c → ∃ l : List α, l.length = n ∧ Cat R l c
  | _, _, .nil _ => ⟨[], rfl, .nil⟩
  | _, _, .cons h t => by
    obtain ⟨a, ha⟩ := hR _ h
    obtain ⟨l, e, hl⟩ := Wn.cat hR t
    exact ⟨a :: l, by simp [e], .cons ha hl⟩
theorem W.isL {ss : List Sh} (hR : ∀ c, Ws ss c → ∃ a, R a c) {v : AV} (h : W (.sl b ss) v) : ∃ l, IsL b R v l := by
  cases h with
  | nils => exact ⟨[], isL_nil _ _⟩
  | rs h hb =>
    obtain ⟨l, e, hl⟩ := h.cat hR
    exact ⟨l, by rw [e]; exact hb, .inr ⟨_, by rw [e], hl⟩⟩
end
structure Pt where
  x : Int
  y : Int
structure Feat where
  id : Int
  shape : Int
  rings : List (List Pt)
structure Mp where
  epoch : Int
  starts : List Int
  owners : List Int
structure Op where
  kind : Int
  f : Feat
  id : Int
  m : Mp
instance : DecidableEq Pt := fun a b => if h : a.x = b.x ∧ a.y = b.y then isTrue (by cases a; cases b; simp_all) else isFalse (by rintro rfl; simp at h)
def RInt (n : Int) (c : List AV) : Prop := c = [.int .i64 n] ∧ I64 n
def RPt (p : Pt) (c : List AV) : Prop := c = [.int .i64 p.x, .int .i64 p.y] ∧ I64 p.x ∧ I64 p.y
def RRing (r : List Pt) (c : List AV) : Prop := ∃ v, c = [v] ∧ IsL 16 RPt v r
def RFeat (f : Feat) (c : List AV) : Prop := ∃ v, c = [.int .i64 f.id, .int .i64 f.shape, v] ∧ I64 f.id ∧ I64 f.shape ∧ IsL 24 RRing v f.rings
def ROp (o : Op) (c : List AV) : Prop := ∃ v a u, c = [.int .i64 o.kind, .int .i64 o.f.id, .int .i64 o.f.shape, v, .int .i64 o.id, .int .i64 o.m.epoch, a, u] ∧
  I64 o.kind ∧ I64 o.f.id ∧ I64 o.f.shape ∧ IsL 24 RRing v o.f.rings ∧ I64 o.id ∧ I64 o.m.epoch ∧ IsL 8 RInt a o.m.starts ∧ IsL 8 RInt u o.m.owners
theorem zInt (a : Int) (c : List AV) (h : RInt a c) : c.length = 1 := by rw [h.1]; rfl
theorem zPt (a : Pt) (c : List AV) (h : RPt a c) : c.length = 2 := by rw [h.1]; rfl
theorem zRing (a : List Pt) (c : List AV) (h : RRing a c) : c.length = 1 := by obtain ⟨v, rfl, _⟩ := h; rfl
theorem zOp (a : Op) (c : List AV) (h : ROp a c) : c.length = 8 := by obtain ⟨v, b, u, rfl, _⟩ := h; rfl
theorem tInt (a : Int) (c : List AV) (h : RInt a c) : AV.tolds c = true := by rw [h.1]; rfl
theorem tPt (a : Pt) (c : List AV) (h : RPt a c) : AV.tolds c = true := by rw [h.1]; rfl
theorem tRing (a : List Pt) (c : List AV) (h : RRing a c) : AV.tolds c = true := by
  obtain ⟨v, rfl, h⟩ := h
  simp [AV.tolds, h.told tPt]
theorem tFeat (a : Feat) (c : List AV) (h : RFeat a c) : AV.tolds c = true := by
  obtain ⟨v, rfl, _, _, h⟩ := h
  simp [AV.tolds, AV.told, h.told tRing]
theorem tOp (a : Op) (c : List AV) (h : ROp a c) : AV.tolds c = true := by
  obtain ⟨v, x, u, rfl, _, _, _, h, _, _, h1, h2⟩ := h
  simp [AV.tolds, AV.told, h.told tRing, h1.told tInt, h2.told tInt]
theorem wInt (c : List AV) (h : Ws [.int .i64] c) : ∃ a, RInt a c := by
  cases h with | cons h t => cases t; cases h with | int k n hw => exact ⟨n, rfl, i64_wf hw⟩
end Go.Proofs.Ytinonmcnofjeeaa.VM
namespace Go.Proofs.Ytinonmcnofjeeaa.VM
open Go.RowKit
/-- nothing of what was there is changed -/
def Ext (h h' : Heap) : Prop := h.next ≤ h'.next ∧ ∀ b, b < h.next → h'.get b = h.get b
theorem Ext.refl (h : Heap) : Ext h h := ⟨Nat.le_refl _, fun _ _ => rfl⟩
theorem Ext.trans {a b c : Heap} (x : Ext a b) (y : Ext b c) : Ext a c := ⟨Nat.le_trans x.1 y.1, fun n hn => (y.2 n (Nat.lt_of_lt_of_le hn x.1)).trans (x.2 n hn)⟩
theorem Ext.mk {h : Heap} (x : Blk) : Ext h (h.mk' h.next x) := ⟨by rw [mk_next]; omega, fun b hb => by rw [Heap.get_mk, if_neg (by omega)]⟩
mutual
/-- numbers, truths, texts, slices and structs of them: nothing told, no functions, no maps -/
def AV.bare : AV → Bool
  | .undef | .bool _ | .int .. | .str _ | .nilp | .nils | .nilm | .nilf | .ptr .. | .sl .. => true
  | .agg l | .tup l => AV.bares l
  | _ => false
def AV.bares : List AV → Bool
  | [] => true
  | x :: l => x.bare && AV.bares l
end
theorem bares_app : ∀ {l k : List AV}, AV.bares (l ++ k) = (AV.bares l && AV.bares k)
  | [], _ => by simp [AV.bares]
  | x :: l, k => by rw [List.cons_append, AV.bares, AV.bares, bares_app, Bool.and_assoc]
mutual
def sh (n : Nat) : AV → AV
  | .ptr b off => .ptr (n + b) off
  | .sl b off len cap sz => .sl (n + b) off len cap sz
  | .agg l => .agg (shs n l)
  | .tup l => .tup (shs n l)
  | x => x
def shs (n : Nat) : List AV → List AV
  | [] => []
  | x :: l => sh n x :: shs n l
end
def blkOf : AV → List Nat
  | .sl b .. => [b]
  | _ => []
/-- a slice over the whole of its block, or none -/
def Row (h : Heap) (v : AV) (sz : Nat) (cs : List AV) (n : Nat) : Prop :=
  (v = .nils ∧ n = 0 ∧ cs = []) ∨ ∃ b e ver, v = .sl b 0 n n sz ∧ 0 < n ∧ b < h.next ∧ cs.length = n * sz ∧ h.get b = some (.cells cs e ver)
theorem Row.nil (h : Heap) (sz : Nat) : Row h .nils sz [] 0 := .inl ⟨rfl, rfl, rfl⟩
theorem Row.len {h : Heap} {v : AV} {sz n : Nat} {cs : List AV} (r : Row h v sz cs n) (hh : Heap) : lnV hh v = .val (.int .i64 n) hh := by
  rcases r with ⟨rfl, rfl, rfl⟩ | ⟨b, e, ver, rfl, _⟩ <;> rfl
theorem Row.one {h : Heap} {v : AV} {sz n : Nat} {cs : List AV} (r : Row h v sz cs n) : v.one = true := by
  rcases r with ⟨rfl, rfl, rfl⟩ | ⟨b, e, ver, rfl, _⟩ <;> rfl
theorem Row.bare {h : Heap} {v : AV} {sz n : Nat} {cs : List AV} (r : Row h v sz cs n) : v.bare = true := by
  rcases r with ⟨rfl, rfl, rfl⟩ | ⟨b, e, ver, rfl, _⟩ <;> rfl
theorem Row.lt {h : Heap} {v : AV} {sz n : Nat} {cs : List AV} (r : Row h v sz cs n) : ∀ b ∈ blkOf v, b < h.next := by
  rcases r with ⟨rfl, rfl, rfl⟩ | ⟨b, e, ver, rfl, _, h1, _⟩
  · intro b hb; simp [blkOf] at hb
  · intro c hc; simp [blkOf] at hc; omega
theorem Row.frame {h h' : Heap} {v : AV} {sz n : Nat} {cs : List AV} (r : Row h v sz cs n) (hn : h.next ≤ h'.next) (hg : ∀ b ∈ blkOf v, h'.get b = h.get b) : Row h' v sz cs n := by
  rcases r with ⟨rfl, rfl, rfl⟩ | ⟨b, e, ver, rfl, h0, h1, h2, h3⟩
  · exact .nil _ _
  · exact .inr ⟨b, e, ver, rfl, h0, by omega, h2, (hg b (by simp [blkOf])).trans h3⟩
theorem Row.ext {h h' : Heap} {v : AV} {sz n : Nat} {cs : List AV} (r : Row h v sz cs n) (e : Ext h h') : Row h' v sz cs n := r.frame e.1 fun b hb => e.2 b (r.lt b hb)
theorem Row.length {h : Heap} {v : AV} {sz n : Nat} {cs : List AV} (r : Row h v sz cs n) : cs.length = n * sz := by
  rcases r with ⟨rfl, rfl, rfl⟩ | ⟨b, e, ver, rfl, _, _, h2, _⟩
  · simp
  · exact h2
theorem cells_of {h : Heap} {b n sz : Nat} {c : List AV} {e : TypeId} {ver : Nat} (hg : h.get b = some (.cells c e ver)) (hl : c.length = n * sz) (cap : Nat) : cellsOf h sz n (.sl b 0 n cap sz) = some c := by
  simp only [cellsOf, Nat.le_refl, if_true, hg, cut_eq, List.drop_zero, ← hl, List.take_length]
/-- elements are put behind -/
theorem Row.append {h : Heap} {v x : AV} {sz n m : Nat} {cs c : List AV} (r : Row h v sz cs n) (hx : cellsOf h sz m x = some c) (hlx : lenV x = some m) (hm : 0 < m) (hl : c.length = m * sz) (ho : c.all AV.one = true) {bytes : Nat} (hb : (n + m) * bytes ≤ most2) (e : TypeId) :
    ∃ h', appendV h sz bytes e v x = some (.sl h.next 0 (n + m) (n + m) sz, h') ∧ Row h' (.sl h.next 0 (n + m) (n + m) sz) sz (cs ++ c) (n + m) ∧ h'.next = h.next + 1 ∧ ∀ b, b ∉ blkOf v → b ≠ h.next → h'.get b = h.get b := by
  rcases r with ⟨rfl, rfl, rfl⟩ | ⟨b, e0, ver, rfl, h0, h1, h2, h3⟩
  · refine ⟨h.mk' h.next (.cells c e 0), ?_, .inr ⟨h.next, e, 0, rfl, by omega, by rw [mk_next]; omega, by rw [List.nil_append, hl, Nat.zero_add], by rw [Heap.get_mk, if_pos rfl, List.nil_append]⟩, by rw [mk_next]; omega, fun b _ hb => by rw [Heap.get_mk, if_neg hb]⟩
    simp only [appendV, hlx, hx, hl, ho, and_self, if_true]
    rw [if_neg (by omega), if_pos (by rwa [Nat.zero_add] at hb), Nat.zero_add]
  · refine ⟨(h.put b .dead).mk' h.next (.cells (cs ++ c) e 0), ?_, .inr ⟨h.next, e, 0, rfl, by omega, ?_, ?_, by rw [Heap.get_mk, if_pos rfl]⟩, ?_, fun b' hb' hb => ?_⟩
    · have hbq : Nat.beq sz sz = true := by rw [Nat.beq_eq]
      simp only [appendV, hlx, hx, hl, ho, and_self, if_true, hbq, cond_true, cells_of h3 h2]
      rw [if_neg (by omega), if_pos hb]
    · rw [mk_next, put_next]; omega
    · rw [List.length_append, h2, hl, Nat.add_mul]
    · rw [mk_next, put_next]; omega
    · rw [Heap.get_mk, if_neg hb, Heap.get_put, if_neg (by simpa [blkOf] using hb')]
/-- one element of a literal -/
theorem Row.push {h : Heap} {v : AV} {sz n nb : Nat} {cs c : List AV} (r : Row h v sz cs n) {eb : TypeId} {vb : Nat} (hg : h.get nb = some (.cells c eb vb)) (hl : c.length = sz) (ho : c.all AV.one = true) {bytes : Nat} (hb : (n + 1) * bytes ≤ most2) (e : TypeId) :
    ∃ h', appendV h sz bytes e v (.sl nb 0 1 1 sz) = some (.sl h.next 0 (n + 1) (n + 1) sz, h') ∧ Row h' (.sl h.next 0 (n + 1) (n + 1) sz) sz (cs ++ c) (n + 1) ∧ h'.next = h.next + 1 ∧ ∀ b, b ∉ blkOf v → b ≠ h.next → h'.get b = h.get b :=
  r.append (cells_of hg (by rw [hl, Nat.one_mul]) 1) rfl (by decide) (by rw [hl, Nat.one_mul]) ho hb e
/-- an element of a row, by its place -/
theorem Row.at {h : Heap} {v : AV} {sz n : Nat} {cs : List AV} (r : Row h v sz cs n) {i : Nat} (hi : i < n) : ∃ b e ver, v = .sl b 0 n n sz ∧ h.get b = some (.cells cs e ver) ∧ b < h.next ∧ ∀ (hh : Heap) (kk : IntKind), iaV hh sz none v (.int kk (i : Int)) = .val (.ptr b (i * sz)) hh := by
  rcases r with ⟨rfl, rfl, rfl⟩ | ⟨b, e0, ver, rfl, h0, h1, h2, h3⟩
  · omega
  · refine ⟨b, e0, ver, rfl, h3, h1, fun hh kk => ?_⟩
    rw [iaV_sl, if_pos ⟨by omega, by omega, rfl⟩, Int.toNat_natCast, Nat.zero_add]
end Go.Proofs.Ytinonmcnofjeeaa.VM
namespace Go.Proofs.Ytinonmcnofjeeaa.VM
/-- all but one block stays -/
def ExtX (x : Nat) (h h' : Heap) : Prop := h.next ≤ h'.next ∧ ∀ b, b < h.next → b ≠ x → h'.get b = h.get b
theorem ExtX.refl {x : Nat} {h : Heap} : ExtX x h h := ⟨Nat.le_refl _, fun _ _ _ => rfl⟩
theorem ExtX.trans {x : Nat} {a b c : Heap} (p : ExtX x a b) (q : ExtX x b c) : ExtX x a c := ⟨Nat.le_trans p.1 q.1, fun n hn hx => (q.2 n (Nat.lt_of_lt_of_le hn p.1) hx).trans (p.2 n hn hx)⟩
theorem ExtX.put {x : Nat} {h : Heap} (o : Blk) : ExtX x h (h.put x o) := ⟨Nat.le_refl _, fun b _ hx => by rw [Heap.get_put, if_neg hx]⟩
theorem Ext.x {x : Nat} {h h' : Heap} (p : Ext h h') : ExtX x h h' := ⟨p.1, fun b hb _ => p.2 b hb⟩
end Go.Proofs.Ytinonmcnofjeeaa.VM
namespace Go.Proofs.Ytinonmcnofjeeaa.VM
theorem hn_l (n k : Nat) : (n = n + k) = (k = 0) := by rw [eq_iff_iff]; omega
theorem hn_r (n k : Nat) : (n + k = n) = (k = 0) := by rw [eq_iff_iff]; omega
def HN := And.intro @hn_l (And.intro @hn_r @Nat.add_assoc)
theorem Ext.putn {h h' : Heap} (x : Ext h h') {b : Nat} (hb : h.next ≤ b) (o : Blk) : Ext h (h'.put b o) := ⟨x.1, fun c hc => by rw [Heap.get_put, if_neg (by omega)]; exact x.2 c hc⟩
theorem Ext.mkn {h h' : Heap} (x : Ext h h') {b : Nat} (hb : h.next ≤ b) (o : Blk) : Ext h (h'.mk' b o) := ⟨by rw [mk_next]; have := x.1; omega, fun c hc => by rw [Heap.get_mk, if_neg (by omega)]; exact x.2 c hc⟩
section
variable {h h' : Heap} {L : List (Nat × List AV)} {b e v : Nat} {l l' : List AV}
theorem Ext.new {h : Heap} {o o' : Blk} : Ext h ((h.mk' h.next o).put h.next o') := (Ext.mk o).putn (Nat.le_refl _) _
theorem new_next {h : Heap} {o o' : Blk} : ((h.mk' h.next o).put h.next o').next = h.next + 1 := by rw [put_next, mk_next]; omega
end
/-- clear, of a slice -/
def clS (h : Heap) (z : List AV) : AV → Out
  | .nils => .val (.tup []) h
  | .sl b off len _ _ => if len = 0 then .val (.tup []) h else (match writeAt h b off (List.replicate len z).flatten with
    | some h => .val (.tup []) h
    | none => .fail)
  | _ => .fail
theorem vop_clearS {s : T AV} {h : Heap} {nm : Nat} {z : List AV} {x : Opd} : vop ⟨s, h⟩ nm (.bi (.clearS z) [x]) = clS h z (ev s x) := by
  simp only [vop, List.map_cons, List.map_nil, eval_eq]
  cases ev s x <;> try rfl
  rename_i b off len cap sz
  simp only [clS, T.beq_dec]
  by_cases e : len = 0
  · rw [if_pos e, decide_eq_true e, cond_true]
  · rw [if_neg e, decide_eq_false e, cond_false]
    cases writeAt h b off (List.replicate len z).flatten <;> rfl
theorem clS_go {h h' : Heap} {z : List AV} {b off len cap sz : Nat} (h0 : len ≠ 0) (hw : writeAt h b off (List.replicate len z).flatten = some h') : clS h z (.sl b off len cap sz) = .val (.tup []) h' := by
  simp only [clS, if_neg h0, hw]
theorem eqv_p0 {b o : Nat} : eqv .ptr (.ptr b o) .nilp = some false := rfl
theorem eqv_p1 : eqv .ptr .nilp .nilp = some true := rfl
theorem eqv_s0 {a b c d e : Nat} : eqv .sl (.sl a b c d e) .nils = some false := rfl
theorem eqv_s1 : eqv .sl .nils .nils = some true := rfl
theorem eqv_s2 {l : List AV} {n : Nat} : eqv .sl (.rs l n) .nils = some false := rfl
theorem eqv_b (a b : Bool) : eqv .bool (.bool a) (.bool b) = some (decide (a = b)) := by revert a b; decide
/-- what is compared without memory -/
def HE := And.intro @eqv_p0 (And.intro @eqv_p1 (And.intro @eqv_s0 (And.intro @eqv_s1 (And.intro @eqv_s2 @eqv_b))))
def blk : Nat → VCode → VCode
  | 0, .seq a _ => a
  | n + 1, .seq _ b => blk n b
  | _, x => x
/-- a row in a block of its own, full; it may be there and hold nothing -/
def SRow (h : Heap) (v : AV) (sz : Nat) (cs : List AV) (n : Nat) : Prop := (v = .nils ∧ n = 0 ∧ cs = []) ∨ ∃ b e ver, v = .sl b 0 n n sz ∧ b < h.next ∧ h.get b = some (.cells cs e ver) ∧ cs.length = n * sz ∧ cs.all AV.one = true
section
variable {h h' : Heap} {v x : AV} {sz n m : Nat} {cs c : List AV}
theorem SRow.nil (h : Heap) (sz : Nat) : SRow h .nils sz [] 0 := .inl ⟨rfl, rfl, rfl⟩
theorem SRow.frame (r : SRow h v sz cs n) (hn : h.next ≤ h'.next) (k : ∀ b ∈ blkOf v, h'.get b = h.get b) : SRow h' v sz cs n := by
  rcases r with r | ⟨b, e, ver, rfl, hb, hg, hl, ho⟩
  · exact .inl r
  · exact .inr ⟨b, e, ver, rfl, by omega, (k b (by simp [blkOf])).trans hg, hl, ho⟩
theorem SRow.lt (r : SRow h v sz cs n) : ∀ b ∈ blkOf v, b < h.next := by
  rcases r with ⟨rfl, _⟩ | ⟨b, e, ver, rfl, hb, _⟩
  · intro b hb; simp [blkOf] at hb
  · intro c hc; simp only [blkOf, List.mem_singleton] at hc; rw [hc]; exact hb
theorem SRow.ext (r : SRow h v sz cs n) (x : Ext h h') : SRow h' v sz cs n := r.frame x.1 fun b hb => x.2 b (r.lt b hb)
theorem SRow.one (r : SRow h v sz cs n) : v.one = true := by rcases r with ⟨rfl, _⟩ | ⟨b, e, ver, rfl, _⟩ <;> rfl
theorem SRow.cells (r : SRow h v sz cs n) : v.cells = some [v] := by rcases r with ⟨rfl, _⟩ | ⟨b, e, ver, rfl, _⟩ <;> rfl
theorem SRow.len (r : SRow h v sz cs n) (hh : Heap) : lnV hh v = .val (.int .i64 n) hh := by rcases r with ⟨rfl, rfl, _⟩ | ⟨b, e, ver, rfl, _⟩ <;> rfl
theorem SRow.length (r : SRow h v sz cs n) : cs.length = n * sz := by
  rcases r with ⟨_, rfl, rfl⟩ | ⟨b, e, ver, rfl, _, _, hl, _⟩
  · simp
  · exact hl
/-- a part of a row's cells -/
theorem cells_part {b lo k cap : Nat} {e : TypeId} {ver : Nat} (hg : h.get b = some (.cells cs e ver)) (hl : (lo + k) * sz ≤ cs.length) : cellsOf h sz k (.sl b (lo * sz) k cap sz) = some ((cs.drop (lo * sz)).take (k * sz)) := by
  simp only [cellsOf, Nat.le_refl, if_true, hg]
  have : ((cs.drop (lo * sz)).take (k * sz)).length = k * sz := by rw [List.length_take, List.length_drop, Nat.min_eq_left]; rw [Nat.add_mul] at hl; omega
  rw [cut_eq, if_pos this]
theorem SRow.app (r : SRow h v sz cs n) (hx : cellsOf h sz m x = some c) (hlx : lenV x = some m) (hl : c.length = m * sz) (ho : c.all AV.one = true) {bytes : Nat} (hb : (n + m) * bytes ≤ most2) (e : TypeId) :
    ∃ v' h', appendV h sz bytes e v x = some (v', h') ∧ SRow h' v' sz (cs ++ c) (n + m) ∧ h.next ≤ h'.next ∧ (∀ b ∈ blkOf v', b ∈ blkOf v ∨ h.next ≤ b) ∧ ∀ b, b < h.next → b ∉ blkOf v → h'.get b = h.get b := by
  rcases r with ⟨rfl, rfl, rfl⟩ | ⟨b, eb, vb, rfl, hb', hg, hl', ho'⟩
  · by_cases m0 : m = 0
    · subst m0
      obtain rfl : c = [] := List.eq_nil_of_length_eq_zero (by rw [hl]; omega)
      refine ⟨.nils, h, ?_, .inl ⟨rfl, rfl, rfl⟩, Nat.le_refl _, fun b hb => .inl hb, fun _ _ _ => rfl⟩
      simp [appendV, hlx, hx]
    · rw [Nat.zero_add] at hb
      refine ⟨.sl h.next 0 m m sz, h.mk' h.next (.cells c e 0), ?_, .inr ⟨h.next, e, 0, by rw [Nat.zero_add], by rw [mk_next]; omega, by rw [Heap.get_mk, if_pos rfl, List.nil_append], by rw [List.nil_append, hl, Nat.zero_add], by rw [List.nil_append]; exact ho⟩, by rw [mk_next]; omega, fun b hb => .inr (by simp only [blkOf, List.mem_singleton] at hb; omega), fun b hb _ => by rw [Heap.get_mk, if_neg (by omega)]⟩
      simp only [appendV, hlx, hx, hl, ho, and_self, if_true, m0, if_false, hb]
  · have hold : cellsOf h sz n (.sl b 0 n n sz) = some cs := cells_of hg hl' n
    by_cases m0 : m = 0
    · subst m0
      obtain rfl : c = [] := List.eq_nil_of_length_eq_zero (by rw [hl]; omega)
      have hw : writeAt h b (0 + n * sz) [] = some (h.put b (.cells (cs.take (n * sz) ++ [] ++ cs.drop (n * sz)) eb (vb + 1))) := by
        rw [writeAt_go, hg, wrB_some, if_pos ⟨by simp [hl'], rfl⟩]; simp
      refine ⟨.sl b 0 n n sz, h.put b (.cells (cs.take (n * sz) ++ [] ++ cs.drop (n * sz)) eb (vb + 1)), ?_, .inr ⟨b, eb, vb + 1, rfl, by rw [put_next]; exact hb', by rw [Heap.get_put, if_pos rfl, List.append_nil, List.take_append_drop, List.append_nil], by rw [List.append_nil, hl', Nat.add_zero], by rw [List.append_nil]; exact ho'⟩, by rw [put_next]; exact Nat.le_refl _, fun b hb => .inl hb, fun d _ hd => by simp only [blkOf, List.mem_singleton] at hd; rw [Heap.get_put, if_neg hd]⟩
      simp only [appendV, hlx, hx, hl, ho, and_self, if_true, Nat.beq_refl, cond_true, Nat.add_zero, Nat.le_refl, hw]
    · have hc : ¬ n + m ≤ n := by omega
      refine ⟨.sl h.next 0 (n + m) (n + m) sz, (h.put b .dead).mk' h.next (.cells (cs ++ c) e 0), ?_, .inr ⟨h.next, e, 0, rfl, by rw [mk_next]; omega, by rw [Heap.get_mk, if_pos rfl], by rw [List.length_append, hl', hl, Nat.add_mul], by rw [List.all_append, ho', ho]; rfl⟩, by rw [mk_next, put_next]; omega, fun d hd => .inr (by simp only [blkOf, List.mem_singleton] at hd; omega), fun d hd hn => by
        simp only [blkOf, List.mem_singleton] at hn
        rw [Heap.get_mk, if_neg (by omega), Heap.get_put, if_neg hn]⟩
      simp only [appendV, hlx, hx, hl, ho, and_self, if_true, Nat.beq_refl, cond_true, hc, if_false, hb, hold]
/-- one more -/
theorem SRow.push (r : SRow h v sz cs n) {nb eb vb : Nat} (hg : h.get nb = some (.cells c eb vb)) (hl : c.length = sz) (ho : c.all AV.one = true) {bytes : Nat} (hb : (n + 1) * bytes ≤ most2) (e : TypeId) :
    ∃ v' h', appendV h sz bytes e v (.sl nb 0 1 1 sz) = some (v', h') ∧ SRow h' v' sz (cs ++ c) (n + 1) ∧ h.next ≤ h'.next ∧ (∀ b ∈ blkOf v', b ∈ blkOf v ∨ h.next ≤ b) ∧ ∀ b, b < h.next → b ∉ blkOf v → h'.get b = h.get b :=
  r.app (cells_of hg (by rw [hl, Nat.one_mul]) 1) rfl (by rw [hl, Nat.one_mul]) ho hb e
/-- a look at a row of one cell each -/
theorem SRow.at (r : SRow h v 1 cs n) {i : Nat} (hi : i < n) : ∃ b e ver x, v = .sl b 0 n n 1 ∧ b < h.next ∧ h.get b = some (.cells cs e ver) ∧ cs[i]? = some x ∧ part false cs i 1 = some x ∧ ∀ (hh : Heap) (kk : IntKind), iaV hh 1 none v (.int kk (i : Int)) = .val (.ptr b i) hh := by
  rcases r with ⟨_, rfl, _⟩ | ⟨b, e, ver, rfl, hb, hg, hl, ho⟩
  · omega
  · have hil : i < cs.length := by omega
    refine ⟨b, e, ver, cs[i], rfl, hb, hg, List.getElem?_eq_getElem hil, part_f (List.drop_eq_getElem_cons hil), fun hh kk => ?_⟩
    have : 0 ≤ (i : Int) ∧ (i : Int) < (n : Int) ∧ 1 = 1 := ⟨by omega, by omega, rfl⟩
    simp only [iaV, this, and_self, if_true, Int.toNat_natCast, Nat.zero_add, Nat.mul_one]
end
end Go.Proofs.Ytinonmcnofjeeaa.VM
namespace Go.Proofs.Ytinonmcnofjeeaa.VM
def b11_0 : VCode := (.seq (.seq (.ops [⟨(some 174), none, .mov (.t 17)⟩, ⟨(some 175), none, .mov (.t 16)⟩, ⟨(some 176), none, .bi (.len 1) [(.t 175)]⟩, ⟨(some 177), none, .bin .lss (.t 174) (.t 176)⟩])
 (.cond (.t 177) .skip (.exit 3)))
 (.seq (.block 4 (.seq (.drawn [⟨(some 180), none, .mov (.t 16)⟩, ⟨(some 181), none, .mov (.t 17)⟩, ⟨(some 182), none, .iaddr 16 none (.t 180) (.t 181)⟩, ⟨(some 183), none, .faddr 3 (.t 182)⟩, ⟨(some 184), none, .faddr 1 (.t 183)⟩, ⟨(some 185), none, .load false 1 (.t 184)⟩, ⟨(some 186), none, .mov (.t 8)⟩, ⟨(some 187), none, .mov (.t 17)⟩, ⟨(some 188), none, .iaddr 1 none (.t 186) (.t 187)⟩, ⟨(some 189), none, .load false 1 (.t 188)⟩, ⟨(some 190), none, .bin .neq (.t 185) (.t 189)⟩] [])
 (.cond (.t 190) (.seq (.ops [⟨(some 4), none, .mov (.c (.bool false))⟩])
 .ret) .skip)))
 (.ops [⟨(some 178), none, .mov (.t 17)⟩, ⟨(some 179), none, .bin .add (.t 178) (.c (.int .i64 1))⟩, ⟨(some 17), none, .mov (.t 179)⟩])))
def b11_1 : VCode := (.seq (.seq (.ops [⟨(some 37), none, .mov (.t 9)⟩, ⟨(some 38), none, .mov (.t 1)⟩, ⟨(some 39), none, .bi (.len 1) [(.t 38)]⟩, ⟨(some 40), none, .bin .lss (.t 37) (.t 39)⟩, ⟨(some 41), none, .mov (.t 40)⟩, ⟨(some 42), (some (41, true)), .mov (.t 9)⟩, ⟨(some 43), (some (41, true)), .bin .lss (.t 42) (.c (.int .i64 60))⟩, ⟨(some 44), none, .pick (.t 41) (.t 43) (.c (.bool false))⟩])
 (.cond (.t 44) .skip (.exit 0)))
 (.seq (.block 1 (.seq (.ops [⟨(some 47), none, .mov (.t 1)⟩, ⟨(some 48), none, .mov (.t 9)⟩, ⟨(some 49), none, .iaddr 1 none (.t 47) (.t 48)⟩, ⟨(some 50), none, .load false 1 (.t 49)⟩, ⟨(some 51), none, .bin .shr (.t 50) (.c (.int .u64 2))⟩, ⟨(some 52), none, .bin .and (.t 51) (.c (.int .i64 63))⟩, ⟨(some 10), none, .mov (.t 52)⟩])
 (.seq (.seq (.ops [⟨(some 53), none, .mov (.t 1)⟩, ⟨(some 54), none, .mov (.t 9)⟩, ⟨(some 55), none, .iaddr 1 none (.t 53) (.t 54)⟩, ⟨(some 56), none, .load false 1 (.t 55)⟩, ⟨(some 57), none, .bin .and (.t 56) (.c (.int .i64 3))⟩])
 (.block 2 (.seq (.seq (.ops [⟨(some 86), none, .bin .eql (.t 57) (.c (.int .i64 0))⟩, ⟨(some 85), none, .mov (.t 86)⟩])
 (.cond (.t 85) .skip (.ops [⟨(some 87), none, .bin .eql (.t 57) (.c (.int .i64 1))⟩, ⟨(some 85), none, .mov (.t 87)⟩])))
 (.cond (.t 85) (.seq (.ops [⟨(some 88), none, .mov (.t 6)⟩, ⟨(some 89), none, .mov (.t 9)⟩, ⟨(some 90), none, .bin .add (.t 89) (.c (.int .i64 1))⟩, ⟨(some 91), none, .call 43 [(.t 90)]⟩, ⟨(some 92), none, .call 35 [(.t 88), (.t 91)]⟩, ⟨(some 11), none, .mov (.t 92)⟩])
 (.seq (.seq (.ops [⟨(some 93), none, .mov (.t 11)⟩, ⟨(some 94), none, .call 19 [(.t 93)]⟩, ⟨(some 95), none, .bin .eql (.t 94) (.c (.int .i64 0))⟩, ⟨(some 96), none, .mov (.t 8)⟩, ⟨(some 97), none, .bi (.len 1) [(.t 96)]⟩, ⟨(some 98), none, .mov (.t 5)⟩, ⟨(some 99), none, .bin .lss (.t 97) (.t 98)⟩, ⟨(some 100), none, .eqs .bool true (.t 95) (.t 99)⟩, ⟨(some 101), none, .mov (.t 100)⟩, ⟨(some 102), (some (101, false)), .mov (.t 8)⟩, ⟨(some 103), (some (101, false)), .bi (.len 1) [(.t 102)]⟩, ⟨(some 104), (some (101, false)), .mov (.t 5)⟩, ⟨(some 105), (some (101, false)), .bin .eql (.t 103) (.t 104)⟩, ⟨(some 106), (some (101, false)), .mov (.t 105)⟩, ⟨(some 107), (some (106, true)), .mov (.t 11)⟩, ⟨(some 108), (some (106, true)), .call 19 [(.t 107)]⟩, ⟨(some 109), (some (106, true)), .bin .neq (.t 108) (.c (.int .i64 1701))⟩, ⟨(some 110), (some (101, false)), .pick (.t 106) (.t 109) (.c (.bool false))⟩, ⟨(some 111), none, .pick (.t 101) (.c (.bool true)) (.t 110)⟩])
 (.cond (.t 111) (.seq (.ops [⟨(some 4), none, .mov (.c (.bool false))⟩])
 .ret) .skip))
 (.seq (.ops [⟨(some 112), none, .mov (.t 11)⟩, ⟨(some 113), none, .call 19 [(.t 112)]⟩, ⟨(some 114), none, .bin .eql (.t 113) (.c (.int .i64 0))⟩])
 (.cond (.t 114) (.ops [⟨(some 115), none, .mov (.t 8)⟩, ⟨(some 116), none, .mov (.t 9)⟩, ⟨(some 117), none, .bin .add (.t 116) (.c (.int .i64 1))⟩, ⟨(some 118), none, .bslice [(.int .i64 0)] 3 1 [(0, 1, (.t 117))]⟩, ⟨(some 119), none, .bi (.append 1 8 3) [(.t 115), (.t 118)]⟩, ⟨(some 8), none, .mov (.t 119)⟩]) .skip)))) (.seq (.ops [⟨(some 121), none, .bin .eql (.t 57) (.c (.int .i64 2))⟩, ⟨(some 120), none, .mov (.t 121)⟩])
 (.cond (.t 120) (.seq (.ops [⟨(some 123), none, .mov (.t 6)⟩, ⟨(some 124), none, .mov (.t 10)⟩, ⟨(some 125), none, .call 37 [(.t 123), (.t 124)]⟩, ⟨(some 122), none, .mov (.t 125)⟩, ⟨(some 126), none, .extract (.t 122) 0⟩, ⟨(some 127), none, .extract (.t 122) 1⟩, ⟨(some 12), none, .alloc [(.int .i64 0), (.int .i64 0), (.int .i64 0), (.int .i64 0), (.int .i64 0), (.int .i64 0), (.bool false), (.int .i64 0), (.int .i64 0), (.bool false), (.int .i64 0), (.int .i64 0), (.int .i64 0), (.int .i64 0), .nils, .nils] 63⟩, ⟨none, none, .store 16 (.t 12) (.t 126)⟩, ⟨(some 13), none, .mov (.t 127)⟩])
 (.seq (.seq (.drawn [⟨(some 128), none, .mov (.t 13)⟩, ⟨(some 129), none, .call 19 [(.t 128)]⟩, ⟨(some 130), none, .bin .eql (.t 129) (.c (.int .i64 0))⟩, ⟨(some 131), none, .mov (.t 10)⟩, ⟨(some 132), none, .mov (.t 8)⟩, ⟨(some 133), none, .bi (.len 1) [(.t 132)]⟩, ⟨(some 134), none, .bin .lss (.t 131) (.t 133)⟩, ⟨(some 135), none, .eqs .bool true (.t 130) (.t 134)⟩, ⟨(some 136), none, .mov (.t 135)⟩, ⟨(some 137), (some (136, false)), .mov (.t 13)⟩, ⟨(some 138), (some (136, false)), .call 19 [(.t 137)]⟩, ⟨(some 139), (some (136, false)), .bin .eql (.t 138) (.c (.int .i64 0))⟩, ⟨(some 140), (some (136, false)), .mov (.t 139)⟩, ⟨(some 141), (some (140, true)), .faddr 3 (.t 12)⟩, ⟨(some 142), (some (140, true)), .faddr 1 (.t 141)⟩, ⟨(some 143), (some (140, true)), .load false 1 (.t 142)⟩, ⟨(some 144), (some (140, true)), .mov (.t 8)⟩, ⟨(some 145), (some (140, true)), .mov (.t 10)⟩, ⟨(some 146), (some (140, true)), .iaddr 1 none (.t 144) (.t 145)⟩, ⟨(some 147), (some (140, true)), .load false 1 (.t 146)⟩, ⟨(some 148), (some (140, true)), .bin .neq (.t 143) (.t 147)⟩, ⟨(some 149), (some (136, false)), .pick (.t 140) (.t 148) (.c (.bool false))⟩, ⟨(some 150), none, .pick (.t 136) (.c (.bool true)) (.t 149)⟩] [(5, [0])])
 (.cond (.t 150) (.seq (.ops [⟨(some 4), none, .mov (.c (.bool false))⟩])
 .ret) .skip))
 (.seq (.ops [⟨(some 151), none, .mov (.t 10)⟩, ⟨(some 152), none, .mov (.t 8)⟩, ⟨(some 153), none, .bi (.len 1) [(.t 152)]⟩, ⟨(some 154), none, .bin .lss (.t 151) (.t 153)⟩])
 (.cond (.t 154) (.seq (.ops [⟨(some 155), none, .bslice [(.int .i64 0)] 3 0 []⟩, ⟨(some 156), none, .mov (.t 8)⟩, ⟨(some 157), none, .mov (.t 10)⟩, ⟨(some 158), none, .slice 1 (.t 156) none (some (.t 157)) none⟩, ⟨(some 159), none, .bi (.append 1 8 3) [(.t 155), (.t 158)]⟩, ⟨(some 14), none, .mov (.t 159)⟩])
 (.seq (.ops [⟨(some 160), none, .mov (.t 14)⟩, ⟨(some 161), none, .mov (.t 8)⟩, ⟨(some 162), none, .mov (.t 10)⟩, ⟨(some 163), none, .bin .add (.t 162) (.c (.int .i64 1))⟩, ⟨(some 164), none, .slice 1 (.t 161) (some (.t 163)) none none⟩, ⟨(some 165), none, .bi (.append 1 8 3) [(.t 160), (.t 164)]⟩, ⟨(some 14), none, .mov (.t 165)⟩])
 (.ops [⟨(some 166), none, .mov (.t 14)⟩, ⟨(some 8), none, .mov (.t 166)⟩]))) .skip)))) (.seq (.ops [⟨(some 58), none, .mov (.t 6)⟩, ⟨(some 59), none, .mov (.t 10)⟩, ⟨(some 60), none, .call 39 [(.t 58), (.t 59)]⟩, ⟨(some 15), none, .mov (.t 60)⟩])
 (.seq (.seq (.ops [⟨(some 61), none, .mov (.t 15)⟩, ⟨(some 62), none, .call 19 [(.t 61)]⟩, ⟨(some 63), none, .bin .eql (.t 62) (.c (.int .i64 0))⟩, ⟨(some 64), none, .mov (.t 10)⟩, ⟨(some 65), none, .mov (.t 8)⟩, ⟨(some 66), none, .bi (.len 1) [(.t 65)]⟩, ⟨(some 67), none, .bin .lss (.t 64) (.t 66)⟩, ⟨(some 68), none, .mov (.t 67)⟩, ⟨(some 69), (some (68, true)), .mov (.t 8)⟩, ⟨(some 70), (some (68, true)), .bi (.len 1) [(.t 69)]⟩, ⟨(some 71), (some (68, true)), .mov (.t 5)⟩, ⟨(some 72), (some (68, true)), .bin .lss (.t 70) (.t 71)⟩, ⟨(some 73), none, .pick (.t 68) (.t 72) (.c (.bool false))⟩, ⟨(some 74), none, .eqs .bool true (.t 63) (.t 73)⟩])
 (.cond (.t 74) (.seq (.ops [⟨(some 4), none, .mov (.c (.bool false))⟩])
 .ret) .skip))
 (.seq (.ops [⟨(some 75), none, .mov (.t 15)⟩, ⟨(some 76), none, .call 19 [(.t 75)]⟩, ⟨(some 77), none, .bin .eql (.t 76) (.c (.int .i64 0))⟩])
 (.cond (.t 77) (.ops [⟨(some 78), none, .mov (.t 8)⟩, ⟨(some 79), none, .mov (.t 8)⟩, ⟨(some 80), none, .mov (.t 10)⟩, ⟨(some 81), none, .iaddr 1 none (.t 79) (.t 80)⟩, ⟨(some 82), none, .load false 1 (.t 81)⟩, ⟨(some 83), none, .bslice [(.int .i64 0)] 3 1 [(0, 1, (.t 82))]⟩, ⟨(some 84), none, .bi (.append 1 8 3) [(.t 78), (.t 83)]⟩, ⟨(some 8), none, .mov (.t 84)⟩]) .skip))))))))))
 (.seq (.ops [⟨(some 167), none, .mov (.t 6)⟩, ⟨(some 168), none, .call 41 [(.t 167)]⟩, ⟨(some 16), none, .mov (.t 168)⟩])
 (.seq (.seq (.ops [⟨(some 169), none, .mov (.t 16)⟩, ⟨(some 170), none, .bi (.len 1) [(.t 169)]⟩, ⟨(some 171), none, .mov (.t 8)⟩, ⟨(some 172), none, .bi (.len 1) [(.t 171)]⟩, ⟨(some 173), none, .bin .neq (.t 170) (.t 172)⟩])
 (.cond (.t 173) (.seq (.ops [⟨(some 4), none, .mov (.c (.bool false))⟩])
 .ret) .skip))
 (.seq (.ops [⟨(some 17), none, .mov (.c (.int .i64 0))⟩])
 (.block 3 (.loop b11_0))))))))
 (.ops [⟨(some 45), none, .mov (.t 9)⟩, ⟨(some 46), none, .bin .add (.t 45) (.c (.int .i64 1))⟩, ⟨(some 9), none, .mov (.t 46)⟩])))
/-- furlong/furlonglaw17.QueueRow -/
def v11 : VFun := ⟨2, [(.tmp 4)], (.seq (.ops [⟨(some 4), none, .mov (.c (.bool false))⟩])
 (.seq (.seq (.ops [⟨(some 18), none, .call 34 []⟩, ⟨(some 19), none, .un .not (.t 18)⟩])
 (.cond (.t 19) (.seq (.ops [⟨(some 4), none, .mov (.c (.bool false))⟩])
 .ret) .skip))
 (.seq (.ops [⟨(some 20), none, .mov (.t 0)⟩, ⟨(some 21), none, .conv (.int .u64) (.t 20)⟩, ⟨(some 22), none, .bin .rem (.t 21) (.c (.int .u64 64))⟩, ⟨(some 23), none, .conv (.int .i64) (.t 22)⟩, ⟨(some 24), none, .bin .add (.c (.int .i64 1)) (.t 23)⟩, ⟨(some 5), none, .mov (.t 24)⟩])
 (.seq (.ops [⟨(some 26), none, .mov (.t 5)⟩, ⟨(some 27), none, .call 32 [(.t 26)]⟩, ⟨(some 25), none, .mov (.t 27)⟩, ⟨(some 28), none, .extract (.t 25) 0⟩, ⟨(some 29), none, .extract (.t 25) 1⟩, ⟨(some 6), none, .mov (.t 28)⟩, ⟨(some 7), none, .mov (.t 29)⟩])
 (.seq (.seq (.ops [⟨(some 30), none, .mov (.t 7)⟩, ⟨(some 31), none, .call 19 [(.t 30)]⟩, ⟨(some 32), none, .bin .neq (.t 31) (.c (.int .i64 0))⟩, ⟨(some 33), none, .mov (.t 32)⟩, ⟨(some 34), (some (33, false)), .mov (.t 6)⟩, ⟨(some 35), (some (33, false)), .eqs .ptr false (.t 34) (.c .nilp)⟩, ⟨(some 36), none, .pick (.t 33) (.c (.bool true)) (.t 35)⟩])
 (.cond (.t 36) (.seq (.ops [⟨(some 4), none, .mov (.c (.bool false))⟩])
 .ret) .skip))
 (.seq (.ops [⟨(some 8), none, .mov (.c .nils)⟩])
 (.seq (.seq (.ops [⟨(some 9), none, .mov (.c (.int .i64 0))⟩])
 (.block 0 (.loop b11_1)))
 (.seq (.ops [⟨(some 4), none, .mov (.c (.bool true))⟩])
 .ret))))))))⟩
/-- furlong/furlonglaw0.Num -/
def v19 : VFun := ⟨1, [(.tmp 2)], (.seq (.ops [⟨(some 2), none, .mov (.c (.int .i64 0))⟩])
 (.seq (.ops [⟨(some 3), none, .mov (.t 0)⟩, ⟨(some 2), none, .mov (.t 3)⟩])
 .ret))⟩
def b25_0 : VCode := (.seq (.ops [⟨(some 28), none, .bin .lss (.t 27) (.c (.int .i64 3))⟩])
 (.seq (.cond (.t 28) .skip (.exit 0))
 (.seq (.block 1 (.seq (.ops [⟨(some 29), none, .index false 1 3 (.t 26) (.t 27)⟩, ⟨(some 8), none, .mov (.t 29)⟩])
 (.ops [⟨(some 30), none, .mov (.t 6)⟩, ⟨(some 31), none, .mov (.t 8)⟩, ⟨(some 32), none, .call 46 [(.t 30), (.t 31), (.c (.int .i64 1))]⟩])))
 (.ops [⟨(some 33), none, .bin .add (.t 27) (.c (.int .i64 1))⟩, ⟨(some 27), none, .mov (.t 33)⟩]))))
def b25_1 : VCode := (.seq (.ops [⟨(some 83), none, .bin .lss (.t 82) (.t 81)⟩])
 (.seq (.cond (.t 83) .skip (.exit 2))
 (.seq (.block 3 (.seq (.ops [⟨(some 84), none, .mov (.t 82)⟩, ⟨(some 9), none, .mov (.t 84)⟩])
 (.ops [⟨(some 85), none, .mov (.t 6)⟩, ⟨(some 86), none, .faddr 15 (.t 1)⟩, ⟨(some 87), none, .load false 1 (.t 86)⟩, ⟨(some 88), none, .mov (.t 9)⟩, ⟨(some 89), none, .iaddr 3 none (.t 87) (.t 88)⟩, ⟨(some 90), none, .call 73 [(.t 85), (.t 89)]⟩])))
 (.ops [⟨(some 91), none, .bin .add (.t 82) (.c (.int .i64 1))⟩, ⟨(some 82), none, .mov (.t 91)⟩]))))
/-- furlong/msg.Put -/
def v25 : VFun := ⟨1, [(.tmp 2), (.tmp 3)], (.seq (.ops [⟨(some 1), none, .box 63 (.t 0)⟩, ⟨(some 2), none, .mov (.c (.str []))⟩, ⟨(some 3), none, .mov (.c (.int .i64 0))⟩])
 (.seq (.ops [⟨(some 11), none, .call 71 [(.t 1)]⟩, ⟨(some 10), none, .mov (.t 11)⟩, ⟨(some 12), none, .extract (.t 10) 0⟩, ⟨(some 13), none, .extract (.t 10) 1⟩, ⟨(some 4), none, .alloc [(.bool false), (.bool false), (.bool false), (.bool false), (.bool false)] 132⟩, ⟨none, none, .store 5 (.t 4) (.t 12)⟩, ⟨(some 5), none, .mov (.t 13)⟩])
 (.seq (.seq (.ops [⟨(some 14), none, .mov (.t 5)⟩, ⟨(some 15), none, .un .not (.t 14)⟩])
 (.cond (.t 15) (.seq (.ops [⟨(some 2), none, .mov (.c (.str []))⟩, ⟨(some 3), none, .mov (.c (.int .i64 1600))⟩])
 .ret) .skip))
 (.seq (.ops [⟨(some 16), none, .bslice [(.int .u8 0)] 5 2 [(0, 1, (.c (.int .u8 77))), (1, 1, (.c (.int .u8 83)))]⟩, ⟨(some 17), none, .conv .mark (.t 16)⟩, ⟨(some 18), none, .build [.nils] [(0, 1, (.t 17))]⟩, ⟨(some 19), none, .box 103 (.t 18)⟩, ⟨(some 6), none, .mov (.t 19)⟩])
 (.seq (.seq (.ops [⟨(some 20), none, .faddr 0 (.t 1)⟩, ⟨(some 21), none, .load false 1 (.t 20)⟩, ⟨(some 22), none, .faddr 1 (.t 1)⟩, ⟨(some 23), none, .load false 1 (.t 22)⟩, ⟨(some 24), none, .faddr 2 (.t 1)⟩, ⟨(some 25), none, .load false 1 (.t 24)⟩, ⟨(some 26), none, .build [(.int .i64 0), (.int .i64 0), (.int .i64 0)] [(0, 1, (.t 21)), (1, 1, (.t 23)), (2, 1, (.t 25))]⟩, ⟨(some 27), none, .mov (.c (.int .i64 0))⟩])
 (.block 0 (.loop b25_0)))
 (.seq (.seq (.ops [⟨(some 34), none, .faddr 0 (.t 4)⟩, ⟨(some 35), none, .load false 1 (.t 34)⟩])
 (.cond (.t 35) (.ops [⟨(some 36), none, .mov (.t 6)⟩, ⟨(some 37), none, .faddr 3 (.t 1)⟩, ⟨(some 38), none, .load true 2 (.t 37)⟩, ⟨(some 39), none, .call 48 [(.t 36), (.t 38)]⟩]) .skip))
 (.seq (.seq (.ops [⟨(some 40), none, .faddr 1 (.t 4)⟩, ⟨(some 41), none, .load false 1 (.t 40)⟩])
 (.cond (.t 41) (.ops [⟨(some 42), none, .mov (.t 6)⟩, ⟨(some 43), none, .faddr 5 (.t 1)⟩, ⟨(some 44), none, .load false 1 (.t 43)⟩, ⟨(some 45), none, .faddr 14 (.t 1)⟩, ⟨(some 46), none, .load false 1 (.t 45)⟩, ⟨(some 47), none, .call 49 [(.t 42), (.t 44), (.t 46)]⟩]) .skip))
 (.seq (.seq (.ops [⟨(some 48), none, .faddr 2 (.t 4)⟩, ⟨(some 49), none, .load false 1 (.t 48)⟩])
 (.cond (.t 49) (.ops [⟨(some 50), none, .mov (.t 6)⟩, ⟨(some 51), none, .faddr 6 (.t 1)⟩, ⟨(some 52), none, .load false 1 (.t 51)⟩, ⟨(some 53), none, .call 50 [(.t 50), (.t 52)]⟩]) .skip))
 (.seq (.seq (.ops [⟨(some 54), none, .faddr 3 (.t 4)⟩, ⟨(some 55), none, .load false 1 (.t 54)⟩])
 (.cond (.t 55) (.seq (.ops [⟨(some 56), none, .mov (.t 6)⟩, ⟨(some 57), none, .faddr 7 (.t 1)⟩, ⟨(some 58), none, .load false 1 (.t 57)⟩, ⟨(some 59), none, .call 46 [(.t 56), (.t 58), (.c (.int .i64 2))]⟩])
 (.ops [⟨(some 60), none, .mov (.t 6)⟩, ⟨(some 61), none, .faddr 10 (.t 1)⟩, ⟨(some 62), none, .load true 4 (.t 61)⟩, ⟨(some 63), none, .call 72 [(.t 60), (.t 62)]⟩])) .skip))
 (.seq (.seq (.ops [⟨(some 64), none, .faddr 4 (.t 4)⟩, ⟨(some 65), none, .load false 1 (.t 64)⟩])
 (.cond (.t 65) (.seq (.ops [⟨(some 66), none, .mov (.t 6)⟩, ⟨(some 67), none, .faddr 8 (.t 1)⟩, ⟨(some 68), none, .load false 1 (.t 67)⟩, ⟨(some 69), none, .call 46 [(.t 66), (.t 68), (.c (.int .i64 4))]⟩])
 (.seq (.ops [⟨(some 70), none, .mov (.t 6)⟩, ⟨(some 71), none, .faddr 9 (.t 1)⟩, ⟨(some 72), none, .load false 1 (.t 71)⟩, ⟨(some 73), none, .call 50 [(.t 70), (.t 72)]⟩])
 (.seq (.ops [⟨(some 74), none, .mov (.t 6)⟩, ⟨(some 75), none, .faddr 15 (.t 1)⟩, ⟨(some 76), none, .load false 1 (.t 75)⟩, ⟨(some 77), none, .bi (.len 1) [(.t 76)]⟩, ⟨(some 78), none, .call 46 [(.t 74), (.t 77), (.c (.int .i64 2))]⟩])
 (.seq (.ops [⟨(some 79), none, .faddr 15 (.t 1)⟩, ⟨(some 80), none, .load false 1 (.t 79)⟩, ⟨(some 81), none, .bi (.len 1) [(.t 80)]⟩, ⟨(some 82), none, .mov (.c (.int .i64 0))⟩])
 (.block 2 (.loop b25_1)))))) .skip))
 (.seq (.seq (.ops [⟨(some 92), none, .mov (.t 6)⟩, ⟨(some 93), none, .nilck (.t 92)⟩, ⟨(some 94), none, .faddr 0 (.t 93)⟩, ⟨(some 95), none, .load false 1 (.t 94)⟩, ⟨(some 96), none, .bi (.len 1) [(.t 95)]⟩, ⟨(some 97), none, .bin .gtr (.t 96) (.c (.int .i64 16384))⟩])
 (.cond (.t 97) (.seq (.ops [⟨(some 2), none, .mov (.c (.str []))⟩, ⟨(some 3), none, .mov (.c (.int .i64 1600))⟩])
 .ret) .skip))
 (.seq (.ops [⟨(some 98), none, .mov (.t 6)⟩, ⟨(some 99), none, .nilck (.t 98)⟩, ⟨(some 100), none, .faddr 0 (.t 99)⟩, ⟨(some 101), none, .load false 1 (.t 100)⟩, ⟨(some 102), none, .conv .text (.t 101)⟩, ⟨(some 2), none, .mov (.t 102)⟩, ⟨(some 3), none, .mov (.c (.int .i64 0))⟩])
 .ret))))))))))))⟩
/-- furlong/furlonglaw0.SameMsg -/
def v29 : VFun := ⟨2, [(.tmp 4)], (.seq (.ops [⟨(some 2), none, .box 63 (.t 0)⟩, ⟨(some 3), none, .box 63 (.t 1)⟩, ⟨(some 4), none, .mov (.c (.bool false))⟩])
 (.seq (.ops [⟨(some 5), none, .faddr 0 (.t 2)⟩, ⟨(some 6), none, .load false 1 (.t 5)⟩, ⟨(some 7), none, .faddr 0 (.t 3)⟩, ⟨(some 8), none, .load false 1 (.t 7)⟩, ⟨(some 9), none, .bin .eql (.t 6) (.t 8)⟩, ⟨(some 10), none, .mov (.t 9)⟩, ⟨(some 11), (some (10, true)), .faddr 1 (.t 2)⟩, ⟨(some 12), (some (10, true)), .load false 1 (.t 11)⟩, ⟨(some 13), (some (10, true)), .faddr 1 (.t 3)⟩, ⟨(some 14), (some (10, true)), .load false 1 (.t 13)⟩, ⟨(some 15), (some (10, true)), .bin .eql (.t 12) (.t 14)⟩, ⟨(some 16), none, .pick (.t 10) (.t 15) (.c (.bool false))⟩, ⟨(some 17), none, .mov (.t 16)⟩, ⟨(some 18), (some (17, true)), .faddr 2 (.t 2)⟩, ⟨(some 19), (some (17, true)), .load false 1 (.t 18)⟩, ⟨(some 20), (some (17, true)), .faddr 2 (.t 3)⟩, ⟨(some 21), (some (17, true)), .load false 1 (.t 20)⟩, ⟨(some 22), (some (17, true)), .bin .eql (.t 19) (.t 21)⟩, ⟨(some 23), none, .pick (.t 17) (.t 22) (.c (.bool false))⟩, ⟨(some 24), none, .mov (.t 23)⟩, ⟨(some 25), (some (24, true)), .faddr 3 (.t 2)⟩, ⟨(some 26), (some (24, true)), .load true 2 (.t 25)⟩, ⟨(some 27), (some (24, true)), .faddr 3 (.t 3)⟩, ⟨(some 28), (some (24, true)), .load true 2 (.t 27)⟩, ⟨(some 29), (some (24, true)), .eqs (.flat [.int, .int]) false (.t 26) (.t 28)⟩, ⟨(some 30), none, .pick (.t 24) (.t 29) (.c (.bool false))⟩, ⟨(some 31), none, .mov (.t 30)⟩, ⟨(some 32), (some (31, true)), .faddr 5 (.t 2)⟩, ⟨(some 33), (some (31, true)), .load false 1 (.t 32)⟩, ⟨(some 34), (some (31, true)), .faddr 5 (.t 3)⟩, ⟨(some 35), (some (31, true)), .load false 1 (.t 34)⟩, ⟨(some 36), (some (31, true)), .bin .eql (.t 33) (.t 35)⟩, ⟨(some 37), none, .pick (.t 31) (.t 36) (.c (.bool false))⟩, ⟨(some 38), none, .mov (.t 37)⟩, ⟨(some 39), (some (38, true)), .faddr 6 (.t 2)⟩, ⟨(some 40), (some (38, true)), .load false 1 (.t 39)⟩, ⟨(some 41), (some (38, true)), .faddr 6 (.t 3)⟩, ⟨(some 42), (some (38, true)), .load false 1 (.t 41)⟩, ⟨(some 43), (some (38, true)), .eqs .bool false (.t 40) (.t 42)⟩, ⟨(some 44), none, .pick (.t 38) (.t 43) (.c (.bool false))⟩, ⟨(some 45), none, .mov (.t 44)⟩, ⟨(some 46), (some (45, true)), .faddr 7 (.t 2)⟩, ⟨(some 47), (some (45, true)), .load false 1 (.t 46)⟩, ⟨(some 48), (some (45, true)), .faddr 7 (.t 3)⟩, ⟨(some 49), (some (45, true)), .load false 1 (.t 48)⟩, ⟨(some 50), (some (45, true)), .bin .eql (.t 47) (.t 49)⟩, ⟨(some 51), none, .pick (.t 45) (.t 50) (.c (.bool false))⟩, ⟨(some 52), none, .mov (.t 51)⟩, ⟨(some 53), (some (52, true)), .faddr 8 (.t 2)⟩, ⟨(some 54), (some (52, true)), .load false 1 (.t 53)⟩, ⟨(some 55), (some (52, true)), .faddr 8 (.t 3)⟩, ⟨(some 56), (some (52, true)), .load false 1 (.t 55)⟩, ⟨(some 57), (some (52, true)), .bin .eql (.t 54) (.t 56)⟩, ⟨(some 58), none, .pick (.t 52) (.t 57) (.c (.bool false))⟩, ⟨(some 59), none, .mov (.t 58)⟩, ⟨(some 60), (some (59, true)), .faddr 9 (.t 2)⟩, ⟨(some 61), (some (59, true)), .load false 1 (.t 60)⟩, ⟨(some 62), (some (59, true)), .faddr 9 (.t 3)⟩, ⟨(some 63), (some (59, true)), .load false 1 (.t 62)⟩, ⟨(some 64), (some (59, true)), .eqs .bool false (.t 61) (.t 63)⟩, ⟨(some 65), none, .pick (.t 59) (.t 64) (.c (.bool false))⟩, ⟨(some 66), none, .mov (.t 65)⟩, ⟨(some 67), (some (66, true)), .faddr 10 (.t 2)⟩, ⟨(some 68), (some (66, true)), .load true 4 (.t 67)⟩, ⟨(some 69), (some (66, true)), .faddr 10 (.t 3)⟩, ⟨(some 70), (some (66, true)), .load true 4 (.t 69)⟩, ⟨(some 71), (some (66, true)), .eqs (.flat [.int, .int, .int, .int]) false (.t 68) (.t 70)⟩, ⟨(some 72), none, .pick (.t 66) (.t 71) (.c (.bool false))⟩, ⟨(some 73), none, .mov (.t 72)⟩, ⟨(some 74), (some (73, true)), .faddr 14 (.t 2)⟩, ⟨(some 75), (some (73, true)), .load false 1 (.t 74)⟩, ⟨(some 76), (some (73, true)), .faddr 14 (.t 3)⟩, ⟨(some 77), (some (73, true)), .load false 1 (.t 76)⟩, ⟨(some 78), (some (73, true)), .call 68 [(.t 75), (.t 77)]⟩, ⟨(some 79), none, .pick (.t 73) (.t 78) (.c (.bool false))⟩, ⟨(some 80), none, .mov (.t 79)⟩, ⟨(some 81), (some (80, true)), .faddr 15 (.t 2)⟩, ⟨(some 82), (some (80, true)), .load false 1 (.t 81)⟩, ⟨(some 83), (some (80, true)), .faddr 15 (.t 3)⟩, ⟨(some 84), (some (80, true)), .load false 1 (.t 83)⟩, ⟨(some 85), (some (80, true)), .call 81 [(.t 82), (.t 84)]⟩, ⟨(some 86), none, .pick (.t 80) (.t 85) (.c (.bool false))⟩, ⟨(some 4), none, .mov (.t 86)⟩])
 .ret))⟩
/-- furlong/queue.New -/
def v32 : VFun := ⟨1, [(.tmp 2), (.tmp 3)], (.seq (.ops [⟨(some 2), none, .mov (.c .nilp)⟩, ⟨(some 3), none, .mov (.c (.int .i64 0))⟩])
 (.seq (.seq (.ops [⟨(some 4), none, .mov (.t 0)⟩, ⟨(some 5), none, .bin .lss (.t 4) (.c (.int .i64 1))⟩, ⟨(some 6), none, .mov (.t 5)⟩, ⟨(some 7), (some (6, false)), .mov (.t 0)⟩, ⟨(some 8), (some (6, false)), .bin .gtr (.t 7) (.c (.int .i64 64))⟩, ⟨(some 9), none, .pick (.t 6) (.c (.bool true)) (.t 8)⟩])
 (.cond (.t 9) (.seq (.ops [⟨(some 2), none, .mov (.c .nilp)⟩, ⟨(some 3), none, .mov (.c (.int .i64 1700))⟩])
 .ret) .skip))
 (.seq (.ops [⟨(some 10), none, .mov (.t 0)⟩, ⟨(some 11), none, .build [(.int .i64 0), .nils] [(0, 1, (.t 10))]⟩, ⟨(some 12), none, .box 149 (.t 11)⟩, ⟨(some 2), none, .mov (.t 12)⟩, ⟨(some 3), none, .mov (.c (.int .i64 0))⟩])
 .ret)))⟩
/-- furlong/furlonglaw17.awake -/
def v34 : VFun := ⟨0, [(.tmp 0)], (.seq (.ops [⟨(some 0), none, .mov (.c (.bool false))⟩])
 (.seq (.ops [⟨(some 15), none, .call 32 [(.c (.int .i64 2))]⟩, ⟨(some 14), none, .mov (.t 15)⟩, ⟨(some 16), none, .extract (.t 14) 0⟩, ⟨(some 17), none, .extract (.t 14) 1⟩, ⟨(some 1), none, .mov (.t 16)⟩, ⟨(some 2), none, .mov (.t 17)⟩])
 (.seq (.ops [⟨(some 19), none, .call 32 [(.c (.int .i64 0))]⟩, ⟨(some 18), none, .mov (.t 19)⟩, ⟨(some 20), none, .extract (.t 18) 0⟩, ⟨(some 21), none, .extract (.t 18) 1⟩, ⟨(some 3), none, .mov (.t 20)⟩, ⟨(some 4), none, .mov (.t 21)⟩])
 (.seq (.seq (.ops [⟨(some 22), none, .mov (.t 2)⟩, ⟨(some 23), none, .call 19 [(.t 22)]⟩, ⟨(some 24), none, .bin .neq (.t 23) (.c (.int .i64 0))⟩, ⟨(some 25), none, .mov (.t 24)⟩, ⟨(some 26), (some (25, false)), .mov (.t 1)⟩, ⟨(some 27), (some (25, false)), .eqs .ptr false (.t 26) (.c .nilp)⟩, ⟨(some 28), none, .pick (.t 25) (.c (.bool true)) (.t 27)⟩])
 (.cond (.t 28) (.seq (.ops [⟨(some 0), none, .mov (.c (.bool false))⟩])
 .ret) .skip))
 (.seq (.ops [⟨(some 29), none, .mov (.t 1)⟩, ⟨(some 30), none, .call 43 [(.c (.int .i64 1))]⟩, ⟨(some 31), none, .call 35 [(.t 29), (.t 30)]⟩, ⟨(some 5), none, .mov (.t 31)⟩])
 (.seq (.ops [⟨(some 32), none, .mov (.t 1)⟩, ⟨(some 33), none, .call 39 [(.t 32), (.c (.int .i64 0))]⟩, ⟨(some 6), none, .mov (.t 33)⟩])
 (.seq (.ops [⟨(some 34), none, .mov (.t 1)⟩, ⟨(some 35), none, .call 43 [(.c (.int .i64 2))]⟩, ⟨(some 36), none, .call 35 [(.t 34), (.t 35)]⟩, ⟨(some 7), none, .mov (.t 36)⟩])
 (.seq (.ops [⟨(some 38), none, .mov (.t 1)⟩, ⟨(some 39), none, .call 37 [(.t 38), (.c (.int .i64 0))]⟩, ⟨(some 37), none, .mov (.t 39)⟩, ⟨(some 40), none, .extract (.t 37) 0⟩, ⟨(some 41), none, .extract (.t 37) 1⟩, ⟨(some 8), none, .alloc [(.int .i64 0), (.int .i64 0), (.int .i64 0), (.int .i64 0), (.int .i64 0), (.int .i64 0), (.bool false), (.int .i64 0), (.int .i64 0), (.bool false), (.int .i64 0), (.int .i64 0), (.int .i64 0), (.int .i64 0), .nils, .nils] 63⟩, ⟨none, none, .store 16 (.t 8) (.t 40)⟩, ⟨(some 9), none, .mov (.t 41)⟩])
 (.seq (.ops [⟨(some 42), none, .mov (.t 1)⟩, ⟨(some 43), none, .call 43 [(.c (.int .i64 2))]⟩, ⟨(some 44), none, .call 35 [(.t 42), (.t 43)]⟩, ⟨(some 10), none, .mov (.t 44)⟩])
 (.seq (.ops [⟨(some 46), none, .mov (.t 1)⟩, ⟨(some 47), none, .call 37 [(.t 46), (.c (.int .i64 2))]⟩, ⟨(some 45), none, .mov (.t 47)⟩, ⟨(some 48), none, .extract (.t 45) 0⟩, ⟨(some 49), none, .extract (.t 45) 1⟩, ⟨(some 11), none, .alloc [(.int .i64 0), (.int .i64 0), (.int .i64 0), (.int .i64 0), (.int .i64 0), (.int .i64 0), (.bool false), (.int .i64 0), (.int .i64 0), (.bool false), (.int .i64 0), (.int .i64 0), (.int .i64 0), (.int .i64 0), .nils, .nils] 63⟩, ⟨none, none, .store 16 (.t 11) (.t 48)⟩, ⟨(some 12), none, .mov (.t 49)⟩])
 (.seq (.ops [⟨(some 50), none, .mov (.t 1)⟩, ⟨(some 51), none, .build [(.int .i64 0), (.int .i64 0), (.int .i64 0), (.int .i64 0), (.int .i64 0), (.int .i64 0), (.bool false), (.int .i64 0), (.int .i64 0), (.bool false), (.int .i64 0), (.int .i64 0), (.int .i64 0), (.int .i64 0), .nils, .nils] [(0, 1, (.c (.int .i64 4)))]⟩, ⟨(some 52), none, .call 35 [(.t 50), (.t 51)]⟩, ⟨(some 13), none, .mov (.t 52)⟩])
 (.seq (.ops [⟨(some 53), none, .mov (.t 4)⟩, ⟨(some 54), none, .call 19 [(.t 53)]⟩, ⟨(some 55), none, .bin .eql (.t 54) (.c (.int .i64 1700))⟩, ⟨(some 56), none, .mov (.t 55)⟩, ⟨(some 57), (some (56, true)), .mov (.t 5)⟩, ⟨(some 58), (some (56, true)), .call 19 [(.t 57)]⟩, ⟨(some 59), (some (56, true)), .bin .eql (.t 58) (.c (.int .i64 0))⟩, ⟨(some 60), none, .pick (.t 56) (.t 59) (.c (.bool false))⟩, ⟨(some 61), none, .mov (.t 60)⟩, ⟨(some 62), (some (61, true)), .mov (.t 6)⟩, ⟨(some 63), (some (61, true)), .call 19 [(.t 62)]⟩, ⟨(some 64), (some (61, true)), .bin .eql (.t 63) (.c (.int .i64 0))⟩, ⟨(some 65), none, .pick (.t 61) (.t 64) (.c (.bool false))⟩, ⟨(some 66), none, .mov (.t 65)⟩, ⟨(some 67), (some (66, true)), .mov (.t 7)⟩, ⟨(some 68), (some (66, true)), .call 19 [(.t 67)]⟩, ⟨(some 69), (some (66, true)), .bin .eql (.t 68) (.c (.int .i64 1701))⟩, ⟨(some 70), none, .pick (.t 66) (.t 69) (.c (.bool false))⟩, ⟨(some 71), none, .mov (.t 70)⟩, ⟨(some 72), (some (71, true)), .faddr 3 (.t 8)⟩, ⟨(some 73), (some (71, true)), .faddr 1 (.t 72)⟩, ⟨(some 74), (some (71, true)), .load false 1 (.t 73)⟩, ⟨(some 75), (some (71, true)), .bin .eql (.t 74) (.c (.int .i64 1))⟩, ⟨(some 76), none, .pick (.t 71) (.t 75) (.c (.bool false))⟩, ⟨(some 77), none, .mov (.t 76)⟩, ⟨(some 78), (some (77, true)), .mov (.t 9)⟩, ⟨(some 79), (some (77, true)), .call 19 [(.t 78)]⟩, ⟨(some 80), (some (77, true)), .bin .eql (.t 79) (.c (.int .i64 0))⟩, ⟨(some 81), none, .pick (.t 77) (.t 80) (.c (.bool false))⟩, ⟨(some 82), none, .mov (.t 81)⟩, ⟨(some 83), (some (82, true)), .mov (.t 10)⟩, ⟨(some 84), (some (82, true)), .call 19 [(.t 83)]⟩, ⟨(some 85), (some (82, true)), .bin .eql (.t 84) (.c (.int .i64 0))⟩, ⟨(some 86), none, .pick (.t 82) (.t 85) (.c (.bool false))⟩, ⟨(some 87), none, .mov (.t 86)⟩, ⟨(some 88), (some (87, true)), .mov (.t 12)⟩, ⟨(some 89), (some (87, true)), .call 19 [(.t 88)]⟩, ⟨(some 90), (some (87, true)), .bin .eql (.t 89) (.c (.int .i64 1700))⟩, ⟨(some 91), none, .pick (.t 87) (.t 90) (.c (.bool false))⟩, ⟨(some 92), none, .mov (.t 91)⟩, ⟨(some 93), (some (92, true)), .mov (.t 13)⟩, ⟨(some 94), (some (92, true)), .call 19 [(.t 93)]⟩, ⟨(some 95), (some (92, true)), .bin .eql (.t 94) (.c (.int .i64 1700))⟩, ⟨(some 96), none, .pick (.t 92) (.t 95) (.c (.bool false))⟩, ⟨(some 97), none, .mov (.t 96)⟩, ⟨(some 98), (some (97, true)), .mov (.t 1)⟩, ⟨(some 99), (some (97, true)), .call 41 [(.t 98)]⟩, ⟨(some 100), (some (97, true)), .call 43 [(.c (.int .i64 1))]⟩, ⟨(some 101), (some (97, true)), .call 43 [(.c (.int .i64 2))]⟩, ⟨(some 102), (some (97, true)), .bslice [(.int .i64 0), (.int .i64 0), (.int .i64 0), (.int .i64 0), (.int .i64 0), (.int .i64 0), (.bool false), (.int .i64 0), (.int .i64 0), (.bool false), (.int .i64 0), (.int .i64 0), (.int .i64 0), (.int .i64 0), .nils, .nils] 63 2 [(0, 16, (.t 100)), (16, 16, (.t 101))]⟩, ⟨(some 103), (some (97, true)), .call 42 [(.t 99), (.t 102)]⟩, ⟨(some 104), none, .pick (.t 97) (.t 103) (.c (.bool false))⟩, ⟨(some 0), none, .mov (.t 104)⟩])
 .ret))))))))))))⟩
/-- (*furlong/queue.Queue).Send -/
def v35 : VFun := ⟨2, [(.tmp 4)], (.seq (.ops [⟨(some 3), none, .box 63 (.t 1)⟩, ⟨(some 4), none, .mov (.c (.int .i64 0))⟩])
 (.seq (.seq (.ops [⟨(some 7), none, .mov (.t 0)⟩, ⟨(some 8), none, .eqs .ptr false (.t 7) (.c .nilp)⟩])
 (.cond (.t 8) (.seq (.ops [⟨(some 4), none, .mov (.c (.int .i64 1))⟩])
 .ret) .skip))
 (.seq (.seq (.ops [⟨(some 10), none, .load true 16 (.t 3)⟩, ⟨(some 11), none, .call 25 [(.t 10)]⟩, ⟨(some 9), none, .mov (.t 11)⟩, ⟨(some 12), none, .extract (.t 9) 0⟩, ⟨(some 13), none, .extract (.t 9) 1⟩, ⟨(some 5), none, .mov (.t 12)⟩, ⟨(some 6), none, .mov (.t 13)⟩])
 (.seq (.ops [⟨(some 14), none, .mov (.t 6)⟩, ⟨(some 15), none, .bin .neq (.t 14) (.c (.int .i64 0))⟩])
 (.cond (.t 15) (.seq (.ops [⟨(some 4), none, .mov (.c (.int .i64 1700))⟩])
 .ret) .skip)))
 (.seq (.seq (.drawn [⟨(some 16), none, .mov (.t 0)⟩, ⟨(some 17), none, .nilck (.t 16)⟩, ⟨(some 18), none, .faddr 1 (.t 17)⟩, ⟨(some 19), none, .load false 1 (.t 18)⟩, ⟨(some 20), none, .bi (.len 1) [(.t 19)]⟩, ⟨(some 21), none, .mov (.t 0)⟩, ⟨(some 22), none, .nilck (.t 21)⟩, ⟨(some 23), none, .faddr 0 (.t 22)⟩, ⟨(some 24), none, .load false 1 (.t 23)⟩, ⟨(some 25), none, .bin .geq (.t 20) (.t 24)⟩] [])
 (.cond (.t 25) (.seq (.ops [⟨(some 4), none, .mov (.c (.int .i64 1701))⟩])
 .ret) .skip))
 (.seq (.drawn [⟨(some 26), none, .mov (.t 0)⟩, ⟨(some 27), none, .mov (.t 0)⟩, ⟨(some 28), none, .nilck (.t 27)⟩, ⟨(some 29), none, .faddr 1 (.t 28)⟩, ⟨(some 30), none, .load false 1 (.t 29)⟩, ⟨(some 31), none, .load true 16 (.t 3)⟩, ⟨(some 32), none, .call 82 [(.t 31)]⟩, ⟨(some 33), none, .bslice [(.int .i64 0), (.int .i64 0), (.int .i64 0), (.int .i64 0), (.int .i64 0), (.int .i64 0), (.bool false), (.int .i64 0), (.int .i64 0), (.bool false), (.int .i64 0), (.int .i64 0), (.int .i64 0), (.int .i64 0), .nils, .nils] 63 1 [(0, 16, (.t 32))]⟩, ⟨(some 34), none, .bi (.append 16 160 63) [(.t 30), (.t 33)]⟩, ⟨(some 35), none, .nilck (.t 26)⟩, ⟨(some 36), none, .faddr 1 (.t 35)⟩, ⟨none, none, .store 1 (.t 36) (.t 34)⟩] [(4, [7, 8])])
 (.seq (.ops [⟨(some 4), none, .mov (.c (.int .i64 0))⟩])
 .ret))))))⟩
/-- (*furlong/queue.Queue).Take -/
def v37 : VFun := ⟨2, [(.cell 4 true 16), (.tmp 5)], (.seq (.ops [⟨(some 4), none, .alloc [(.int .i64 0), (.int .i64 0), (.int .i64 0), (.int .i64 0), (.int .i64 0), (.int .i64 0), (.bool false), (.int .i64 0), (.int .i64 0), (.bool false), (.int .i64 0), (.int .i64 0), (.int .i64 0), (.int .i64 0), .nils, .nils] 63⟩, ⟨(some 5), none, .mov (.c (.int .i64 0))⟩])
 (.seq (.block 0 (.seq (.ops [⟨(some 8), none, .mov (.t 0)⟩, ⟨(some 9), none, .eqs .ptr false (.t 8) (.c .nilp)⟩, ⟨(some 7), none, .mov (.t 9)⟩])
 (.cond (.t 7) (.seq (.ops [⟨(some 10), none, .build [(.int .i64 0), (.int .i64 0), (.int .i64 0), (.int .i64 0), (.int .i64 0), (.int .i64 0), (.bool false), (.int .i64 0), (.int .i64 0), (.bool false), (.int .i64 0), (.int .i64 0), (.int .i64 0), (.int .i64 0), .nils, .nils] []⟩, ⟨none, none, .store 16 (.t 4) (.t 10)⟩, ⟨(some 5), none, .mov (.c (.int .i64 1))⟩])
 .ret) (.seq (.ops [⟨(some 12), none, .mov (.t 1)⟩, ⟨(some 13), none, .bin .lss (.t 12) (.c (.int .i64 0))⟩, ⟨(some 14), none, .mov (.t 13)⟩, ⟨(some 15), (some (14, false)), .mov (.t 1)⟩, ⟨(some 16), (some (14, false)), .mov (.t 0)⟩, ⟨(some 17), (some (14, false)), .nilck (.t 16)⟩, ⟨(some 18), (some (14, false)), .faddr 1 (.t 17)⟩, ⟨(some 19), (some (14, false)), .load false 1 (.t 18)⟩, ⟨(some 20), (some (14, false)), .bi (.len 1) [(.t 19)]⟩, ⟨(some 21), (some (14, false)), .bin .geq (.t 15) (.t 20)⟩, ⟨(some 22), none, .pick (.t 14) (.c (.bool true)) (.t 21)⟩, ⟨(some 11), none, .mov (.t 22)⟩])
 (.cond (.t 11) (.seq (.ops [⟨(some 23), none, .build [(.int .i64 0), (.int .i64 0), (.int .i64 0), (.int .i64 0), (.int .i64 0), (.int .i64 0), (.bool false), (.int .i64 0), (.int .i64 0), (.bool false), (.int .i64 0), (.int .i64 0), (.int .i64 0), (.int .i64 0), .nils, .nils] []⟩, ⟨none, none, .store 16 (.t 4) (.t 23)⟩, ⟨(some 5), none, .mov (.c (.int .i64 1700))⟩])
 .ret) .skip)))))
 (.seq (.ops [⟨(some 24), none, .mov (.t 0)⟩, ⟨(some 25), none, .nilck (.t 24)⟩, ⟨(some 26), none, .faddr 1 (.t 25)⟩, ⟨(some 27), none, .load false 1 (.t 26)⟩, ⟨(some 28), none, .mov (.t 1)⟩, ⟨(some 29), none, .iaddr 16 none (.t 27) (.t 28)⟩, ⟨(some 30), none, .load true 16 (.t 29)⟩, ⟨(some 6), none, .alloc [(.int .i64 0), (.int .i64 0), (.int .i64 0), (.int .i64 0), (.int .i64 0), (.int .i64 0), (.bool false), (.int .i64 0), (.int .i64 0), (.bool false), (.int .i64 0), (.int .i64 0), (.int .i64 0), (.int .i64 0), .nils, .nils] 63⟩, ⟨none, none, .store 16 (.t 6) (.t 30)⟩])
 (.seq (.ops [⟨(some 31), none, .mov (.t 0)⟩, ⟨(some 32), none, .mov (.t 0)⟩, ⟨(some 33), none, .nilck (.t 32)⟩, ⟨(some 34), none, .faddr 1 (.t 33)⟩, ⟨(some 35), none, .load false 1 (.t 34)⟩, ⟨(some 36), none, .mov (.t 1)⟩, ⟨(some 37), none, .mov (.t 1)⟩, ⟨(some 38), none, .bin .add (.t 37) (.c (.int .i64 1))⟩, ⟨(some 39), none, .call 83 [(.t 35), (.t 36), (.t 38)]⟩, ⟨(some 40), none, .nilck (.t 31)⟩, ⟨(some 41), none, .faddr 1 (.t 40)⟩, ⟨none, none, .store 1 (.t 41) (.t 39)⟩])
 (.seq (.ops [⟨(some 42), none, .load true 16 (.t 6)⟩, ⟨none, none, .store 16 (.t 4) (.t 42)⟩, ⟨(some 5), none, .mov (.c (.int .i64 0))⟩])
 .ret)))))⟩
/-- (*furlong/queue.Queue).Copy -/
def v39 : VFun := ⟨2, [(.tmp 4)], (.seq (.ops [⟨(some 4), none, .mov (.c (.int .i64 0))⟩])
 (.seq (.block 0 (.seq (.ops [⟨(some 6), none, .mov (.t 0)⟩, ⟨(some 7), none, .eqs .ptr false (.t 6) (.c .nilp)⟩, ⟨(some 5), none, .mov (.t 7)⟩])
 (.cond (.t 5) (.seq (.ops [⟨(some 4), none, .mov (.c (.int .i64 1))⟩])
 .ret) (.seq (.ops [⟨(some 9), none, .mov (.t 1)⟩, ⟨(some 10), none, .bin .lss (.t 9) (.c (.int .i64 0))⟩, ⟨(some 11), none, .mov (.t 10)⟩, ⟨(some 12), (some (11, false)), .mov (.t 1)⟩, ⟨(some 13), (some (11, false)), .mov (.t 0)⟩, ⟨(some 14), (some (11, false)), .nilck (.t 13)⟩, ⟨(some 15), (some (11, false)), .faddr 1 (.t 14)⟩, ⟨(some 16), (some (11, false)), .load false 1 (.t 15)⟩, ⟨(some 17), (some (11, false)), .bi (.len 1) [(.t 16)]⟩, ⟨(some 18), (some (11, false)), .bin .geq (.t 12) (.t 17)⟩, ⟨(some 19), none, .pick (.t 11) (.c (.bool true)) (.t 18)⟩, ⟨(some 8), none, .mov (.t 19)⟩])
 (.cond (.t 8) (.seq (.ops [⟨(some 4), none, .mov (.c (.int .i64 1700))⟩])
 .ret) .skip)))))
 (.seq (.ops [⟨(some 20), none, .mov (.t 0)⟩, ⟨(some 21), none, .mov (.t 0)⟩, ⟨(some 22), none, .nilck (.t 21)⟩, ⟨(some 23), none, .faddr 1 (.t 22)⟩, ⟨(some 24), none, .load false 1 (.t 23)⟩, ⟨(some 25), none, .mov (.t 1)⟩, ⟨(some 26), none, .iaddr 16 none (.t 24) (.t 25)⟩, ⟨(some 27), none, .load true 16 (.t 26)⟩, ⟨(some 28), none, .call 35 [(.t 20), (.t 27)]⟩, ⟨(some 4), none, .mov (.t 28)⟩])
 .ret)))⟩
def b41_0 : VCode := (.seq (.ops [⟨(some 14), none, .bin .lss (.t 13) (.t 12)⟩])
 (.seq (.cond (.t 14) .skip (.exit 0))
 (.seq (.block 1 (.seq (.ops [⟨(some 15), none, .iaddr 16 none (.t 11) (.t 13)⟩, ⟨(some 16), none, .load true 16 (.t 15)⟩, ⟨(some 5), none, .alloc [(.int .i64 0), (.int .i64 0), (.int .i64 0), (.int .i64 0), (.int .i64 0), (.int .i64 0), (.bool false), (.int .i64 0), (.int .i64 0), (.bool false), (.int .i64 0), (.int .i64 0), (.int .i64 0), (.int .i64 0), .nils, .nils] 63⟩, ⟨none, none, .store 16 (.t 5) (.t 16)⟩])
 (.ops [⟨(some 17), none, .mov (.t 3)⟩, ⟨(some 18), none, .load true 16 (.t 5)⟩, ⟨(some 19), none, .call 82 [(.t 18)]⟩, ⟨(some 20), none, .bslice [(.int .i64 0), (.int .i64 0), (.int .i64 0), (.int .i64 0), (.int .i64 0), (.int .i64 0), (.bool false), (.int .i64 0), (.int .i64 0), (.bool false), (.int .i64 0), (.int .i64 0), (.int .i64 0), (.int .i64 0), .nils, .nils] 63 1 [(0, 16, (.t 19))]⟩, ⟨(some 21), none, .bi (.append 16 160 63) [(.t 17), (.t 20)]⟩, ⟨(some 3), none, .mov (.t 21)⟩])))
 (.ops [⟨(some 22), none, .bin .add (.t 13) (.c (.int .i64 1))⟩, ⟨(some 13), none, .mov (.t 22)⟩]))))
/-- (*furlong/queue.Queue).All -/
def v41 : VFun := ⟨1, [(.tmp 2)], (.seq (.ops [⟨(some 2), none, .mov (.c .nils)⟩])
 (.seq (.seq (.ops [⟨(some 6), none, .mov (.t 0)⟩, ⟨(some 7), none, .eqs .ptr false (.t 6) (.c .nilp)⟩])
 (.cond (.t 7) (.seq (.ops [⟨(some 2), none, .mov (.c .nils)⟩])
 .ret) .skip))
 (.seq (.ops [⟨(some 3), none, .mov (.c .nils)⟩])
 (.seq (.seq (.ops [⟨(some 8), none, .mov (.t 0)⟩, ⟨(some 9), none, .nilck (.t 8)⟩, ⟨(some 10), none, .faddr 1 (.t 9)⟩, ⟨(some 11), none, .load false 1 (.t 10)⟩, ⟨(some 12), none, .bi (.len 1) [(.t 11)]⟩, ⟨(some 13), none, .mov (.c (.int .i64 0))⟩])
 (.block 0 (.loop b41_0)))
 (.seq (.ops [⟨(some 23), none, .mov (.t 3)⟩, ⟨(some 2), none, .mov (.t 23)⟩])
 .ret)))))⟩
def b42_0 : VCode := (.seq (.seq (.ops [⟨(some 11), none, .mov (.t 5)⟩, ⟨(some 12), none, .mov (.t 0)⟩, ⟨(some 13), none, .bi (.len 1) [(.t 12)]⟩, ⟨(some 14), none, .bin .lss (.t 11) (.t 13)⟩])
 (.cond (.t 14) .skip (.exit 0)))
 (.seq (.block 1 (.seq (.drawn [⟨(some 17), none, .mov (.t 0)⟩, ⟨(some 18), none, .mov (.t 5)⟩, ⟨(some 19), none, .iaddr 16 none (.t 17) (.t 18)⟩, ⟨(some 20), none, .load true 16 (.t 19)⟩, ⟨(some 21), none, .mov (.t 1)⟩, ⟨(some 22), none, .mov (.t 5)⟩, ⟨(some 23), none, .iaddr 16 none (.t 21) (.t 22)⟩, ⟨(some 24), none, .load true 16 (.t 23)⟩, ⟨(some 25), none, .call 29 [(.t 20), (.t 24)]⟩, ⟨(some 26), none, .un .not (.t 25)⟩] [])
 (.cond (.t 26) (.seq (.ops [⟨(some 4), none, .mov (.c (.bool false))⟩])
 .ret) .skip)))
 (.ops [⟨(some 15), none, .mov (.t 5)⟩, ⟨(some 16), none, .bin .add (.t 15) (.c (.int .i64 1))⟩, ⟨(some 5), none, .mov (.t 16)⟩])))
/-- furlong/furlonglaw0.SameMsgs -/
def v42 : VFun := ⟨2, [(.tmp 4)], (.seq (.ops [⟨(some 4), none, .mov (.c (.bool false))⟩])
 (.seq (.seq (.ops [⟨(some 6), none, .mov (.t 0)⟩, ⟨(some 7), none, .bi (.len 1) [(.t 6)]⟩, ⟨(some 8), none, .mov (.t 1)⟩, ⟨(some 9), none, .bi (.len 1) [(.t 8)]⟩, ⟨(some 10), none, .bin .neq (.t 7) (.t 9)⟩])
 (.cond (.t 10) (.seq (.ops [⟨(some 4), none, .mov (.c (.bool false))⟩])
 .ret) .skip))
 (.seq (.seq (.ops [⟨(some 5), none, .mov (.c (.int .i64 0))⟩])
 (.block 0 (.loop b42_0)))
 (.seq (.ops [⟨(some 4), none, .mov (.c (.bool true))⟩])
 .ret))))⟩
/-- furlong/furlonglaw17.ask -/
def v43 : VFun := ⟨1, [(.cell 2 true 16)], (.seq (.ops [⟨(some 2), none, .alloc [(.int .i64 0), (.int .i64 0), (.int .i64 0), (.int .i64 0), (.int .i64 0), (.int .i64 0), (.bool false), (.int .i64 0), (.int .i64 0), (.bool false), (.int .i64 0), (.int .i64 0), (.int .i64 0), (.int .i64 0), .nils, .nils] 63⟩])
 (.seq (.ops [⟨(some 3), none, .mov (.t 0)⟩, ⟨(some 4), none, .build [(.int .i64 0), (.int .i64 0)] [(1, 1, (.t 3))]⟩, ⟨(some 5), none, .build [(.int .i64 0), (.int .i64 0), (.int .i64 0), (.int .i64 0), (.int .i64 0), (.int .i64 0), (.bool false), (.int .i64 0), (.int .i64 0), (.bool false), (.int .i64 0), (.int .i64 0), (.int .i64 0), (.int .i64 0), .nils, .nils] [(0, 1, (.c (.int .i64 4))), (3, 2, (.t 4)), (2, 1, (.c (.int .i64 1)))]⟩, ⟨none, none, .store 16 (.t 2) (.t 5)⟩])
 .ret))⟩
/-- (*furlong/rec.Writer).Num -/
def v46 : VFun := ⟨3, [], (.drawn [⟨(some 6), none, .mov (.t 0)⟩, ⟨(some 7), none, .mov (.t 0)⟩, ⟨(some 8), none, .nilck (.t 7)⟩, ⟨(some 9), none, .faddr 0 (.t 8)⟩, ⟨(some 10), none, .load false 1 (.t 9)⟩, ⟨(some 11), none, .mov (.t 1)⟩, ⟨(some 12), none, .mov (.t 2)⟩, ⟨(some 13), none, .call 89 [(.t 11), (.t 12)]⟩, ⟨(some 14), none, .bi (.append 1 1 5) [(.t 10), (.t 13)]⟩, ⟨(some 15), none, .nilck (.t 6)⟩, ⟨(some 16), none, .faddr 0 (.t 15)⟩, ⟨none, none, .store 1 (.t 16) (.t 14)⟩] [(4, [8])])⟩
def b47_0 : VCode := (.seq (.ops [⟨(some 27), none, .bin .lss (.t 26) (.t 25)⟩])
 (.seq (.cond (.t 27) .skip (.exit 0))
 (.seq (.block 1 (.seq (.ops [⟨(some 28), none, .iaddr 1 none (.t 24) (.t 26)⟩, ⟨(some 29), none, .load false 1 (.t 28)⟩, ⟨(some 5), none, .mov (.t 29)⟩])
 (.ops [⟨(some 30), none, .mov (.t 0)⟩, ⟨(some 31), none, .mov (.t 5)⟩, ⟨(some 32), none, .call 46 [(.t 30), (.t 31), (.c (.int .i64 4))]⟩])))
 (.ops [⟨(some 33), none, .bin .add (.t 26) (.c (.int .i64 1))⟩, ⟨(some 26), none, .mov (.t 33)⟩]))))
def b47_1 : VCode := (.seq (.ops [⟨(some 40), none, .bin .lss (.t 39) (.t 38)⟩])
 (.seq (.cond (.t 40) .skip (.exit 2))
 (.seq (.block 3 (.seq (.ops [⟨(some 41), none, .iaddr 1 none (.t 37) (.t 39)⟩, ⟨(some 42), none, .load false 1 (.t 41)⟩, ⟨(some 7), none, .mov (.t 42)⟩])
 (.ops [⟨(some 43), none, .mov (.t 0)⟩, ⟨(some 44), none, .mov (.t 7)⟩, ⟨(some 45), none, .call 46 [(.t 43), (.t 44), (.c (.int .i64 1))]⟩])))
 (.ops [⟨(some 46), none, .bin .add (.t 39) (.c (.int .i64 1))⟩, ⟨(some 39), none, .mov (.t 46)⟩]))))
/-- (*furlong/rec.Writer).Map -/
def v47 : VFun := ⟨2, [], (.seq (.ops [⟨(some 8), none, .mov (.t 0)⟩, ⟨(some 9), none, .mov (.t 1)⟩, ⟨(some 10), none, .nilck (.t 9)⟩, ⟨(some 11), none, .faddr 0 (.t 10)⟩, ⟨(some 12), none, .load false 1 (.t 11)⟩, ⟨(some 13), none, .call 46 [(.t 8), (.t 12), (.c (.int .i64 2))]⟩])
 (.seq (.ops [⟨(some 14), none, .mov (.t 0)⟩, ⟨(some 15), none, .mov (.t 1)⟩, ⟨(some 16), none, .nilck (.t 15)⟩, ⟨(some 17), none, .faddr 1 (.t 16)⟩, ⟨(some 18), none, .load false 1 (.t 17)⟩, ⟨(some 19), none, .bi (.len 1) [(.t 18)]⟩, ⟨(some 20), none, .call 46 [(.t 14), (.t 19), (.c (.int .i64 1))]⟩])
 (.seq (.seq (.ops [⟨(some 21), none, .mov (.t 1)⟩, ⟨(some 22), none, .nilck (.t 21)⟩, ⟨(some 23), none, .faddr 1 (.t 22)⟩, ⟨(some 24), none, .load false 1 (.t 23)⟩, ⟨(some 25), none, .bi (.len 1) [(.t 24)]⟩, ⟨(some 26), none, .mov (.c (.int .i64 0))⟩])
 (.block 0 (.loop b47_0)))
 (.seq (.ops [⟨(some 34), none, .mov (.t 1)⟩, ⟨(some 35), none, .nilck (.t 34)⟩, ⟨(some 36), none, .faddr 2 (.t 35)⟩, ⟨(some 37), none, .load false 1 (.t 36)⟩, ⟨(some 38), none, .bi (.len 1) [(.t 37)]⟩, ⟨(some 39), none, .mov (.c (.int .i64 0))⟩])
 (.block 2 (.loop b47_1))))))⟩
/-- (*furlong/rec.Writer).Name -/
def v48 : VFun := ⟨2, [], (.seq (.ops [⟨(some 3), none, .box 23 (.t 1)⟩])
 (.seq (.ops [⟨(some 4), none, .mov (.t 0)⟩, ⟨(some 5), none, .faddr 0 (.t 3)⟩, ⟨(some 6), none, .load false 1 (.t 5)⟩, ⟨(some 7), none, .call 46 [(.t 4), (.t 6), (.c (.int .i64 1))]⟩])
 (.ops [⟨(some 8), none, .mov (.t 0)⟩, ⟨(some 9), none, .faddr 1 (.t 3)⟩, ⟨(some 10), none, .load false 1 (.t 9)⟩, ⟨(some 11), none, .call 46 [(.t 8), (.t 10), (.c (.int .i64 2))]⟩])))⟩
def b49_0 : VCode := (.seq (.ops [⟨(some 19), none, .bin .lss (.t 18) (.t 17)⟩])
 (.seq (.cond (.t 19) .skip (.exit 0))
 (.seq (.block 1 (.seq (.ops [⟨(some 20), none, .mov (.t 18)⟩, ⟨(some 6), none, .mov (.t 20)⟩])
 (.seq (.ops [⟨(some 21), none, .mov (.t 2)⟩, ⟨(some 22), none, .mov (.t 6)⟩, ⟨(some 23), none, .iaddr 8 none (.t 21) (.t 22)⟩, ⟨(some 7), none, .mov (.t 23)⟩])
 (.seq (.ops [⟨(some 24), none, .mov (.t 0)⟩, ⟨(some 25), none, .mov (.t 7)⟩, ⟨(some 26), none, .nilck (.t 25)⟩, ⟨(some 27), none, .faddr 0 (.t 26)⟩, ⟨(some 28), none, .load false 1 (.t 27)⟩, ⟨(some 29), none, .call 46 [(.t 24), (.t 28), (.c (.int .i64 1))]⟩])
 (.seq (.ops [⟨(some 30), none, .mov (.t 7)⟩, ⟨(some 31), none, .nilck (.t 30)⟩, ⟨(some 32), none, .faddr 0 (.t 31)⟩, ⟨(some 33), none, .load false 1 (.t 32)⟩])
 (.block 2 (.seq (.ops [⟨(some 40), none, .bin .eql (.t 33) (.c (.int .i64 0))⟩, ⟨(some 39), none, .mov (.t 40)⟩])
 (.cond (.t 39) (.ops [⟨(some 41), none, .mov (.t 0)⟩, ⟨(some 42), none, .mov (.t 7)⟩, ⟨(some 43), none, .nilck (.t 42)⟩, ⟨(some 44), none, .faddr 1 (.t 43)⟩, ⟨(some 45), none, .call 73 [(.t 41), (.t 44)]⟩]) (.seq (.ops [⟨(some 47), none, .bin .eql (.t 33) (.c (.int .i64 1))⟩, ⟨(some 46), none, .mov (.t 47)⟩])
 (.cond (.t 46) (.ops [⟨(some 48), none, .mov (.t 0)⟩, ⟨(some 49), none, .mov (.t 7)⟩, ⟨(some 50), none, .nilck (.t 49)⟩, ⟨(some 51), none, .faddr 4 (.t 50)⟩, ⟨(some 52), none, .load false 1 (.t 51)⟩, ⟨(some 53), none, .call 46 [(.t 48), (.t 52), (.c (.int .i64 2))]⟩]) (.ops [⟨(some 34), none, .mov (.t 0)⟩, ⟨(some 35), none, .mov (.t 7)⟩, ⟨(some 36), none, .nilck (.t 35)⟩, ⟨(some 37), none, .faddr 5 (.t 36)⟩, ⟨(some 38), none, .call 47 [(.t 34), (.t 37)]⟩])))))))))))
 (.ops [⟨(some 54), none, .bin .add (.t 18) (.c (.int .i64 1))⟩, ⟨(some 18), none, .mov (.t 54)⟩]))))
/-- (*furlong/rec.Writer).Ops -/
def v49 : VFun := ⟨3, [], (.seq (.ops [⟨(some 8), none, .mov (.t 0)⟩, ⟨(some 9), none, .mov (.t 1)⟩, ⟨(some 10), none, .bin .add (.t 9) (.c (.int .i64 1))⟩, ⟨(some 11), none, .call 46 [(.t 8), (.t 10), (.c (.int .i64 4))]⟩])
 (.seq (.ops [⟨(some 12), none, .mov (.t 0)⟩, ⟨(some 13), none, .mov (.t 2)⟩, ⟨(some 14), none, .bi (.len 1) [(.t 13)]⟩, ⟨(some 15), none, .call 46 [(.t 12), (.t 14), (.c (.int .i64 1))]⟩])
 (.seq (.ops [⟨(some 16), none, .mov (.t 2)⟩, ⟨(some 17), none, .bi (.len 1) [(.t 16)]⟩, ⟨(some 18), none, .mov (.c (.int .i64 0))⟩])
 (.block 0 (.loop b49_0)))))⟩
/-- (*furlong/rec.Writer).Bool -/
def v50 : VFun := ⟨2, [], (.seq (.ops [⟨(some 4), none, .mov (.t 1)⟩])
 (.cond (.t 4) (.ops [⟨(some 5), none, .mov (.t 0)⟩, ⟨(some 6), none, .call 46 [(.t 5), (.c (.int .i64 1)), (.c (.int .i64 1))]⟩]) (.ops [⟨(some 7), none, .mov (.t 0)⟩, ⟨(some 8), none, .call 46 [(.t 7), (.c (.int .i64 0)), (.c (.int .i64 1))]⟩])))⟩
/-- furlong/furlonglaw0.SameMap -/
def v67 : VFun := ⟨2, [(.tmp 4)], (.seq (.ops [⟨(some 2), none, .box 26 (.t 0)⟩, ⟨(some 3), none, .box 26 (.t 1)⟩, ⟨(some 4), none, .mov (.c (.bool false))⟩])
 (.seq (.ops [⟨(some 5), none, .faddr 0 (.t 2)⟩, ⟨(some 6), none, .load false 1 (.t 5)⟩, ⟨(some 7), none, .faddr 0 (.t 3)⟩, ⟨(some 8), none, .load false 1 (.t 7)⟩, ⟨(some 9), none, .bin .eql (.t 6) (.t 8)⟩, ⟨(some 10), none, .mov (.t 9)⟩, ⟨(some 11), (some (10, true)), .faddr 1 (.t 2)⟩, ⟨(some 12), (some (10, true)), .load false 1 (.t 11)⟩, ⟨(some 13), (some (10, true)), .faddr 1 (.t 3)⟩, ⟨(some 14), (some (10, true)), .load false 1 (.t 13)⟩, ⟨(some 15), (some (10, true)), .call 96 [(.t 12), (.t 14)]⟩, ⟨(some 16), none, .pick (.t 10) (.t 15) (.c (.bool false))⟩, ⟨(some 17), none, .mov (.t 16)⟩, ⟨(some 18), (some (17, true)), .faddr 2 (.t 2)⟩, ⟨(some 19), (some (17, true)), .load false 1 (.t 18)⟩, ⟨(some 20), (some (17, true)), .faddr 2 (.t 3)⟩, ⟨(some 21), (some (17, true)), .load false 1 (.t 20)⟩, ⟨(some 22), (some (17, true)), .call 96 [(.t 19), (.t 21)]⟩, ⟨(some 23), none, .pick (.t 17) (.t 22) (.c (.bool false))⟩, ⟨(some 4), none, .mov (.t 23)⟩])
 .ret))⟩
def b68_0 : VCode := (.seq (.seq (.ops [⟨(some 11), none, .mov (.t 5)⟩, ⟨(some 12), none, .mov (.t 0)⟩, ⟨(some 13), none, .bi (.len 1) [(.t 12)]⟩, ⟨(some 14), none, .bin .lss (.t 11) (.t 13)⟩])
 (.cond (.t 14) .skip (.exit 0)))
 (.seq (.block 1 (.seq (.drawn [⟨(some 17), none, .mov (.t 0)⟩, ⟨(some 18), none, .mov (.t 5)⟩, ⟨(some 19), none, .iaddr 8 none (.t 17) (.t 18)⟩, ⟨(some 20), none, .faddr 0 (.t 19)⟩, ⟨(some 21), none, .load false 1 (.t 20)⟩, ⟨(some 22), none, .mov (.t 1)⟩, ⟨(some 23), none, .mov (.t 5)⟩, ⟨(some 24), none, .iaddr 8 none (.t 22) (.t 23)⟩, ⟨(some 25), none, .faddr 0 (.t 24)⟩, ⟨(some 26), none, .load false 1 (.t 25)⟩, ⟨(some 27), none, .bin .neq (.t 21) (.t 26)⟩, ⟨(some 28), none, .mov (.t 27)⟩, ⟨(some 29), (some (28, false)), .mov (.t 0)⟩, ⟨(some 30), (some (28, false)), .mov (.t 5)⟩, ⟨(some 31), (some (28, false)), .iaddr 8 none (.t 29) (.t 30)⟩, ⟨(some 32), (some (28, false)), .faddr 4 (.t 31)⟩, ⟨(some 33), (some (28, false)), .load false 1 (.t 32)⟩, ⟨(some 34), (some (28, false)), .mov (.t 1)⟩, ⟨(some 35), (some (28, false)), .mov (.t 5)⟩, ⟨(some 36), (some (28, false)), .iaddr 8 none (.t 34) (.t 35)⟩, ⟨(some 37), (some (28, false)), .faddr 4 (.t 36)⟩, ⟨(some 38), (some (28, false)), .load false 1 (.t 37)⟩, ⟨(some 39), (some (28, false)), .bin .neq (.t 33) (.t 38)⟩, ⟨(some 40), none, .pick (.t 28) (.c (.bool true)) (.t 39)⟩, ⟨(some 41), none, .mov (.t 40)⟩, ⟨(some 42), (some (41, false)), .mov (.t 0)⟩, ⟨(some 43), (some (41, false)), .mov (.t 5)⟩, ⟨(some 44), (some (41, false)), .iaddr 8 none (.t 42) (.t 43)⟩, ⟨(some 45), (some (41, false)), .faddr 1 (.t 44)⟩, ⟨(some 46), (some (41, false)), .load true 3 (.t 45)⟩, ⟨(some 47), (some (41, false)), .mov (.t 1)⟩, ⟨(some 48), (some (41, false)), .mov (.t 5)⟩, ⟨(some 49), (some (41, false)), .iaddr 8 none (.t 47) (.t 48)⟩, ⟨(some 50), (some (41, false)), .faddr 1 (.t 49)⟩, ⟨(some 51), (some (41, false)), .load true 3 (.t 50)⟩, ⟨(some 52), (some (41, false)), .call 97 [(.t 46), (.t 51)]⟩, ⟨(some 53), (some (41, false)), .un .not (.t 52)⟩, ⟨(some 54), none, .pick (.t 41) (.c (.bool true)) (.t 53)⟩, ⟨(some 55), none, .mov (.t 54)⟩, ⟨(some 56), (some (55, false)), .mov (.t 0)⟩, ⟨(some 57), (some (55, false)), .mov (.t 5)⟩, ⟨(some 58), (some (55, false)), .iaddr 8 none (.t 56) (.t 57)⟩, ⟨(some 59), (some (55, false)), .faddr 5 (.t 58)⟩, ⟨(some 60), (some (55, false)), .load true 3 (.t 59)⟩, ⟨(some 61), (some (55, false)), .mov (.t 1)⟩, ⟨(some 62), (some (55, false)), .mov (.t 5)⟩, ⟨(some 63), (some (55, false)), .iaddr 8 none (.t 61) (.t 62)⟩, ⟨(some 64), (some (55, false)), .faddr 5 (.t 63)⟩, ⟨(some 65), (some (55, false)), .load true 3 (.t 64)⟩, ⟨(some 66), (some (55, false)), .call 67 [(.t 60), (.t 65)]⟩, ⟨(some 67), (some (55, false)), .un .not (.t 66)⟩, ⟨(some 68), none, .pick (.t 55) (.c (.bool true)) (.t 67)⟩] [])
 (.cond (.t 68) (.seq (.ops [⟨(some 4), none, .mov (.c (.bool false))⟩])
 .ret) .skip)))
 (.ops [⟨(some 15), none, .mov (.t 5)⟩, ⟨(some 16), none, .bin .add (.t 15) (.c (.int .i64 1))⟩, ⟨(some 5), none, .mov (.t 16)⟩])))
/-- furlong/furlonglaw0.SameOps -/
def v68 : VFun := ⟨2, [(.tmp 4)], (.seq (.ops [⟨(some 4), none, .mov (.c (.bool false))⟩])
 (.seq (.seq (.ops [⟨(some 6), none, .mov (.t 0)⟩, ⟨(some 7), none, .bi (.len 1) [(.t 6)]⟩, ⟨(some 8), none, .mov (.t 1)⟩, ⟨(some 9), none, .bi (.len 1) [(.t 8)]⟩, ⟨(some 10), none, .bin .neq (.t 7) (.t 9)⟩])
 (.cond (.t 10) (.seq (.ops [⟨(some 4), none, .mov (.c (.bool false))⟩])
 .ret) .skip))
 (.seq (.seq (.ops [⟨(some 5), none, .mov (.c (.int .i64 0))⟩])
 (.block 0 (.loop b68_0)))
 (.seq (.ops [⟨(some 4), none, .mov (.c (.bool true))⟩])
 .ret))))⟩
/-- furlong/msg.may -/
def v71 : VFun := ⟨1, [(.cell 2 true 5), (.tmp 3)], (.seq (.ops [⟨(some 2), none, .alloc [(.bool false), (.bool false), (.bool false), (.bool false), (.bool false)] 132⟩, ⟨(some 3), none, .mov (.c (.bool false))⟩])
 (.seq (.ops [⟨(some 8), none, .mov (.t 0)⟩, ⟨(some 9), none, .nilck (.t 8)⟩, ⟨(some 10), none, .faddr 0 (.t 9)⟩, ⟨(some 11), none, .load false 1 (.t 10)⟩, ⟨(some 12), none, .call 77 [(.t 11)]⟩, ⟨(some 7), none, .mov (.t 12)⟩, ⟨(some 13), none, .extract (.t 7) 0⟩, ⟨(some 14), none, .extract (.t 7) 1⟩, ⟨(some 4), none, .alloc [(.bool false), (.bool false), (.bool false), (.bool false), (.bool false)] 132⟩, ⟨none, none, .store 5 (.t 4) (.t 13)⟩, ⟨(some 5), none, .mov (.t 14)⟩])
 (.seq (.ops [⟨(some 15), none, .mov (.t 0)⟩, ⟨(some 16), none, .nilck (.t 15)⟩, ⟨(some 17), none, .faddr 3 (.t 16)⟩, ⟨(some 18), none, .load true 2 (.t 17)⟩, ⟨(some 19), none, .call 84 [(.t 18)]⟩, ⟨(some 6), none, .mov (.t 19)⟩])
 (.seq (.seq (.ops [⟨(some 20), none, .faddr 0 (.t 4)⟩, ⟨(some 21), none, .load false 1 (.t 20)⟩, ⟨(some 22), none, .un .not (.t 21)⟩])
 (.cond (.t 22) (.ops [⟨(some 23), none, .mov (.t 0)⟩, ⟨(some 24), none, .nilck (.t 23)⟩, ⟨(some 25), none, .faddr 3 (.t 24)⟩, ⟨(some 26), none, .load true 2 (.t 25)⟩, ⟨(some 27), none, .build [(.int .i64 0), (.int .i64 0)] []⟩, ⟨(some 28), none, .eqs (.flat [.int, .int]) false (.t 26) (.t 27)⟩, ⟨(some 6), none, .mov (.t 28)⟩]) .skip))
 (.seq (.drawn [⟨(some 29), none, .load true 5 (.t 4)⟩, ⟨(some 30), none, .mov (.t 5)⟩, ⟨(some 31), none, .mov (.t 30)⟩, ⟨(some 32), (some (31, true)), .mov (.t 0)⟩, ⟨(some 33), (some (31, true)), .nilck (.t 32)⟩, ⟨(some 34), (some (31, true)), .faddr 1 (.t 33)⟩, ⟨(some 35), (some (31, true)), .load false 1 (.t 34)⟩, ⟨(some 36), (some (31, true)), .call 98 [(.t 35)]⟩, ⟨(some 37), none, .pick (.t 31) (.t 36) (.c (.bool false))⟩, ⟨(some 38), none, .mov (.t 37)⟩, ⟨(some 39), (some (38, true)), .mov (.t 0)⟩, ⟨(some 40), (some (38, true)), .nilck (.t 39)⟩, ⟨(some 41), (some (38, true)), .faddr 2 (.t 40)⟩, ⟨(some 42), (some (38, true)), .load false 1 (.t 41)⟩, ⟨(some 43), (some (38, true)), .call 98 [(.t 42)]⟩, ⟨(some 44), none, .pick (.t 38) (.t 43) (.c (.bool false))⟩, ⟨(some 45), none, .mov (.t 44)⟩, ⟨(some 46), (some (45, true)), .mov (.t 6)⟩, ⟨(some 47), none, .pick (.t 45) (.t 46) (.c (.bool false))⟩, ⟨(some 48), none, .mov (.t 47)⟩, ⟨(some 49), (some (48, true)), .faddr 2 (.t 4)⟩, ⟨(some 50), (some (48, true)), .load false 1 (.t 49)⟩, ⟨(some 51), (some (48, true)), .mov (.t 50)⟩, ⟨(some 52), (some (51, false)), .mov (.t 0)⟩, ⟨(some 53), (some (51, false)), .nilck (.t 52)⟩, ⟨(some 54), (some (51, false)), .faddr 6 (.t 53)⟩, ⟨(some 55), (some (51, false)), .load false 1 (.t 54)⟩, ⟨(some 56), (some (51, false)), .un .not (.t 55)⟩, ⟨(some 57), (some (48, true)), .pick (.t 51) (.c (.bool true)) (.t 56)⟩, ⟨(some 58), none, .pick (.t 48) (.t 57) (.c (.bool false))⟩, ⟨(some 59), none, .mov (.t 58)⟩, ⟨(some 60), (some (59, true)), .load true 5 (.t 4)⟩, ⟨(some 61), (some (59, true)), .mov (.t 0)⟩, ⟨(some 62), (some (59, true)), .call 99 [(.t 60), (.t 61)]⟩, ⟨(some 63), none, .pick (.t 59) (.t 62) (.c (.bool false))⟩, ⟨(some 64), none, .mov (.t 63)⟩, ⟨(some 65), (some (64, true)), .load true 5 (.t 4)⟩, ⟨(some 66), (some (64, true)), .mov (.t 0)⟩, ⟨(some 67), (some (64, true)), .call 100 [(.t 65), (.t 66)]⟩, ⟨(some 68), none, .pick (.t 64) (.t 67) (.c (.bool false))⟩, ⟨(some 69), none, .mov (.t 68)⟩, ⟨(some 70), (some (69, true)), .load true 5 (.t 4)⟩, ⟨(some 71), (some (69, true)), .mov (.t 0)⟩, ⟨(some 72), (some (69, true)), .call 101 [(.t 70), (.t 71)]⟩, ⟨(some 73), none, .pick (.t 69) (.t 72) (.c (.bool false))⟩, ⟨none, none, .store 5 (.t 2) (.t 29)⟩, ⟨(some 3), none, .mov (.t 73)⟩] [(0, [8, 15, 34, 39, 44])])
 .ret)))))⟩
def b72_0 : VCode := (.seq (.ops [⟨(some 16), none, .bin .lss (.t 15) (.c (.int .i64 4))⟩])
 (.seq (.cond (.t 16) .skip (.exit 0))
 (.seq (.block 1 (.seq (.ops [⟨(some 17), none, .index false 1 4 (.t 14) (.t 15)⟩, ⟨(some 5), none, .mov (.t 17)⟩])
 (.ops [⟨(some 18), none, .mov (.t 0)⟩, ⟨(some 19), none, .mov (.t 5)⟩, ⟨(some 20), none, .call 46 [(.t 18), (.t 19), (.c (.int .i64 4))]⟩])))
 (.ops [⟨(some 21), none, .bin .add (.t 15) (.c (.int .i64 1))⟩, ⟨(some 15), none, .mov (.t 21)⟩]))))
/-- furlong/msg.box -/
def v72 : VFun := ⟨2, [], (.seq (.ops [⟨(some 3), none, .box 60 (.t 1)⟩])
 (.seq (.ops [⟨(some 6), none, .faddr 0 (.t 3)⟩, ⟨(some 7), none, .load false 1 (.t 6)⟩, ⟨(some 8), none, .faddr 1 (.t 3)⟩, ⟨(some 9), none, .load false 1 (.t 8)⟩, ⟨(some 10), none, .faddr 2 (.t 3)⟩, ⟨(some 11), none, .load false 1 (.t 10)⟩, ⟨(some 12), none, .faddr 3 (.t 3)⟩, ⟨(some 13), none, .load false 1 (.t 12)⟩, ⟨(some 14), none, .build [(.int .i64 0), (.int .i64 0), (.int .i64 0), (.int .i64 0)] [(0, 1, (.t 7)), (1, 1, (.t 9)), (2, 1, (.t 11)), (3, 1, (.t 13))]⟩, ⟨(some 15), none, .mov (.c (.int .i64 0))⟩])
 (.block 0 (.loop b72_0))))⟩
def b73_0 : VCode := (.seq (.ops [⟨(some 43), none, .bin .lss (.t 42) (.t 41)⟩])
 (.seq (.cond (.t 43) .skip (.exit 2))
 (.seq (.block 3 (.seq (.ops [⟨(some 44), none, .iaddr 2 none (.t 40) (.t 42)⟩, ⟨(some 45), none, .load true 2 (.t 44)⟩, ⟨(some 7), none, .alloc [(.int .i64 0), (.int .i64 0)] 48⟩, ⟨none, none, .store 2 (.t 7) (.t 45)⟩])
 (.seq (.ops [⟨(some 46), none, .mov (.t 0)⟩, ⟨(some 47), none, .faddr 0 (.t 7)⟩, ⟨(some 48), none, .load false 1 (.t 47)⟩, ⟨(some 49), none, .call 46 [(.t 46), (.t 48), (.c (.int .i64 4))]⟩])
 (.ops [⟨(some 50), none, .mov (.t 0)⟩, ⟨(some 51), none, .faddr 1 (.t 7)⟩, ⟨(some 52), none, .load false 1 (.t 51)⟩, ⟨(some 53), none, .call 46 [(.t 50), (.t 52), (.c (.int .i64 4))]⟩]))))
 (.ops [⟨(some 54), none, .bin .add (.t 42) (.c (.int .i64 1))⟩, ⟨(some 42), none, .mov (.t 54)⟩]))))
def b73_1 : VCode := (.seq (.ops [⟨(some 33), none, .bin .lss (.t 32) (.t 31)⟩])
 (.seq (.cond (.t 33) .skip (.exit 0))
 (.seq (.block 1 (.seq (.ops [⟨(some 34), none, .iaddr 1 none (.t 30) (.t 32)⟩, ⟨(some 35), none, .load false 1 (.t 34)⟩, ⟨(some 5), none, .mov (.t 35)⟩])
 (.seq (.ops [⟨(some 36), none, .mov (.t 0)⟩, ⟨(some 37), none, .mov (.t 5)⟩, ⟨(some 38), none, .bi (.len 1) [(.t 37)]⟩, ⟨(some 39), none, .call 46 [(.t 36), (.t 38), (.c (.int .i64 1))]⟩])
 (.seq (.ops [⟨(some 40), none, .mov (.t 5)⟩, ⟨(some 41), none, .bi (.len 1) [(.t 40)]⟩, ⟨(some 42), none, .mov (.c (.int .i64 0))⟩])
 (.block 2 (.loop b73_0))))))
 (.ops [⟨(some 55), none, .bin .add (.t 32) (.c (.int .i64 1))⟩, ⟨(some 32), none, .mov (.t 55)⟩]))))
/-- (*furlong/rec.Writer).Feature -/
def v73 : VFun := ⟨2, [], (.seq (.ops [⟨(some 8), none, .mov (.t 0)⟩, ⟨(some 9), none, .mov (.t 1)⟩, ⟨(some 10), none, .nilck (.t 9)⟩, ⟨(some 11), none, .faddr 0 (.t 10)⟩, ⟨(some 12), none, .load false 1 (.t 11)⟩, ⟨(some 13), none, .call 46 [(.t 8), (.t 12), (.c (.int .i64 2))]⟩])
 (.seq (.ops [⟨(some 14), none, .mov (.t 0)⟩, ⟨(some 15), none, .mov (.t 1)⟩, ⟨(some 16), none, .nilck (.t 15)⟩, ⟨(some 17), none, .faddr 1 (.t 16)⟩, ⟨(some 18), none, .load false 1 (.t 17)⟩, ⟨(some 19), none, .call 46 [(.t 14), (.t 18), (.c (.int .i64 1))]⟩])
 (.seq (.ops [⟨(some 20), none, .mov (.t 0)⟩, ⟨(some 21), none, .mov (.t 1)⟩, ⟨(some 22), none, .nilck (.t 21)⟩, ⟨(some 23), none, .faddr 2 (.t 22)⟩, ⟨(some 24), none, .load false 1 (.t 23)⟩, ⟨(some 25), none, .bi (.len 1) [(.t 24)]⟩, ⟨(some 26), none, .call 46 [(.t 20), (.t 25), (.c (.int .i64 1))]⟩])
 (.seq (.ops [⟨(some 27), none, .mov (.t 1)⟩, ⟨(some 28), none, .nilck (.t 27)⟩, ⟨(some 29), none, .faddr 2 (.t 28)⟩, ⟨(some 30), none, .load false 1 (.t 29)⟩, ⟨(some 31), none, .bi (.len 1) [(.t 30)]⟩, ⟨(some 32), none, .mov (.c (.int .i64 0))⟩])
 (.block 0 (.loop b73_1))))))⟩
/-- furlong/msg.rowOf -/
def v77 : VFun := ⟨1, [(.cell 2 true 5), (.tmp 3)], (.seq (.ops [⟨(some 2), none, .alloc [(.bool false), (.bool false), (.bool false), (.bool false), (.bool false)] 132⟩, ⟨(some 3), none, .mov (.c (.bool false))⟩])
 (.seq (.seq (.ops [⟨(some 4), none, .mov (.t 0)⟩])
 (.block 0 (.seq (.ops [⟨(some 6), none, .bin .eql (.t 4) (.c (.int .i64 0))⟩, ⟨(some 5), none, .mov (.t 6)⟩])
 (.cond (.t 5) (.seq (.ops [⟨(some 7), none, .build [(.bool false), (.bool false), (.bool false), (.bool false), (.bool false)] [(0, 1, (.c (.bool true))), (1, 1, (.c (.bool true)))]⟩, ⟨none, none, .store 5 (.t 2) (.t 7)⟩, ⟨(some 3), none, .mov (.c (.bool true))⟩])
 .ret) (.seq (.seq (.ops [⟨(some 9), none, .bin .eql (.t 4) (.c (.int .i64 1))⟩, ⟨(some 8), none, .mov (.t 9)⟩])
 (.cond (.t 8) .skip (.ops [⟨(some 10), none, .bin .eql (.t 4) (.c (.int .i64 2))⟩, ⟨(some 8), none, .mov (.t 10)⟩])))
 (.cond (.t 8) (.seq (.ops [⟨(some 11), none, .build [(.bool false), (.bool false), (.bool false), (.bool false), (.bool false)] [(0, 1, (.c (.bool true))), (2, 1, (.c (.bool true)))]⟩, ⟨none, none, .store 5 (.t 2) (.t 11)⟩, ⟨(some 3), none, .mov (.c (.bool true))⟩])
 .ret) (.seq (.seq (.ops [⟨(some 13), none, .bin .eql (.t 4) (.c (.int .i64 3))⟩, ⟨(some 12), none, .mov (.t 13)⟩])
 (.cond (.t 12) .skip (.ops [⟨(some 14), none, .bin .eql (.t 4) (.c (.int .i64 4))⟩, ⟨(some 12), none, .mov (.t 14)⟩])))
 (.cond (.t 12) (.seq (.ops [⟨(some 15), none, .build [(.bool false), (.bool false), (.bool false), (.bool false), (.bool false)] [(0, 1, (.c (.bool true)))]⟩, ⟨none, none, .store 5 (.t 2) (.t 15)⟩, ⟨(some 3), none, .mov (.c (.bool true))⟩])
 .ret) (.seq (.ops [⟨(some 17), none, .bin .eql (.t 4) (.c (.int .i64 5))⟩, ⟨(some 16), none, .mov (.t 17)⟩])
 (.cond (.t 16) (.seq (.ops [⟨(some 18), none, .build [(.bool false), (.bool false), (.bool false), (.bool false), (.bool false)] [(3, 1, (.c (.bool true)))]⟩, ⟨none, none, .store 5 (.t 2) (.t 18)⟩, ⟨(some 3), none, .mov (.c (.bool true))⟩])
 .ret) (.seq (.ops [⟨(some 20), none, .bin .eql (.t 4) (.c (.int .i64 6))⟩, ⟨(some 19), none, .mov (.t 20)⟩])
 (.cond (.t 19) (.seq (.ops [⟨(some 21), none, .build [(.bool false), (.bool false), (.bool false), (.bool false), (.bool false)] [(3, 1, (.c (.bool true))), (4, 1, (.c (.bool true)))]⟩, ⟨none, none, .store 5 (.t 2) (.t 21)⟩, ⟨(some 3), none, .mov (.c (.bool true))⟩])
 .ret) .skip))))))))))))
 (.seq (.ops [⟨(some 22), none, .build [(.bool false), (.bool false), (.bool false), (.bool false), (.bool false)] []⟩, ⟨none, none, .store 5 (.t 2) (.t 22)⟩, ⟨(some 3), none, .mov (.c (.bool false))⟩])
 .ret)))⟩
def b81_0 : VCode := (.seq (.seq (.ops [⟨(some 11), none, .mov (.t 5)⟩, ⟨(some 12), none, .mov (.t 0)⟩, ⟨(some 13), none, .bi (.len 1) [(.t 12)]⟩, ⟨(some 14), none, .bin .lss (.t 11) (.t 13)⟩])
 (.cond (.t 14) .skip (.exit 0)))
 (.seq (.block 1 (.seq (.drawn [⟨(some 17), none, .mov (.t 0)⟩, ⟨(some 18), none, .mov (.t 5)⟩, ⟨(some 19), none, .iaddr 3 none (.t 17) (.t 18)⟩, ⟨(some 20), none, .load true 3 (.t 19)⟩, ⟨(some 21), none, .mov (.t 1)⟩, ⟨(some 22), none, .mov (.t 5)⟩, ⟨(some 23), none, .iaddr 3 none (.t 21) (.t 22)⟩, ⟨(some 24), none, .load true 3 (.t 23)⟩, ⟨(some 25), none, .call 97 [(.t 20), (.t 24)]⟩, ⟨(some 26), none, .un .not (.t 25)⟩] [])
 (.cond (.t 26) (.seq (.ops [⟨(some 4), none, .mov (.c (.bool false))⟩])
 .ret) .skip)))
 (.ops [⟨(some 15), none, .mov (.t 5)⟩, ⟨(some 16), none, .bin .add (.t 15) (.c (.int .i64 1))⟩, ⟨(some 5), none, .mov (.t 16)⟩])))
/-- furlong/furlonglaw0.SameFeatures -/
def v81 : VFun := ⟨2, [(.tmp 4)], (.seq (.ops [⟨(some 4), none, .mov (.c (.bool false))⟩])
 (.seq (.seq (.ops [⟨(some 6), none, .mov (.t 0)⟩, ⟨(some 7), none, .bi (.len 1) [(.t 6)]⟩, ⟨(some 8), none, .mov (.t 1)⟩, ⟨(some 9), none, .bi (.len 1) [(.t 8)]⟩, ⟨(some 10), none, .bin .neq (.t 7) (.t 9)⟩])
 (.cond (.t 10) (.seq (.ops [⟨(some 4), none, .mov (.c (.bool false))⟩])
 .ret) .skip))
 (.seq (.seq (.ops [⟨(some 5), none, .mov (.c (.int .i64 0))⟩])
 (.block 0 (.loop b81_0)))
 (.seq (.ops [⟨(some 4), none, .mov (.c (.bool true))⟩])
 .ret))))⟩
/-- furlong/msg.Copy -/
def v82 : VFun := ⟨1, [(.cell 2 true 16)], (.seq (.ops [⟨(some 1), none, .box 63 (.t 0)⟩, ⟨(some 2), none, .alloc [(.int .i64 0), (.int .i64 0), (.int .i64 0), (.int .i64 0), (.int .i64 0), (.int .i64 0), (.bool false), (.int .i64 0), (.int .i64 0), (.bool false), (.int .i64 0), (.int .i64 0), (.int .i64 0), (.int .i64 0), .nils, .nils] 63⟩])
 (.seq (.drawn [⟨(some 3), none, .faddr 14 (.t 1)⟩, ⟨(some 4), none, .load false 1 (.t 3)⟩, ⟨(some 5), none, .call 105 [(.t 4)]⟩, ⟨(some 6), none, .faddr 15 (.t 1)⟩, ⟨(some 7), none, .load false 1 (.t 6)⟩, ⟨(some 8), none, .call 106 [(.t 7)]⟩, ⟨(some 9), none, .faddr 14 (.t 1)⟩, ⟨none, none, .store 1 (.t 9) (.t 5)⟩, ⟨(some 10), none, .faddr 15 (.t 1)⟩, ⟨none, none, .store 1 (.t 10) (.t 8)⟩] [(4, [0])])
 (.seq (.ops [⟨(some 11), none, .load true 16 (.t 1)⟩, ⟨none, none, .store 16 (.t 2) (.t 11)⟩])
 .ret)))⟩
/-- slices.Delete[[]furlong/api.Msg,furlong/api.Msg] -/
def v83 : VFun := ⟨3, [(.tmp 6)], (.seq (.ops [⟨(some 6), none, .mov (.c .nils)⟩])
 (.seq (.ops [⟨(some 8), none, .mov (.t 0)⟩, ⟨(some 9), none, .mov (.t 1)⟩, ⟨(some 10), none, .mov (.t 2)⟩, ⟨(some 11), none, .mov (.t 0)⟩, ⟨(some 12), none, .bi (.len 1) [(.t 11)]⟩, ⟨(some 13), none, .slice 16 (.t 8) (some (.t 9)) (some (.t 10)) (some (.t 12))⟩])
 (.seq (.seq (.ops [⟨(some 14), none, .mov (.t 1)⟩, ⟨(some 15), none, .mov (.t 2)⟩, ⟨(some 16), none, .bin .eql (.t 14) (.t 15)⟩])
 (.cond (.t 16) (.seq (.ops [⟨(some 17), none, .mov (.t 0)⟩, ⟨(some 6), none, .mov (.t 17)⟩])
 .ret) .skip))
 (.seq (.ops [⟨(some 18), none, .mov (.t 0)⟩, ⟨(some 19), none, .bi (.len 1) [(.t 18)]⟩, ⟨(some 7), none, .mov (.t 19)⟩])
 (.seq (.drawn [⟨(some 20), none, .mov (.t 0)⟩, ⟨(some 21), none, .mov (.t 1)⟩, ⟨(some 22), none, .slice 16 (.t 20) none (some (.t 21)) none⟩, ⟨(some 23), none, .mov (.t 0)⟩, ⟨(some 24), none, .mov (.t 2)⟩, ⟨(some 25), none, .slice 16 (.t 23) (some (.t 24)) none none⟩, ⟨(some 26), none, .bi (.append 16 160 63) [(.t 22), (.t 25)]⟩, ⟨(some 0), none, .mov (.t 26)⟩] [])
 (.seq (.ops [⟨(some 27), none, .mov (.t 0)⟩, ⟨(some 28), none, .mov (.t 0)⟩, ⟨(some 29), none, .bi (.len 1) [(.t 28)]⟩, ⟨(some 30), none, .mov (.t 7)⟩, ⟨(some 31), none, .slice 16 (.t 27) (some (.t 29)) (some (.t 30)) none⟩, ⟨none, none, .bi (.clearS [(.int .i64 0), (.int .i64 0), (.int .i64 0), (.int .i64 0), (.int .i64 0), (.int .i64 0), (.bool false), (.int .i64 0), (.int .i64 0), (.bool false), (.int .i64 0), (.int .i64 0), (.int .i64 0), (.int .i64 0), .nils, .nils]) [(.t 31)]⟩])
 (.seq (.ops [⟨(some 32), none, .mov (.t 0)⟩, ⟨(some 6), none, .mov (.t 32)⟩])
 .ret)))))))⟩
/-- furlong/rec.NameMay -/
def v84 : VFun := ⟨1, [(.tmp 2)], (.seq (.ops [⟨(some 1), none, .box 23 (.t 0)⟩, ⟨(some 2), none, .mov (.c (.bool false))⟩])
 (.seq (.ops [⟨(some 3), none, .faddr 0 (.t 1)⟩, ⟨(some 4), none, .load false 1 (.t 3)⟩, ⟨(some 5), none, .bin .geq (.t 4) (.c (.int .i64 0))⟩, ⟨(some 6), none, .mov (.t 5)⟩, ⟨(some 7), (some (6, true)), .faddr 0 (.t 1)⟩, ⟨(some 8), (some (6, true)), .load false 1 (.t 7)⟩, ⟨(some 9), (some (6, true)), .bin .lss (.t 8) (.c (.int .i64 8))⟩, ⟨(some 10), none, .pick (.t 6) (.t 9) (.c (.bool false))⟩, ⟨(some 11), none, .mov (.t 10)⟩, ⟨(some 12), (some (11, true)), .faddr 1 (.t 1)⟩, ⟨(some 13), (some (11, true)), .load false 1 (.t 12)⟩, ⟨(some 14), (some (11, true)), .bin .geq (.t 13) (.c (.int .i64 1))⟩, ⟨(some 15), none, .pick (.t 11) (.t 14) (.c (.bool false))⟩, ⟨(some 16), none, .mov (.t 15)⟩, ⟨(some 17), (some (16, true)), .faddr 1 (.t 1)⟩, ⟨(some 18), (some (16, true)), .load false 1 (.t 17)⟩, ⟨(some 19), (some (16, true)), .bin .leq (.t 18) (.c (.int .i64 65535))⟩, ⟨(some 20), none, .pick (.t 16) (.t 19) (.c (.bool false))⟩, ⟨(some 2), none, .mov (.t 20)⟩])
 .ret))⟩
def b85_0 : VCode := (.seq (.ops [⟨(some 55), none, .bin .lss (.t 54) (.t 53)⟩])
 (.seq (.cond (.t 55) .skip (.exit 0))
 (.seq (.block 1 (.seq (.ops [⟨(some 56), none, .mov (.t 54)⟩, ⟨(some 57), none, .iaddr 1 none (.t 52) (.t 54)⟩, ⟨(some 58), none, .load false 1 (.t 57)⟩, ⟨(some 5), none, .mov (.t 56)⟩, ⟨(some 6), none, .mov (.t 58)⟩])
 (.seq (.ops [⟨(some 59), none, .mov (.t 6)⟩, ⟨(some 60), none, .bin .geq (.t 59) (.c (.int .i64 4294967296))⟩, ⟨(some 61), none, .mov (.t 60)⟩, ⟨(some 62), (some (61, false)), .mov (.t 5)⟩, ⟨(some 63), (some (61, false)), .bin .gtr (.t 62) (.c (.int .i64 0))⟩, ⟨(some 64), (some (61, false)), .mov (.t 63)⟩, ⟨(some 65), (some (64, true)), .mov (.t 6)⟩, ⟨(some 66), (some (64, true)), .faddr 1 (.t 2)⟩, ⟨(some 67), (some (64, true)), .load false 1 (.t 66)⟩, ⟨(some 68), (some (64, true)), .mov (.t 5)⟩, ⟨(some 69), (some (64, true)), .bin .sub (.t 68) (.c (.int .i64 1))⟩, ⟨(some 70), (some (64, true)), .iaddr 1 none (.t 67) (.t 69)⟩, ⟨(some 71), (some (64, true)), .load false 1 (.t 70)⟩, ⟨(some 72), (some (64, true)), .bin .leq (.t 65) (.t 71)⟩, ⟨(some 73), (some (61, false)), .pick (.t 64) (.t 72) (.c (.bool false))⟩, ⟨(some 74), none, .pick (.t 61) (.c (.bool true)) (.t 73)⟩, ⟨(some 75), none, .mov (.t 74)⟩, ⟨(some 76), (some (75, false)), .faddr 2 (.t 2)⟩, ⟨(some 77), (some (75, false)), .load false 1 (.t 76)⟩, ⟨(some 78), (some (75, false)), .mov (.t 5)⟩, ⟨(some 79), (some (75, false)), .iaddr 1 none (.t 77) (.t 78)⟩, ⟨(some 80), (some (75, false)), .load false 1 (.t 79)⟩, ⟨(some 81), (some (75, false)), .bin .lss (.t 80) (.c (.int .i64 0))⟩, ⟨(some 82), none, .pick (.t 75) (.c (.bool true)) (.t 81)⟩, ⟨(some 83), none, .mov (.t 82)⟩, ⟨(some 84), (some (83, false)), .faddr 2 (.t 2)⟩, ⟨(some 85), (some (83, false)), .load false 1 (.t 84)⟩, ⟨(some 86), (some (83, false)), .mov (.t 5)⟩, ⟨(some 87), (some (83, false)), .iaddr 1 none (.t 85) (.t 86)⟩, ⟨(some 88), (some (83, false)), .load false 1 (.t 87)⟩, ⟨(some 89), (some (83, false)), .mov (.t 1)⟩, ⟨(some 90), (some (83, false)), .bin .geq (.t 88) (.t 89)⟩, ⟨(some 91), none, .pick (.t 83) (.c (.bool true)) (.t 90)⟩])
 (.cond (.t 91) (.seq (.ops [⟨(some 4), none, .mov (.c (.bool false))⟩])
 .ret) .skip))))
 (.ops [⟨(some 92), none, .bin .add (.t 54) (.c (.int .i64 1))⟩, ⟨(some 54), none, .mov (.t 92)⟩]))))
/-- furlong/smap.May -/
def v85 : VFun := ⟨2, [(.tmp 4)], (.seq (.ops [⟨(some 2), none, .box 26 (.t 0)⟩, ⟨(some 4), none, .mov (.c (.bool false))⟩])
 (.seq (.seq (.ops [⟨(some 7), none, .mov (.t 1)⟩, ⟨(some 8), none, .bin .lss (.t 7) (.c (.int .i64 1))⟩, ⟨(some 9), none, .mov (.t 8)⟩, ⟨(some 10), (some (9, false)), .mov (.t 1)⟩, ⟨(some 11), (some (9, false)), .bin .gtr (.t 10) (.c (.int .i64 8))⟩, ⟨(some 12), none, .pick (.t 9) (.c (.bool true)) (.t 11)⟩, ⟨(some 13), none, .mov (.t 12)⟩, ⟨(some 14), (some (13, false)), .faddr 0 (.t 2)⟩, ⟨(some 15), (some (13, false)), .load false 1 (.t 14)⟩, ⟨(some 16), (some (13, false)), .bin .lss (.t 15) (.c (.int .i64 1))⟩, ⟨(some 17), none, .pick (.t 13) (.c (.bool true)) (.t 16)⟩, ⟨(some 18), none, .mov (.t 17)⟩, ⟨(some 19), (some (18, false)), .faddr 0 (.t 2)⟩, ⟨(some 20), (some (18, false)), .load false 1 (.t 19)⟩, ⟨(some 21), (some (18, false)), .bin .gtr (.t 20) (.c (.int .i64 65535))⟩, ⟨(some 22), none, .pick (.t 18) (.c (.bool true)) (.t 21)⟩, ⟨(some 23), none, .mov (.t 22)⟩, ⟨(some 24), (some (23, false)), .faddr 1 (.t 2)⟩, ⟨(some 25), (some (23, false)), .load false 1 (.t 24)⟩, ⟨(some 26), (some (23, false)), .bi (.len 1) [(.t 25)]⟩, ⟨(some 27), (some (23, false)), .bin .lss (.t 26) (.c (.int .i64 1))⟩, ⟨(some 28), none, .pick (.t 23) (.c (.bool true)) (.t 27)⟩, ⟨(some 29), none, .mov (.t 28)⟩, ⟨(some 30), (some (29, false)), .faddr 1 (.t 2)⟩, ⟨(some 31), (some (29, false)), .load false 1 (.t 30)⟩, ⟨(some 32), (some (29, false)), .bi (.len 1) [(.t 31)]⟩, ⟨(some 33), (some (29, false)), .bin .gtr (.t 32) (.c (.int .i64 32))⟩, ⟨(some 34), none, .pick (.t 29) (.c (.bool true)) (.t 33)⟩, ⟨(some 35), none, .mov (.t 34)⟩, ⟨(some 36), (some (35, false)), .faddr 2 (.t 2)⟩, ⟨(some 37), (some (35, false)), .load false 1 (.t 36)⟩, ⟨(some 38), (some (35, false)), .bi (.len 1) [(.t 37)]⟩, ⟨(some 39), (some (35, false)), .faddr 1 (.t 2)⟩, ⟨(some 40), (some (35, false)), .load false 1 (.t 39)⟩, ⟨(some 41), (some (35, false)), .bi (.len 1) [(.t 40)]⟩, ⟨(some 42), (some (35, false)), .bin .neq (.t 38) (.t 41)⟩, ⟨(some 43), none, .pick (.t 35) (.c (.bool true)) (.t 42)⟩, ⟨(some 44), none, .mov (.t 43)⟩, ⟨(some 45), (some (44, false)), .faddr 1 (.t 2)⟩, ⟨(some 46), (some (44, false)), .load false 1 (.t 45)⟩, ⟨(some 47), (some (44, false)), .iaddr 1 none (.t 46) (.c (.int .i64 0))⟩, ⟨(some 48), (some (44, false)), .load false 1 (.t 47)⟩, ⟨(some 49), (some (44, false)), .bin .neq (.t 48) (.c (.int .i64 0))⟩, ⟨(some 50), none, .pick (.t 44) (.c (.bool true)) (.t 49)⟩])
 (.cond (.t 50) (.seq (.ops [⟨(some 4), none, .mov (.c (.bool false))⟩])
 .ret) .skip))
 (.seq (.seq (.ops [⟨(some 51), none, .faddr 1 (.t 2)⟩, ⟨(some 52), none, .load false 1 (.t 51)⟩, ⟨(some 53), none, .bi (.len 1) [(.t 52)]⟩, ⟨(some 54), none, .mov (.c (.int .i64 0))⟩])
 (.block 0 (.loop b85_0)))
 (.seq (.ops [⟨(some 4), none, .mov (.c (.bool true))⟩])
 .ret))))⟩
/-- furlong/rec.BaseMay -/
def v86 : VFun := ⟨1, [(.tmp 2)], (.seq (.ops [⟨(some 2), none, .mov (.c (.bool false))⟩])
 (.seq (.ops [⟨(some 3), none, .mov (.t 0)⟩, ⟨(some 4), none, .bin .geq (.t 3) (.c (.int .i64 (-1)))⟩, ⟨(some 5), none, .mov (.t 4)⟩, ⟨(some 6), (some (5, true)), .mov (.t 0)⟩, ⟨(some 7), (some (5, true)), .bin .leq (.t 6) (.c (.int .i64 65535))⟩, ⟨(some 8), none, .pick (.t 5) (.t 7) (.c (.bool false))⟩, ⟨(some 2), none, .mov (.t 8)⟩])
 .ret))⟩
def b87_0 : VCode := (.seq (.ops [⟨(some 21), none, .bin .lss (.t 20) (.t 19)⟩])
 (.seq (.cond (.t 21) .skip (.exit 0))
 (.seq (.block 1 (.seq (.ops [⟨(some 22), none, .mov (.t 20)⟩, ⟨(some 6), none, .mov (.t 22)⟩])
 (.seq (.ops [⟨(some 23), none, .mov (.t 0)⟩, ⟨(some 24), none, .mov (.t 6)⟩, ⟨(some 25), none, .iaddr 8 none (.t 23) (.t 24)⟩, ⟨(some 7), none, .mov (.t 25)⟩])
 (.seq (.seq (.ops [⟨(some 26), none, .mov (.t 7)⟩, ⟨(some 27), none, .mov (.t 1)⟩, ⟨(some 28), none, .call 107 [(.t 26), (.t 27)]⟩, ⟨(some 29), none, .un .not (.t 28)⟩, ⟨(some 30), none, .mov (.t 29)⟩, ⟨(some 31), (some (30, false)), .mov (.t 7)⟩, ⟨(some 32), (some (30, false)), .nilck (.t 31)⟩, ⟨(some 33), (some (30, false)), .faddr 0 (.t 32)⟩, ⟨(some 34), (some (30, false)), .load false 1 (.t 33)⟩, ⟨(some 35), (some (30, false)), .bin .eql (.t 34) (.c (.int .i64 2))⟩, ⟨(some 36), (some (30, false)), .mov (.t 35)⟩, ⟨(some 37), (some (36, true)), .mov (.t 6)⟩, ⟨(some 38), (some (36, true)), .bin .gtr (.t 37) (.c (.int .i64 0))⟩, ⟨(some 39), (some (30, false)), .pick (.t 36) (.t 38) (.c (.bool false))⟩, ⟨(some 40), none, .pick (.t 30) (.c (.bool true)) (.t 39)⟩])
 (.cond (.t 40) (.seq (.ops [⟨(some 4), none, .mov (.c (.bool false))⟩])
 .ret) .skip))
 (.seq (.ops [⟨(some 41), none, .mov (.t 7)⟩, ⟨(some 42), none, .call 108 [(.t 41)]⟩, ⟨(some 8), none, .mov (.t 42)⟩])
 (.seq (.ops [⟨(some 43), none, .mov (.t 8)⟩, ⟨(some 44), none, .bin .gtr (.t 43) (.c (.int .i64 0))⟩])
 (.cond (.t 44) (.seq (.seq (.ops [⟨(some 45), none, .mov (.t 5)⟩, ⟨(some 46), none, .mov (.t 8)⟩, ⟨(some 47), none, .lookup .int (.bool false) false (.t 45) (.t 46)⟩])
 (.cond (.t 47) (.seq (.ops [⟨(some 4), none, .mov (.c (.bool false))⟩])
 .ret) .skip))
 (.ops [⟨(some 48), none, .mov (.t 5)⟩, ⟨(some 49), none, .mov (.t 8)⟩, ⟨none, none, .mupd .int (.t 48) (.t 49) (.c (.bool true))⟩])) .skip)))))))
 (.ops [⟨(some 50), none, .bin .add (.t 20) (.c (.int .i64 1))⟩, ⟨(some 20), none, .mov (.t 50)⟩]))))
/-- furlong/rec.OpsMay -/
def v87 : VFun := ⟨2, [(.tmp 4)], (.seq (.ops [⟨(some 4), none, .mov (.c (.bool false))⟩])
 (.seq (.seq (.ops [⟨(some 9), none, .mov (.t 0)⟩, ⟨(some 10), none, .bi (.len 1) [(.t 9)]⟩, ⟨(some 11), none, .bin .lss (.t 10) (.c (.int .i64 1))⟩, ⟨(some 12), none, .mov (.t 11)⟩, ⟨(some 13), (some (12, false)), .mov (.t 0)⟩, ⟨(some 14), (some (12, false)), .bi (.len 1) [(.t 13)]⟩, ⟨(some 15), (some (12, false)), .bin .gtr (.t 14) (.c (.int .i64 32))⟩, ⟨(some 16), none, .pick (.t 12) (.c (.bool true)) (.t 15)⟩])
 (.cond (.t 16) (.seq (.ops [⟨(some 4), none, .mov (.c (.bool false))⟩])
 .ret) .skip))
 (.seq (.ops [⟨(some 17), none, .mkmap⟩, ⟨(some 5), none, .mov (.t 17)⟩])
 (.seq (.seq (.ops [⟨(some 18), none, .mov (.t 0)⟩, ⟨(some 19), none, .bi (.len 1) [(.t 18)]⟩, ⟨(some 20), none, .mov (.c (.int .i64 0))⟩])
 (.block 0 (.loop b87_0)))
 (.seq (.ops [⟨(some 4), none, .mov (.c (.bool true))⟩])
 .ret)))))⟩
/-- furlong/rec.noMap -/
def v88 : VFun := ⟨1, [(.tmp 2)], (.seq (.ops [⟨(some 2), none, .mov (.c (.bool false))⟩])
 (.seq (.ops [⟨(some 3), none, .mov (.t 0)⟩, ⟨(some 4), none, .nilck (.t 3)⟩, ⟨(some 5), none, .faddr 0 (.t 4)⟩, ⟨(some 6), none, .load false 1 (.t 5)⟩, ⟨(some 7), none, .bin .eql (.t 6) (.c (.int .i64 0))⟩, ⟨(some 8), none, .mov (.t 7)⟩, ⟨(some 9), (some (8, true)), .mov (.t 0)⟩, ⟨(some 10), (some (8, true)), .nilck (.t 9)⟩, ⟨(some 11), (some (8, true)), .faddr 1 (.t 10)⟩, ⟨(some 12), (some (8, true)), .load false 1 (.t 11)⟩, ⟨(some 13), (some (8, true)), .bi (.len 1) [(.t 12)]⟩, ⟨(some 14), (some (8, true)), .bin .eql (.t 13) (.c (.int .i64 0))⟩, ⟨(some 15), none, .pick (.t 8) (.t 14) (.c (.bool false))⟩, ⟨(some 16), none, .mov (.t 15)⟩, ⟨(some 17), (some (16, true)), .mov (.t 0)⟩, ⟨(some 18), (some (16, true)), .nilck (.t 17)⟩, ⟨(some 19), (some (16, true)), .faddr 2 (.t 18)⟩, ⟨(some 20), (some (16, true)), .load false 1 (.t 19)⟩, ⟨(some 21), (some (16, true)), .bi (.len 1) [(.t 20)]⟩, ⟨(some 22), (some (16, true)), .bin .eql (.t 21) (.c (.int .i64 0))⟩, ⟨(some 23), none, .pick (.t 16) (.t 22) (.c (.bool false))⟩, ⟨(some 2), none, .mov (.t 23)⟩])
 .ret))⟩
def b89_0 : VCode := (.seq (.ops [⟨(some 12), none, .bin .lss (.t 11) (.t 10)⟩])
 (.seq (.cond (.t 12) .skip (.exit 0))
 (.seq (.block 1 (.seq (.ops [⟨(some 13), none, .mov (.t 11)⟩, ⟨(some 6), none, .mov (.t 13)⟩])
 (.ops [⟨(some 14), none, .mov (.t 5)⟩, ⟨(some 15), none, .mov (.t 6)⟩, ⟨(some 16), none, .mov (.t 0)⟩, ⟨(some 17), none, .mov (.t 1)⟩, ⟨(some 18), none, .bin .sub (.t 17) (.c (.int .i64 1))⟩, ⟨(some 19), none, .mov (.t 6)⟩, ⟨(some 20), none, .bin .sub (.t 18) (.t 19)⟩, ⟨(some 21), none, .bin .mul (.c (.int .i64 8)) (.t 20)⟩, ⟨(some 22), none, .bin .shr (.t 16) (.t 21)⟩, ⟨(some 23), none, .conv (.int .u8) (.t 22)⟩, ⟨(some 24), none, .iaddr 1 none (.t 14) (.t 15)⟩, ⟨none, none, .store 1 (.t 24) (.t 23)⟩])))
 (.ops [⟨(some 25), none, .bin .add (.t 11) (.c (.int .i64 1))⟩, ⟨(some 11), none, .mov (.t 25)⟩]))))
/-- furlong/frame.Num -/
def v89 : VFun := ⟨2, [(.tmp 4)], (.seq (.ops [⟨(some 4), none, .mov (.c (.str []))⟩])
 (.seq (.ops [⟨(some 7), none, .mov (.t 1)⟩, ⟨(some 8), none, .mkslice [(.int .u8 0)] 5 1 (.t 7) (.t 7)⟩, ⟨(some 5), none, .mov (.t 8)⟩])
 (.seq (.seq (.ops [⟨(some 9), none, .mov (.t 5)⟩, ⟨(some 10), none, .bi (.len 1) [(.t 9)]⟩, ⟨(some 11), none, .mov (.c (.int .i64 0))⟩])
 (.block 0 (.loop b89_0)))
 (.seq (.ops [⟨(some 26), none, .mov (.t 5)⟩, ⟨(some 27), none, .conv .text (.t 26)⟩, ⟨(some 4), none, .mov (.t 27)⟩])
 .ret))))⟩
def b96_0 : VCode := (.seq (.seq (.ops [⟨(some 11), none, .mov (.t 5)⟩, ⟨(some 12), none, .mov (.t 0)⟩, ⟨(some 13), none, .bi (.len 1) [(.t 12)]⟩, ⟨(some 14), none, .bin .lss (.t 11) (.t 13)⟩])
 (.cond (.t 14) .skip (.exit 0)))
 (.seq (.block 1 (.seq (.drawn [⟨(some 17), none, .mov (.t 0)⟩, ⟨(some 18), none, .mov (.t 5)⟩, ⟨(some 19), none, .iaddr 1 none (.t 17) (.t 18)⟩, ⟨(some 20), none, .load false 1 (.t 19)⟩, ⟨(some 21), none, .mov (.t 1)⟩, ⟨(some 22), none, .mov (.t 5)⟩, ⟨(some 23), none, .iaddr 1 none (.t 21) (.t 22)⟩, ⟨(some 24), none, .load false 1 (.t 23)⟩, ⟨(some 25), none, .bin .neq (.t 20) (.t 24)⟩] [])
 (.cond (.t 25) (.seq (.ops [⟨(some 4), none, .mov (.c (.bool false))⟩])
 .ret) .skip)))
 (.ops [⟨(some 15), none, .mov (.t 5)⟩, ⟨(some 16), none, .bin .add (.t 15) (.c (.int .i64 1))⟩, ⟨(some 5), none, .mov (.t 16)⟩])))
/-- furlong/furlonglaw0.SameInts -/
def v96 : VFun := ⟨2, [(.tmp 4)], (.seq (.ops [⟨(some 4), none, .mov (.c (.bool false))⟩])
 (.seq (.seq (.ops [⟨(some 6), none, .mov (.t 0)⟩, ⟨(some 7), none, .bi (.len 1) [(.t 6)]⟩, ⟨(some 8), none, .mov (.t 1)⟩, ⟨(some 9), none, .bi (.len 1) [(.t 8)]⟩, ⟨(some 10), none, .bin .neq (.t 7) (.t 9)⟩])
 (.cond (.t 10) (.seq (.ops [⟨(some 4), none, .mov (.c (.bool false))⟩])
 .ret) .skip))
 (.seq (.seq (.ops [⟨(some 5), none, .mov (.c (.int .i64 0))⟩])
 (.block 0 (.loop b96_0)))
 (.seq (.ops [⟨(some 4), none, .mov (.c (.bool true))⟩])
 .ret))))⟩
def b97_0 : VCode := (.seq (.seq (.ops [⟨(some 48), none, .mov (.t 6)⟩, ⟨(some 49), none, .faddr 2 (.t 2)⟩, ⟨(some 50), none, .load false 1 (.t 49)⟩, ⟨(some 51), none, .mov (.t 5)⟩, ⟨(some 52), none, .iaddr 1 none (.t 50) (.t 51)⟩, ⟨(some 53), none, .load false 1 (.t 52)⟩, ⟨(some 54), none, .bi (.len 1) [(.t 53)]⟩, ⟨(some 55), none, .bin .lss (.t 48) (.t 54)⟩])
 (.cond (.t 55) .skip (.exit 2)))
 (.seq (.block 3 (.seq (.drawn [⟨(some 58), none, .faddr 2 (.t 2)⟩, ⟨(some 59), none, .load false 1 (.t 58)⟩, ⟨(some 60), none, .mov (.t 5)⟩, ⟨(some 61), none, .iaddr 1 none (.t 59) (.t 60)⟩, ⟨(some 62), none, .load false 1 (.t 61)⟩, ⟨(some 63), none, .mov (.t 6)⟩, ⟨(some 64), none, .iaddr 2 none (.t 62) (.t 63)⟩, ⟨(some 65), none, .load true 2 (.t 64)⟩, ⟨(some 66), none, .faddr 2 (.t 3)⟩, ⟨(some 67), none, .load false 1 (.t 66)⟩, ⟨(some 68), none, .mov (.t 5)⟩, ⟨(some 69), none, .iaddr 1 none (.t 67) (.t 68)⟩, ⟨(some 70), none, .load false 1 (.t 69)⟩, ⟨(some 71), none, .mov (.t 6)⟩, ⟨(some 72), none, .iaddr 2 none (.t 70) (.t 71)⟩, ⟨(some 73), none, .load true 2 (.t 72)⟩, ⟨(some 74), none, .eqs (.flat [.int, .int]) true (.t 65) (.t 73)⟩] [])
 (.cond (.t 74) (.seq (.ops [⟨(some 4), none, .mov (.c (.bool false))⟩])
 .ret) .skip)))
 (.ops [⟨(some 56), none, .mov (.t 6)⟩, ⟨(some 57), none, .bin .add (.t 56) (.c (.int .i64 1))⟩, ⟨(some 6), none, .mov (.t 57)⟩])))
def b97_1 : VCode := (.seq (.seq (.ops [⟨(some 28), none, .mov (.t 5)⟩, ⟨(some 29), none, .faddr 2 (.t 2)⟩, ⟨(some 30), none, .load false 1 (.t 29)⟩, ⟨(some 31), none, .bi (.len 1) [(.t 30)]⟩, ⟨(some 32), none, .bin .lss (.t 28) (.t 31)⟩])
 (.cond (.t 32) .skip (.exit 0)))
 (.seq (.block 1 (.seq (.seq (.drawn [⟨(some 35), none, .faddr 2 (.t 2)⟩, ⟨(some 36), none, .load false 1 (.t 35)⟩, ⟨(some 37), none, .mov (.t 5)⟩, ⟨(some 38), none, .iaddr 1 none (.t 36) (.t 37)⟩, ⟨(some 39), none, .load false 1 (.t 38)⟩, ⟨(some 40), none, .bi (.len 1) [(.t 39)]⟩, ⟨(some 41), none, .faddr 2 (.t 3)⟩, ⟨(some 42), none, .load false 1 (.t 41)⟩, ⟨(some 43), none, .mov (.t 5)⟩, ⟨(some 44), none, .iaddr 1 none (.t 42) (.t 43)⟩, ⟨(some 45), none, .load false 1 (.t 44)⟩, ⟨(some 46), none, .bi (.len 1) [(.t 45)]⟩, ⟨(some 47), none, .bin .neq (.t 40) (.t 46)⟩] [])
 (.cond (.t 47) (.seq (.ops [⟨(some 4), none, .mov (.c (.bool false))⟩])
 .ret) .skip))
 (.seq (.ops [⟨(some 6), none, .mov (.c (.int .i64 0))⟩])
 (.block 2 (.loop b97_0)))))
 (.ops [⟨(some 33), none, .mov (.t 5)⟩, ⟨(some 34), none, .bin .add (.t 33) (.c (.int .i64 1))⟩, ⟨(some 5), none, .mov (.t 34)⟩])))
/-- furlong/furlonglaw0.SameFeature -/
def v97 : VFun := ⟨2, [(.tmp 4)], (.seq (.ops [⟨(some 2), none, .box 52 (.t 0)⟩, ⟨(some 3), none, .box 52 (.t 1)⟩, ⟨(some 4), none, .mov (.c (.bool false))⟩])
 (.seq (.seq (.ops [⟨(some 7), none, .faddr 0 (.t 2)⟩, ⟨(some 8), none, .load false 1 (.t 7)⟩, ⟨(some 9), none, .faddr 0 (.t 3)⟩, ⟨(some 10), none, .load false 1 (.t 9)⟩, ⟨(some 11), none, .bin .neq (.t 8) (.t 10)⟩, ⟨(some 12), none, .mov (.t 11)⟩, ⟨(some 13), (some (12, false)), .faddr 1 (.t 2)⟩, ⟨(some 14), (some (12, false)), .load false 1 (.t 13)⟩, ⟨(some 15), (some (12, false)), .faddr 1 (.t 3)⟩, ⟨(some 16), (some (12, false)), .load false 1 (.t 15)⟩, ⟨(some 17), (some (12, false)), .bin .neq (.t 14) (.t 16)⟩, ⟨(some 18), none, .pick (.t 12) (.c (.bool true)) (.t 17)⟩, ⟨(some 19), none, .mov (.t 18)⟩, ⟨(some 20), (some (19, false)), .faddr 2 (.t 2)⟩, ⟨(some 21), (some (19, false)), .load false 1 (.t 20)⟩, ⟨(some 22), (some (19, false)), .bi (.len 1) [(.t 21)]⟩, ⟨(some 23), (some (19, false)), .faddr 2 (.t 3)⟩, ⟨(some 24), (some (19, false)), .load false 1 (.t 23)⟩, ⟨(some 25), (some (19, false)), .bi (.len 1) [(.t 24)]⟩, ⟨(some 26), (some (19, false)), .bin .neq (.t 22) (.t 25)⟩, ⟨(some 27), none, .pick (.t 19) (.c (.bool true)) (.t 26)⟩])
 (.cond (.t 27) (.seq (.ops [⟨(some 4), none, .mov (.c (.bool false))⟩])
 .ret) .skip))
 (.seq (.seq (.ops [⟨(some 5), none, .mov (.c (.int .i64 0))⟩])
 (.block 0 (.loop b97_1)))
 (.seq (.ops [⟨(some 4), none, .mov (.c (.bool true))⟩])
 .ret))))⟩
/-- furlong/msg.node -/
def v98 : VFun := ⟨1, [(.tmp 2)], (.seq (.ops [⟨(some 2), none, .mov (.c (.bool false))⟩])
 (.seq (.ops [⟨(some 3), none, .mov (.t 0)⟩, ⟨(some 4), none, .bin .geq (.t 3) (.c (.int .i64 0))⟩, ⟨(some 5), none, .mov (.t 4)⟩, ⟨(some 6), (some (5, true)), .mov (.t 0)⟩, ⟨(some 7), (some (5, true)), .bin .lss (.t 6) (.c (.int .i64 8))⟩, ⟨(some 8), none, .pick (.t 5) (.t 7) (.c (.bool false))⟩, ⟨(some 2), none, .mov (.t 8)⟩])
 .ret))⟩
/-- (furlong/msg.parts).opsMay -/
def v99 : VFun := ⟨2, [(.tmp 4)], (.seq (.ops [⟨(some 2), none, .box 132 (.t 0)⟩, ⟨(some 4), none, .mov (.c (.bool false))⟩])
 (.seq (.seq (.ops [⟨(some 5), none, .faddr 1 (.t 2)⟩, ⟨(some 6), none, .load false 1 (.t 5)⟩, ⟨(some 7), none, .un .not (.t 6)⟩])
 (.cond (.t 7) (.seq (.ops [⟨(some 8), none, .mov (.t 1)⟩, ⟨(some 9), none, .nilck (.t 8)⟩, ⟨(some 10), none, .faddr 5 (.t 9)⟩, ⟨(some 11), none, .load false 1 (.t 10)⟩, ⟨(some 12), none, .bin .eql (.t 11) (.c (.int .i64 0))⟩, ⟨(some 13), none, .mov (.t 12)⟩, ⟨(some 14), (some (13, true)), .mov (.t 1)⟩, ⟨(some 15), (some (13, true)), .nilck (.t 14)⟩, ⟨(some 16), (some (13, true)), .faddr 14 (.t 15)⟩, ⟨(some 17), (some (13, true)), .load false 1 (.t 16)⟩, ⟨(some 18), (some (13, true)), .bi (.len 1) [(.t 17)]⟩, ⟨(some 19), (some (13, true)), .bin .eql (.t 18) (.c (.int .i64 0))⟩, ⟨(some 20), none, .pick (.t 13) (.t 19) (.c (.bool false))⟩, ⟨(some 4), none, .mov (.t 20)⟩])
 .ret) .skip))
 (.seq (.ops [⟨(some 21), none, .mov (.t 1)⟩, ⟨(some 22), none, .nilck (.t 21)⟩, ⟨(some 23), none, .faddr 5 (.t 22)⟩, ⟨(some 24), none, .load false 1 (.t 23)⟩, ⟨(some 25), none, .call 86 [(.t 24)]⟩, ⟨(some 26), none, .mov (.t 25)⟩, ⟨(some 27), (some (26, true)), .mov (.t 1)⟩, ⟨(some 28), (some (26, true)), .nilck (.t 27)⟩, ⟨(some 29), (some (26, true)), .faddr 14 (.t 28)⟩, ⟨(some 30), (some (26, true)), .load false 1 (.t 29)⟩, ⟨(some 31), (some (26, true)), .call 87 [(.t 30), (.c (.int .i64 8))]⟩, ⟨(some 32), none, .pick (.t 26) (.t 31) (.c (.bool false))⟩, ⟨(some 4), none, .mov (.t 32)⟩])
 .ret)))⟩
/-- (furlong/msg.parts).queryMay -/
def v100 : VFun := ⟨2, [(.tmp 4)], (.seq (.ops [⟨(some 2), none, .box 132 (.t 0)⟩, ⟨(some 4), none, .mov (.c (.bool false))⟩])
 (.seq (.seq (.ops [⟨(some 5), none, .faddr 3 (.t 2)⟩, ⟨(some 6), none, .load false 1 (.t 5)⟩, ⟨(some 7), none, .un .not (.t 6)⟩])
 (.cond (.t 7) (.seq (.ops [⟨(some 8), none, .mov (.t 1)⟩, ⟨(some 9), none, .nilck (.t 8)⟩, ⟨(some 10), none, .faddr 7 (.t 9)⟩, ⟨(some 11), none, .load false 1 (.t 10)⟩, ⟨(some 12), none, .bin .eql (.t 11) (.c (.int .i64 0))⟩, ⟨(some 13), none, .mov (.t 12)⟩, ⟨(some 14), (some (13, true)), .mov (.t 1)⟩, ⟨(some 15), (some (13, true)), .nilck (.t 14)⟩, ⟨(some 16), (some (13, true)), .faddr 10 (.t 15)⟩, ⟨(some 17), (some (13, true)), .load true 4 (.t 16)⟩, ⟨(some 18), (some (13, true)), .build [(.int .i64 0), (.int .i64 0), (.int .i64 0), (.int .i64 0)] []⟩, ⟨(some 19), (some (13, true)), .eqs (.flat [.int, .int, .int, .int]) false (.t 17) (.t 18)⟩, ⟨(some 20), none, .pick (.t 13) (.t 19) (.c (.bool false))⟩, ⟨(some 4), none, .mov (.t 20)⟩])
 .ret) .skip))
 (.seq (.ops [⟨(some 21), none, .mov (.t 1)⟩, ⟨(some 22), none, .nilck (.t 21)⟩, ⟨(some 23), none, .faddr 7 (.t 22)⟩, ⟨(some 24), none, .load false 1 (.t 23)⟩, ⟨(some 25), none, .bin .geq (.t 24) (.c (.int .i64 1))⟩, ⟨(some 26), none, .mov (.t 25)⟩, ⟨(some 27), (some (26, true)), .mov (.t 1)⟩, ⟨(some 28), (some (26, true)), .nilck (.t 27)⟩, ⟨(some 29), (some (26, true)), .faddr 7 (.t 28)⟩, ⟨(some 30), (some (26, true)), .load false 1 (.t 29)⟩, ⟨(some 31), (some (26, true)), .bin .leq (.t 30) (.c (.int .i64 65535))⟩, ⟨(some 32), none, .pick (.t 26) (.t 31) (.c (.bool false))⟩, ⟨(some 33), none, .mov (.t 32)⟩, ⟨(some 34), (some (33, true)), .mov (.t 1)⟩, ⟨(some 35), (some (33, true)), .nilck (.t 34)⟩, ⟨(some 36), (some (33, true)), .faddr 10 (.t 35)⟩, ⟨(some 37), (some (33, true)), .load true 4 (.t 36)⟩, ⟨(some 38), (some (33, true)), .call 111 [(.t 37)]⟩, ⟨(some 39), none, .pick (.t 33) (.t 38) (.c (.bool false))⟩, ⟨(some 4), none, .mov (.t 39)⟩])
 .ret)))⟩
/-- (furlong/msg.parts).partMay -/
def v101 : VFun := ⟨2, [(.tmp 4)], (.seq (.ops [⟨(some 2), none, .box 132 (.t 0)⟩, ⟨(some 4), none, .mov (.c (.bool false))⟩])
 (.seq (.seq (.ops [⟨(some 5), none, .faddr 4 (.t 2)⟩, ⟨(some 6), none, .load false 1 (.t 5)⟩, ⟨(some 7), none, .un .not (.t 6)⟩])
 (.cond (.t 7) (.seq (.ops [⟨(some 8), none, .mov (.t 1)⟩, ⟨(some 9), none, .nilck (.t 8)⟩, ⟨(some 10), none, .faddr 8 (.t 9)⟩, ⟨(some 11), none, .load false 1 (.t 10)⟩, ⟨(some 12), none, .bin .eql (.t 11) (.c (.int .i64 0))⟩, ⟨(some 13), none, .mov (.t 12)⟩, ⟨(some 14), (some (13, true)), .mov (.t 1)⟩, ⟨(some 15), (some (13, true)), .nilck (.t 14)⟩, ⟨(some 16), (some (13, true)), .faddr 9 (.t 15)⟩, ⟨(some 17), (some (13, true)), .load false 1 (.t 16)⟩, ⟨(some 18), (some (13, true)), .un .not (.t 17)⟩, ⟨(some 19), none, .pick (.t 13) (.t 18) (.c (.bool false))⟩, ⟨(some 20), none, .mov (.t 19)⟩, ⟨(some 21), (some (20, true)), .mov (.t 1)⟩, ⟨(some 22), (some (20, true)), .nilck (.t 21)⟩, ⟨(some 23), (some (20, true)), .faddr 15 (.t 22)⟩, ⟨(some 24), (some (20, true)), .load false 1 (.t 23)⟩, ⟨(some 25), (some (20, true)), .bi (.len 1) [(.t 24)]⟩, ⟨(some 26), (some (20, true)), .bin .eql (.t 25) (.c (.int .i64 0))⟩, ⟨(some 27), none, .pick (.t 20) (.t 26) (.c (.bool false))⟩, ⟨(some 4), none, .mov (.t 27)⟩])
 .ret) .skip))
 (.seq (.ops [⟨(some 28), none, .mov (.t 1)⟩, ⟨(some 29), none, .nilck (.t 28)⟩, ⟨(some 30), none, .faddr 8 (.t 29)⟩, ⟨(some 31), none, .load false 1 (.t 30)⟩, ⟨(some 32), none, .bin .geq (.t 31) (.c (.int .i64 0))⟩, ⟨(some 33), none, .mov (.t 32)⟩, ⟨(some 34), (some (33, true)), .mov (.t 1)⟩, ⟨(some 35), (some (33, true)), .nilck (.t 34)⟩, ⟨(some 36), (some (33, true)), .faddr 8 (.t 35)⟩, ⟨(some 37), (some (33, true)), .load false 1 (.t 36)⟩, ⟨(some 38), (some (33, true)), .bin .leq (.t 37) (.c (.int .i64 2147483647))⟩, ⟨(some 39), none, .pick (.t 33) (.t 38) (.c (.bool false))⟩, ⟨(some 40), none, .mov (.t 39)⟩, ⟨(some 41), (some (40, true)), .mov (.t 1)⟩, ⟨(some 42), (some (40, true)), .nilck (.t 41)⟩, ⟨(some 43), (some (40, true)), .faddr 15 (.t 42)⟩, ⟨(some 44), (some (40, true)), .load false 1 (.t 43)⟩, ⟨(some 45), (some (40, true)), .bi (.len 1) [(.t 44)]⟩, ⟨(some 46), (some (40, true)), .bin .leq (.t 45) (.c (.int .i64 256))⟩, ⟨(some 47), none, .pick (.t 40) (.t 46) (.c (.bool false))⟩, ⟨(some 48), none, .mov (.t 47)⟩, ⟨(some 49), (some (48, true)), .mov (.t 1)⟩, ⟨(some 50), (some (48, true)), .nilck (.t 49)⟩, ⟨(some 51), (some (48, true)), .faddr 9 (.t 50)⟩, ⟨(some 52), (some (48, true)), .load false 1 (.t 51)⟩, ⟨(some 53), (some (48, true)), .un .not (.t 52)⟩, ⟨(some 54), (some (48, true)), .mov (.t 53)⟩, ⟨(some 55), (some (54, false)), .mov (.t 1)⟩, ⟨(some 56), (some (54, false)), .nilck (.t 55)⟩, ⟨(some 57), (some (54, false)), .faddr 15 (.t 56)⟩, ⟨(some 58), (some (54, false)), .load false 1 (.t 57)⟩, ⟨(some 59), (some (54, false)), .bi (.len 1) [(.t 58)]⟩, ⟨(some 60), (some (54, false)), .bin .eql (.t 59) (.c (.int .i64 0))⟩, ⟨(some 61), (some (48, true)), .pick (.t 54) (.c (.bool true)) (.t 60)⟩, ⟨(some 62), none, .pick (.t 48) (.t 61) (.c (.bool false))⟩, ⟨(some 63), none, .mov (.t 62)⟩, ⟨(some 64), (some (63, true)), .mov (.t 1)⟩, ⟨(some 65), (some (63, true)), .nilck (.t 64)⟩, ⟨(some 66), (some (63, true)), .faddr 15 (.t 65)⟩, ⟨(some 67), (some (63, true)), .load false 1 (.t 66)⟩, ⟨(some 68), (some (63, true)), .call 112 [(.t 67)]⟩, ⟨(some 69), none, .pick (.t 63) (.t 68) (.c (.bool false))⟩, ⟨(some 4), none, .mov (.t 69)⟩])
 .ret)))⟩
def b105_0 : VCode := (.seq (.ops [⟨(some 10), none, .bin .lss (.t 9) (.t 8)⟩])
 (.seq (.cond (.t 10) .skip (.exit 0))
 (.seq (.block 1 (.seq (.ops [⟨(some 11), none, .mov (.t 9)⟩, ⟨(some 4), none, .mov (.t 11)⟩])
 (.seq (.seq (.ops [⟨(some 12), none, .mov (.t 3)⟩, ⟨(some 13), none, .mov (.t 4)⟩, ⟨(some 14), none, .iaddr 8 none (.t 12) (.t 13)⟩, ⟨(some 15), none, .faddr 0 (.t 14)⟩, ⟨(some 16), none, .load false 1 (.t 15)⟩, ⟨(some 17), none, .bin .eql (.t 16) (.c (.int .i64 0))⟩])
 (.cond (.t 17) (.ops [⟨(some 18), none, .mov (.t 3)⟩, ⟨(some 19), none, .mov (.t 4)⟩, ⟨(some 20), none, .mov (.t 3)⟩, ⟨(some 21), none, .mov (.t 4)⟩, ⟨(some 22), none, .iaddr 8 none (.t 20) (.t 21)⟩, ⟨(some 23), none, .faddr 1 (.t 22)⟩, ⟨(some 24), none, .load true 3 (.t 23)⟩, ⟨(some 25), none, .call 117 [(.t 24)]⟩, ⟨(some 26), none, .iaddr 8 none (.t 18) (.t 19)⟩, ⟨(some 27), none, .faddr 1 (.t 26)⟩, ⟨none, none, .store 3 (.t 27) (.t 25)⟩]) .skip))
 (.ops [⟨(some 28), none, .mov (.t 3)⟩, ⟨(some 29), none, .mov (.t 4)⟩, ⟨(some 30), none, .mov (.t 3)⟩, ⟨(some 31), none, .mov (.t 4)⟩, ⟨(some 32), none, .iaddr 8 none (.t 30) (.t 31)⟩, ⟨(some 33), none, .faddr 5 (.t 32)⟩, ⟨(some 34), none, .load true 3 (.t 33)⟩, ⟨(some 35), none, .call 118 [(.t 34)]⟩, ⟨(some 36), none, .iaddr 8 none (.t 28) (.t 29)⟩, ⟨(some 37), none, .faddr 5 (.t 36)⟩, ⟨none, none, .store 3 (.t 37) (.t 35)⟩]))))
 (.ops [⟨(some 38), none, .bin .add (.t 9) (.c (.int .i64 1))⟩, ⟨(some 9), none, .mov (.t 38)⟩]))))
/-- furlong/rec.CopyOps -/
def v105 : VFun := ⟨1, [(.tmp 2)], (.seq (.ops [⟨(some 2), none, .mov (.c .nils)⟩])
 (.seq (.ops [⟨(some 5), none, .mov (.t 0)⟩, ⟨(some 6), none, .call 116 [(.t 5)]⟩, ⟨(some 3), none, .mov (.t 6)⟩])
 (.seq (.seq (.ops [⟨(some 7), none, .mov (.t 3)⟩, ⟨(some 8), none, .bi (.len 1) [(.t 7)]⟩, ⟨(some 9), none, .mov (.c (.int .i64 0))⟩])
 (.block 0 (.loop b105_0)))
 (.seq (.ops [⟨(some 39), none, .mov (.t 3)⟩, ⟨(some 2), none, .mov (.t 39)⟩])
 .ret))))⟩
def b106_0 : VCode := (.seq (.ops [⟨(some 9), none, .bin .lss (.t 8) (.t 7)⟩])
 (.seq (.cond (.t 9) .skip (.exit 0))
 (.seq (.block 1 (.seq (.ops [⟨(some 10), none, .iaddr 3 none (.t 6) (.t 8)⟩, ⟨(some 11), none, .load true 3 (.t 10)⟩, ⟨(some 5), none, .alloc [(.int .i64 0), (.int .i64 0), .nils] 52⟩, ⟨none, none, .store 3 (.t 5) (.t 11)⟩])
 (.ops [⟨(some 12), none, .mov (.t 3)⟩, ⟨(some 13), none, .load true 3 (.t 5)⟩, ⟨(some 14), none, .call 117 [(.t 13)]⟩, ⟨(some 15), none, .bslice [(.int .i64 0), (.int .i64 0), .nils] 52 1 [(0, 3, (.t 14))]⟩, ⟨(some 16), none, .bi (.append 3 40 52) [(.t 12), (.t 15)]⟩, ⟨(some 3), none, .mov (.t 16)⟩])))
 (.ops [⟨(some 17), none, .bin .add (.t 8) (.c (.int .i64 1))⟩, ⟨(some 8), none, .mov (.t 17)⟩]))))
/-- furlong/shape.CopyAll -/
def v106 : VFun := ⟨1, [(.tmp 2)], (.seq (.ops [⟨(some 2), none, .mov (.c .nils)⟩])
 (.seq (.ops [⟨(some 3), none, .mov (.c .nils)⟩])
 (.seq (.seq (.ops [⟨(some 6), none, .mov (.t 0)⟩, ⟨(some 7), none, .bi (.len 1) [(.t 6)]⟩, ⟨(some 8), none, .mov (.c (.int .i64 0))⟩])
 (.block 0 (.loop b106_0)))
 (.seq (.ops [⟨(some 18), none, .mov (.t 3)⟩, ⟨(some 2), none, .mov (.t 18)⟩])
 .ret))))⟩
/-- furlong/rec.opMay -/
def v107 : VFun := ⟨2, [(.tmp 4)], (.seq (.ops [⟨(some 4), none, .mov (.c (.bool false))⟩])
 (.seq (.seq (.ops [⟨(some 5), none, .mov (.t 0)⟩, ⟨(some 6), none, .nilck (.t 5)⟩, ⟨(some 7), none, .faddr 0 (.t 6)⟩, ⟨(some 8), none, .load false 1 (.t 7)⟩])
 (.block 0 (.seq (.ops [⟨(some 10), none, .bin .eql (.t 8) (.c (.int .i64 0))⟩, ⟨(some 9), none, .mov (.t 10)⟩])
 (.cond (.t 9) (.seq (.ops [⟨(some 11), none, .mov (.t 0)⟩, ⟨(some 12), none, .nilck (.t 11)⟩, ⟨(some 13), none, .faddr 1 (.t 12)⟩, ⟨(some 14), none, .load true 3 (.t 13)⟩, ⟨(some 15), none, .call 119 [(.t 14)]⟩, ⟨(some 16), none, .mov (.t 15)⟩, ⟨(some 17), (some (16, true)), .mov (.t 0)⟩, ⟨(some 18), (some (16, true)), .nilck (.t 17)⟩, ⟨(some 19), (some (16, true)), .faddr 4 (.t 18)⟩, ⟨(some 20), (some (16, true)), .load false 1 (.t 19)⟩, ⟨(some 21), (some (16, true)), .bin .eql (.t 20) (.c (.int .i64 0))⟩, ⟨(some 22), none, .pick (.t 16) (.t 21) (.c (.bool false))⟩, ⟨(some 23), none, .mov (.t 22)⟩, ⟨(some 24), (some (23, true)), .mov (.t 0)⟩, ⟨(some 25), (some (23, true)), .nilck (.t 24)⟩, ⟨(some 26), (some (23, true)), .faddr 5 (.t 25)⟩, ⟨(some 27), (some (23, true)), .call 88 [(.t 26)]⟩, ⟨(some 28), none, .pick (.t 23) (.t 27) (.c (.bool false))⟩, ⟨(some 4), none, .mov (.t 28)⟩])
 .ret) (.seq (.ops [⟨(some 30), none, .bin .eql (.t 8) (.c (.int .i64 1))⟩, ⟨(some 29), none, .mov (.t 30)⟩])
 (.cond (.t 29) (.seq (.ops [⟨(some 31), none, .mov (.t 0)⟩, ⟨(some 32), none, .nilck (.t 31)⟩, ⟨(some 33), none, .faddr 4 (.t 32)⟩, ⟨(some 34), none, .load false 1 (.t 33)⟩, ⟨(some 35), none, .bin .geq (.t 34) (.c (.int .i64 1))⟩, ⟨(some 36), none, .mov (.t 35)⟩, ⟨(some 37), (some (36, true)), .mov (.t 0)⟩, ⟨(some 38), (some (36, true)), .nilck (.t 37)⟩, ⟨(some 39), (some (36, true)), .faddr 4 (.t 38)⟩, ⟨(some 40), (some (36, true)), .load false 1 (.t 39)⟩, ⟨(some 41), (some (36, true)), .bin .leq (.t 40) (.c (.int .i64 65535))⟩, ⟨(some 42), none, .pick (.t 36) (.t 41) (.c (.bool false))⟩, ⟨(some 43), none, .mov (.t 42)⟩, ⟨(some 44), (some (43, true)), .mov (.t 0)⟩, ⟨(some 45), (some (43, true)), .nilck (.t 44)⟩, ⟨(some 46), (some (43, true)), .faddr 1 (.t 45)⟩, ⟨(some 47), (some (43, true)), .call 120 [(.t 46)]⟩, ⟨(some 48), none, .pick (.t 43) (.t 47) (.c (.bool false))⟩, ⟨(some 49), none, .mov (.t 48)⟩, ⟨(some 50), (some (49, true)), .mov (.t 0)⟩, ⟨(some 51), (some (49, true)), .nilck (.t 50)⟩, ⟨(some 52), (some (49, true)), .faddr 5 (.t 51)⟩, ⟨(some 53), (some (49, true)), .call 88 [(.t 52)]⟩, ⟨(some 54), none, .pick (.t 49) (.t 53) (.c (.bool false))⟩, ⟨(some 4), none, .mov (.t 54)⟩])
 .ret) (.seq (.ops [⟨(some 56), none, .bin .eql (.t 8) (.c (.int .i64 2))⟩, ⟨(some 55), none, .mov (.t 56)⟩])
 (.cond (.t 55) (.seq (.ops [⟨(some 57), none, .mov (.t 0)⟩, ⟨(some 58), none, .nilck (.t 57)⟩, ⟨(some 59), none, .faddr 5 (.t 58)⟩, ⟨(some 60), none, .load true 3 (.t 59)⟩, ⟨(some 61), none, .mov (.t 1)⟩, ⟨(some 62), none, .call 85 [(.t 60), (.t 61)]⟩, ⟨(some 63), none, .mov (.t 62)⟩, ⟨(some 64), (some (63, true)), .mov (.t 0)⟩, ⟨(some 65), (some (63, true)), .nilck (.t 64)⟩, ⟨(some 66), (some (63, true)), .faddr 4 (.t 65)⟩, ⟨(some 67), (some (63, true)), .load false 1 (.t 66)⟩, ⟨(some 68), (some (63, true)), .bin .eql (.t 67) (.c (.int .i64 0))⟩, ⟨(some 69), none, .pick (.t 63) (.t 68) (.c (.bool false))⟩, ⟨(some 70), none, .mov (.t 69)⟩, ⟨(some 71), (some (70, true)), .mov (.t 0)⟩, ⟨(some 72), (some (70, true)), .nilck (.t 71)⟩, ⟨(some 73), (some (70, true)), .faddr 1 (.t 72)⟩, ⟨(some 74), (some (70, true)), .call 120 [(.t 73)]⟩, ⟨(some 75), none, .pick (.t 70) (.t 74) (.c (.bool false))⟩, ⟨(some 4), none, .mov (.t 75)⟩])
 .ret) .skip))))))))
 (.seq (.ops [⟨(some 4), none, .mov (.c (.bool false))⟩])
 .ret)))⟩
/-- furlong/rec.Id -/
def v108 : VFun := ⟨1, [(.tmp 2)], (.seq (.ops [⟨(some 2), none, .mov (.c (.int .i64 0))⟩])
 (.seq (.seq (.ops [⟨(some 3), none, .mov (.t 0)⟩, ⟨(some 4), none, .nilck (.t 3)⟩, ⟨(some 5), none, .faddr 0 (.t 4)⟩, ⟨(some 6), none, .load false 1 (.t 5)⟩, ⟨(some 7), none, .bin .eql (.t 6) (.c (.int .i64 0))⟩])
 (.cond (.t 7) (.seq (.ops [⟨(some 8), none, .mov (.t 0)⟩, ⟨(some 9), none, .nilck (.t 8)⟩, ⟨(some 10), none, .faddr 1 (.t 9)⟩, ⟨(some 11), none, .faddr 0 (.t 10)⟩, ⟨(some 12), none, .load false 1 (.t 11)⟩, ⟨(some 2), none, .mov (.t 12)⟩])
 .ret) .skip))
 (.seq (.ops [⟨(some 13), none, .mov (.t 0)⟩, ⟨(some 14), none, .nilck (.t 13)⟩, ⟨(some 15), none, .faddr 4 (.t 14)⟩, ⟨(some 16), none, .load false 1 (.t 15)⟩, ⟨(some 2), none, .mov (.t 16)⟩])
 .ret)))⟩
/-- furlong/geom.BoxMay -/
def v111 : VFun := ⟨1, [(.tmp 2)], (.seq (.ops [⟨(some 1), none, .box 60 (.t 0)⟩, ⟨(some 2), none, .mov (.c (.bool false))⟩])
 (.seq (.ops [⟨(some 3), none, .faddr 0 (.t 1)⟩, ⟨(some 4), none, .load false 1 (.t 3)⟩, ⟨(some 5), none, .call 122 [(.t 4)]⟩, ⟨(some 6), none, .mov (.t 5)⟩, ⟨(some 7), (some (6, true)), .faddr 1 (.t 1)⟩, ⟨(some 8), (some (6, true)), .load false 1 (.t 7)⟩, ⟨(some 9), (some (6, true)), .call 122 [(.t 8)]⟩, ⟨(some 10), none, .pick (.t 6) (.t 9) (.c (.bool false))⟩, ⟨(some 11), none, .mov (.t 10)⟩, ⟨(some 12), (some (11, true)), .faddr 2 (.t 1)⟩, ⟨(some 13), (some (11, true)), .load false 1 (.t 12)⟩, ⟨(some 14), (some (11, true)), .call 122 [(.t 13)]⟩, ⟨(some 15), none, .pick (.t 11) (.t 14) (.c (.bool false))⟩, ⟨(some 16), none, .mov (.t 15)⟩, ⟨(some 17), (some (16, true)), .faddr 3 (.t 1)⟩, ⟨(some 18), (some (16, true)), .load false 1 (.t 17)⟩, ⟨(some 19), (some (16, true)), .call 122 [(.t 18)]⟩, ⟨(some 20), none, .pick (.t 16) (.t 19) (.c (.bool false))⟩, ⟨(some 21), none, .mov (.t 20)⟩, ⟨(some 22), (some (21, true)), .faddr 0 (.t 1)⟩, ⟨(some 23), (some (21, true)), .load false 1 (.t 22)⟩, ⟨(some 24), (some (21, true)), .faddr 2 (.t 1)⟩, ⟨(some 25), (some (21, true)), .load false 1 (.t 24)⟩, ⟨(some 26), (some (21, true)), .bin .leq (.t 23) (.t 25)⟩, ⟨(some 27), none, .pick (.t 21) (.t 26) (.c (.bool false))⟩, ⟨(some 28), none, .mov (.t 27)⟩, ⟨(some 29), (some (28, true)), .faddr 1 (.t 1)⟩, ⟨(some 30), (some (28, true)), .load false 1 (.t 29)⟩, ⟨(some 31), (some (28, true)), .faddr 3 (.t 1)⟩, ⟨(some 32), (some (28, true)), .load false 1 (.t 31)⟩, ⟨(some 33), (some (28, true)), .bin .leq (.t 30) (.t 32)⟩, ⟨(some 34), none, .pick (.t 28) (.t 33) (.c (.bool false))⟩, ⟨(some 2), none, .mov (.t 34)⟩])
 .ret))⟩
def b112_0 : VCode := (.seq (.ops [⟨(some 8), none, .bin .lss (.t 7) (.t 6)⟩])
 (.seq (.cond (.t 8) .skip (.exit 0))
 (.seq (.block 1 (.seq (.ops [⟨(some 9), none, .mov (.t 7)⟩, ⟨(some 10), none, .iaddr 3 none (.t 5) (.t 7)⟩, ⟨(some 11), none, .load true 3 (.t 10)⟩, ⟨(some 4), none, .alloc [(.int .i64 0), (.int .i64 0), .nils] 52⟩, ⟨(some 3), none, .mov (.t 9)⟩, ⟨none, none, .store 3 (.t 4) (.t 11)⟩])
 (.seq (.drawn [⟨(some 12), none, .load true 3 (.t 4)⟩, ⟨(some 13), none, .call 119 [(.t 12)]⟩, ⟨(some 14), none, .un .not (.t 13)⟩, ⟨(some 15), none, .mov (.t 14)⟩, ⟨(some 16), (some (15, false)), .mov (.t 3)⟩, ⟨(some 17), (some (15, false)), .bin .gtr (.t 16) (.c (.int .i64 0))⟩, ⟨(some 18), (some (15, false)), .mov (.t 17)⟩, ⟨(some 19), (some (18, true)), .mov (.t 0)⟩, ⟨(some 20), (some (18, true)), .mov (.t 3)⟩, ⟨(some 21), (some (18, true)), .bin .sub (.t 20) (.c (.int .i64 1))⟩, ⟨(some 22), (some (18, true)), .iaddr 3 none (.t 19) (.t 21)⟩, ⟨(some 23), (some (18, true)), .faddr 0 (.t 22)⟩, ⟨(some 24), (some (18, true)), .load false 1 (.t 23)⟩, ⟨(some 25), (some (18, true)), .faddr 0 (.t 4)⟩, ⟨(some 26), (some (18, true)), .load false 1 (.t 25)⟩, ⟨(some 27), (some (18, true)), .bin .geq (.t 24) (.t 26)⟩, ⟨(some 28), (some (15, false)), .pick (.t 18) (.t 27) (.c (.bool false))⟩, ⟨(some 29), none, .pick (.t 15) (.c (.bool true)) (.t 28)⟩] [])
 (.cond (.t 29) (.seq (.ops [⟨(some 2), none, .mov (.c (.bool false))⟩])
 .ret) .skip))))
 (.ops [⟨(some 30), none, .bin .add (.t 7) (.c (.int .i64 1))⟩, ⟨(some 7), none, .mov (.t 30)⟩]))))
/-- furlong/shape.Rising -/
def v112 : VFun := ⟨1, [(.tmp 2)], (.seq (.ops [⟨(some 2), none, .mov (.c (.bool false))⟩])
 (.seq (.seq (.ops [⟨(some 5), none, .mov (.t 0)⟩, ⟨(some 6), none, .bi (.len 1) [(.t 5)]⟩, ⟨(some 7), none, .mov (.c (.int .i64 0))⟩])
 (.block 0 (.loop b112_0)))
 (.seq (.ops [⟨(some 2), none, .mov (.c (.bool true))⟩])
 .ret)))⟩
/-- slices.Clone[[]furlong/api.Op,furlong/api.Op] -/
def v116 : VFun := ⟨1, [(.tmp 2)], (.seq (.ops [⟨(some 2), none, .mov (.c .nils)⟩])
 (.seq (.seq (.ops [⟨(some 3), none, .mov (.t 0)⟩, ⟨(some 4), none, .eqs .sl false (.t 3) (.c .nils)⟩])
 (.cond (.t 4) (.seq (.ops [⟨(some 2), none, .mov (.c .nils)⟩])
 .ret) .skip))
 (.seq (.ops [⟨(some 5), none, .bslice [(.int .i64 0), (.int .i64 0), (.int .i64 0), .nils, (.int .i64 0), (.int .i64 0), .nils, .nils] 54 0 []⟩, ⟨(some 6), none, .mov (.t 0)⟩, ⟨(some 7), none, .bi (.append 8 112 54) [(.t 5), (.t 6)]⟩, ⟨(some 2), none, .mov (.t 7)⟩])
 .ret)))⟩
def b117_0 : VCode := (.seq (.ops [⟨(some 14), none, .bin .lss (.t 13) (.t 12)⟩])
 (.seq (.cond (.t 14) .skip (.exit 0))
 (.seq (.block 1 (.seq (.ops [⟨(some 15), none, .mov (.t 13)⟩, ⟨(some 16), none, .iaddr 1 none (.t 11) (.t 13)⟩, ⟨(some 17), none, .load false 1 (.t 16)⟩, ⟨(some 4), none, .mov (.t 15)⟩, ⟨(some 5), none, .mov (.t 17)⟩])
 (.ops [⟨(some 18), none, .mov (.t 3)⟩, ⟨(some 19), none, .mov (.t 4)⟩, ⟨(some 20), none, .mov (.t 5)⟩, ⟨(some 21), none, .call 124 [(.t 20)]⟩, ⟨(some 22), none, .iaddr 1 none (.t 18) (.t 19)⟩, ⟨none, none, .store 1 (.t 22) (.t 21)⟩])))
 (.ops [⟨(some 23), none, .bin .add (.t 13) (.c (.int .i64 1))⟩, ⟨(some 13), none, .mov (.t 23)⟩]))))
/-- furlong/shape.Copy -/
def v117 : VFun := ⟨1, [(.cell 2 true 3)], (.seq (.ops [⟨(some 1), none, .box 52 (.t 0)⟩, ⟨(some 2), none, .alloc [(.int .i64 0), (.int .i64 0), .nils] 52⟩])
 (.seq (.ops [⟨(some 6), none, .faddr 2 (.t 1)⟩, ⟨(some 7), none, .load false 1 (.t 6)⟩, ⟨(some 8), none, .bi (.len 1) [(.t 7)]⟩, ⟨(some 9), none, .mkslice [.nils] 49 24 (.t 8) (.t 8)⟩, ⟨(some 3), none, .mov (.t 9)⟩])
 (.seq (.seq (.ops [⟨(some 10), none, .faddr 2 (.t 1)⟩, ⟨(some 11), none, .load false 1 (.t 10)⟩, ⟨(some 12), none, .bi (.len 1) [(.t 11)]⟩, ⟨(some 13), none, .mov (.c (.int .i64 0))⟩])
 (.block 0 (.loop b117_0)))
 (.seq (.ops [⟨(some 24), none, .mov (.t 3)⟩, ⟨(some 25), none, .faddr 2 (.t 1)⟩, ⟨none, none, .store 1 (.t 25) (.t 24)⟩])
 (.seq (.ops [⟨(some 26), none, .load true 3 (.t 1)⟩, ⟨none, none, .store 3 (.t 2) (.t 26)⟩])
 .ret)))))⟩
/-- furlong/smap.Copy -/
def v118 : VFun := ⟨1, [(.cell 2 true 3)], (.seq (.ops [⟨(some 1), none, .box 26 (.t 0)⟩, ⟨(some 2), none, .alloc [(.int .i64 0), .nils, .nils] 26⟩])
 (.seq (.drawn [⟨(some 3), none, .faddr 1 (.t 1)⟩, ⟨(some 4), none, .load false 1 (.t 3)⟩, ⟨(some 5), none, .call 125 [(.t 4)]⟩, ⟨(some 6), none, .faddr 2 (.t 1)⟩, ⟨(some 7), none, .load false 1 (.t 6)⟩, ⟨(some 8), none, .call 125 [(.t 7)]⟩, ⟨(some 9), none, .faddr 1 (.t 1)⟩, ⟨none, none, .store 1 (.t 9) (.t 5)⟩, ⟨(some 10), none, .faddr 2 (.t 1)⟩, ⟨none, none, .store 1 (.t 10) (.t 8)⟩] [(4, [0])])
 (.seq (.ops [⟨(some 11), none, .load true 3 (.t 1)⟩, ⟨none, none, .store 3 (.t 2) (.t 11)⟩])
 .ret)))⟩
/-- furlong/shape.May -/
def v119 : VFun := ⟨1, [(.tmp 2)], (.seq (.ops [⟨(some 1), none, .box 52 (.t 0)⟩, ⟨(some 2), none, .mov (.c (.bool false))⟩])
 (.seq (.seq (.ops [⟨(some 3), none, .faddr 0 (.t 1)⟩, ⟨(some 4), none, .load false 1 (.t 3)⟩, ⟨(some 5), none, .bin .lss (.t 4) (.c (.int .i64 1))⟩, ⟨(some 6), none, .mov (.t 5)⟩, ⟨(some 7), (some (6, false)), .faddr 0 (.t 1)⟩, ⟨(some 8), (some (6, false)), .load false 1 (.t 7)⟩, ⟨(some 9), (some (6, false)), .bin .gtr (.t 8) (.c (.int .i64 65535))⟩, ⟨(some 10), none, .pick (.t 6) (.c (.bool true)) (.t 9)⟩, ⟨(some 11), none, .mov (.t 10)⟩, ⟨(some 12), (some (11, false)), .faddr 2 (.t 1)⟩, ⟨(some 13), (some (11, false)), .load false 1 (.t 12)⟩, ⟨(some 14), (some (11, false)), .bi (.len 1) [(.t 13)]⟩, ⟨(some 15), (some (11, false)), .bin .lss (.t 14) (.c (.int .i64 1))⟩, ⟨(some 16), none, .pick (.t 11) (.c (.bool true)) (.t 15)⟩, ⟨(some 17), none, .mov (.t 16)⟩, ⟨(some 18), (some (17, false)), .faddr 2 (.t 1)⟩, ⟨(some 19), (some (17, false)), .load false 1 (.t 18)⟩, ⟨(some 20), (some (17, false)), .bi (.len 1) [(.t 19)]⟩, ⟨(some 21), (some (17, false)), .bin .gtr (.t 20) (.c (.int .i64 4))⟩, ⟨(some 22), none, .pick (.t 17) (.c (.bool true)) (.t 21)⟩])
 (.cond (.t 22) (.seq (.ops [⟨(some 2), none, .mov (.c (.bool false))⟩])
 .ret) .skip))
 (.seq (.seq (.ops [⟨(some 23), none, .faddr 1 (.t 1)⟩, ⟨(some 24), none, .load false 1 (.t 23)⟩])
 (.block 0 (.seq (.ops [⟨(some 26), none, .bin .eql (.t 24) (.c (.int .i64 0))⟩, ⟨(some 25), none, .mov (.t 26)⟩])
 (.cond (.t 25) (.seq (.ops [⟨(some 27), none, .faddr 2 (.t 1)⟩, ⟨(some 28), none, .load false 1 (.t 27)⟩, ⟨(some 29), none, .bi (.len 1) [(.t 28)]⟩, ⟨(some 30), none, .bin .eql (.t 29) (.c (.int .i64 1))⟩, ⟨(some 31), none, .mov (.t 30)⟩, ⟨(some 32), (some (31, true)), .faddr 2 (.t 1)⟩, ⟨(some 33), (some (31, true)), .load false 1 (.t 32)⟩, ⟨(some 34), (some (31, true)), .iaddr 1 none (.t 33) (.c (.int .i64 0))⟩, ⟨(some 35), (some (31, true)), .load false 1 (.t 34)⟩, ⟨(some 36), (some (31, true)), .bi (.len 1) [(.t 35)]⟩, ⟨(some 37), (some (31, true)), .bin .eql (.t 36) (.c (.int .i64 1))⟩, ⟨(some 38), none, .pick (.t 31) (.t 37) (.c (.bool false))⟩, ⟨(some 39), none, .mov (.t 38)⟩, ⟨(some 40), (some (39, true)), .faddr 2 (.t 1)⟩, ⟨(some 41), (some (39, true)), .load false 1 (.t 40)⟩, ⟨(some 42), (some (39, true)), .iaddr 1 none (.t 41) (.c (.int .i64 0))⟩, ⟨(some 43), (some (39, true)), .load false 1 (.t 42)⟩, ⟨(some 44), (some (39, true)), .iaddr 2 none (.t 43) (.c (.int .i64 0))⟩, ⟨(some 45), (some (39, true)), .load true 2 (.t 44)⟩, ⟨(some 46), (some (39, true)), .call 126 [(.t 45)]⟩, ⟨(some 47), none, .pick (.t 39) (.t 46) (.c (.bool false))⟩, ⟨(some 2), none, .mov (.t 47)⟩])
 .ret) (.seq (.ops [⟨(some 49), none, .bin .eql (.t 24) (.c (.int .i64 1))⟩, ⟨(some 48), none, .mov (.t 49)⟩])
 (.cond (.t 48) (.seq (.ops [⟨(some 50), none, .faddr 2 (.t 1)⟩, ⟨(some 51), none, .load false 1 (.t 50)⟩, ⟨(some 52), none, .bi (.len 1) [(.t 51)]⟩, ⟨(some 53), none, .bin .eql (.t 52) (.c (.int .i64 1))⟩, ⟨(some 54), none, .mov (.t 53)⟩, ⟨(some 55), (some (54, true)), .faddr 2 (.t 1)⟩, ⟨(some 56), (some (54, true)), .load false 1 (.t 55)⟩, ⟨(some 57), (some (54, true)), .iaddr 1 none (.t 56) (.c (.int .i64 0))⟩, ⟨(some 58), (some (54, true)), .load false 1 (.t 57)⟩, ⟨(some 59), (some (54, true)), .call 127 [(.t 58), (.c (.int .i64 2)), (.c (.bool false))]⟩, ⟨(some 60), none, .pick (.t 54) (.t 59) (.c (.bool false))⟩, ⟨(some 2), none, .mov (.t 60)⟩])
 .ret) (.seq (.ops [⟨(some 62), none, .bin .eql (.t 24) (.c (.int .i64 2))⟩, ⟨(some 61), none, .mov (.t 62)⟩])
 (.cond (.t 61) (.seq (.ops [⟨(some 63), none, .faddr 2 (.t 1)⟩, ⟨(some 64), none, .load false 1 (.t 63)⟩, ⟨(some 65), none, .call 128 [(.t 64), (.c (.fn 129 []))]⟩, ⟨(some 66), none, .un .not (.t 65)⟩, ⟨(some 2), none, .mov (.t 66)⟩])
 .ret) .skip))))))))
 (.seq (.ops [⟨(some 2), none, .mov (.c (.bool false))⟩])
 .ret))))⟩
/-- furlong/rec.noFeature -/
def v120 : VFun := ⟨1, [(.tmp 2)], (.seq (.ops [⟨(some 2), none, .mov (.c (.bool false))⟩])
 (.seq (.ops [⟨(some 3), none, .mov (.t 0)⟩, ⟨(some 4), none, .nilck (.t 3)⟩, ⟨(some 5), none, .faddr 0 (.t 4)⟩, ⟨(some 6), none, .load false 1 (.t 5)⟩, ⟨(some 7), none, .bin .eql (.t 6) (.c (.int .i64 0))⟩, ⟨(some 8), none, .mov (.t 7)⟩, ⟨(some 9), (some (8, true)), .mov (.t 0)⟩, ⟨(some 10), (some (8, true)), .nilck (.t 9)⟩, ⟨(some 11), (some (8, true)), .faddr 1 (.t 10)⟩, ⟨(some 12), (some (8, true)), .load false 1 (.t 11)⟩, ⟨(some 13), (some (8, true)), .bin .eql (.t 12) (.c (.int .i64 0))⟩, ⟨(some 14), none, .pick (.t 8) (.t 13) (.c (.bool false))⟩, ⟨(some 15), none, .mov (.t 14)⟩, ⟨(some 16), (some (15, true)), .mov (.t 0)⟩, ⟨(some 17), (some (15, true)), .nilck (.t 16)⟩, ⟨(some 18), (some (15, true)), .faddr 2 (.t 17)⟩, ⟨(some 19), (some (15, true)), .load false 1 (.t 18)⟩, ⟨(some 20), (some (15, true)), .bi (.len 1) [(.t 19)]⟩, ⟨(some 21), (some (15, true)), .bin .eql (.t 20) (.c (.int .i64 0))⟩, ⟨(some 22), none, .pick (.t 15) (.t 21) (.c (.bool false))⟩, ⟨(some 2), none, .mov (.t 22)⟩])
 .ret))⟩
/-- furlong/geom.coord -/
def v122 : VFun := ⟨1, [(.tmp 2)], (.seq (.ops [⟨(some 2), none, .mov (.c (.bool false))⟩])
 (.seq (.ops [⟨(some 3), none, .mov (.t 0)⟩, ⟨(some 4), none, .bin .geq (.t 3) (.c (.int .i64 0))⟩, ⟨(some 5), none, .mov (.t 4)⟩, ⟨(some 6), (some (5, true)), .mov (.t 0)⟩, ⟨(some 7), (some (5, true)), .bin .leq (.t 6) (.c (.int .i64 4294967295))⟩, ⟨(some 8), none, .pick (.t 5) (.t 7) (.c (.bool false))⟩, ⟨(some 2), none, .mov (.t 8)⟩])
 .ret))⟩
/-- slices.Clone[[]furlong/api.Point,furlong/api.Point] -/
def v124 : VFun := ⟨1, [(.tmp 2)], (.seq (.ops [⟨(some 2), none, .mov (.c .nils)⟩])
 (.seq (.seq (.ops [⟨(some 3), none, .mov (.t 0)⟩, ⟨(some 4), none, .eqs .sl false (.t 3) (.c .nils)⟩])
 (.cond (.t 4) (.seq (.ops [⟨(some 2), none, .mov (.c .nils)⟩])
 .ret) .skip))
 (.seq (.ops [⟨(some 5), none, .bslice [(.int .i64 0), (.int .i64 0)] 48 0 []⟩, ⟨(some 6), none, .mov (.t 0)⟩, ⟨(some 7), none, .bi (.append 2 16 48) [(.t 5), (.t 6)]⟩, ⟨(some 2), none, .mov (.t 7)⟩])
 .ret)))⟩
/-- slices.Clone[[]int,int] -/
def v125 : VFun := ⟨1, [(.tmp 2)], (.seq (.ops [⟨(some 2), none, .mov (.c .nils)⟩])
 (.seq (.seq (.ops [⟨(some 3), none, .mov (.t 0)⟩, ⟨(some 4), none, .eqs .sl false (.t 3) (.c .nils)⟩])
 (.cond (.t 4) (.seq (.ops [⟨(some 2), none, .mov (.c .nils)⟩])
 .ret) .skip))
 (.seq (.ops [⟨(some 5), none, .bslice [(.int .i64 0)] 3 0 []⟩, ⟨(some 6), none, .mov (.t 0)⟩, ⟨(some 7), none, .bi (.append 1 8 3) [(.t 5), (.t 6)]⟩, ⟨(some 2), none, .mov (.t 7)⟩])
 .ret)))⟩
/-- furlong/geom.PointMay -/
def v126 : VFun := ⟨1, [(.tmp 2)], (.seq (.ops [⟨(some 1), none, .box 48 (.t 0)⟩, ⟨(some 2), none, .mov (.c (.bool false))⟩])
 (.seq (.ops [⟨(some 3), none, .faddr 0 (.t 1)⟩, ⟨(some 4), none, .load false 1 (.t 3)⟩, ⟨(some 5), none, .call 122 [(.t 4)]⟩, ⟨(some 6), none, .mov (.t 5)⟩, ⟨(some 7), (some (6, true)), .faddr 1 (.t 1)⟩, ⟨(some 8), (some (6, true)), .load false 1 (.t 7)⟩, ⟨(some 9), (some (6, true)), .call 122 [(.t 8)]⟩, ⟨(some 10), none, .pick (.t 6) (.t 9) (.c (.bool false))⟩, ⟨(some 2), none, .mov (.t 10)⟩])
 .ret))⟩
def b127_0 : VCode := (.seq (.ops [⟨(some 22), none, .bin .lss (.t 21) (.t 20)⟩])
 (.seq (.cond (.t 22) .skip (.exit 0))
 (.seq (.block 1 (.seq (.ops [⟨(some 23), none, .mov (.t 21)⟩, ⟨(some 24), none, .iaddr 2 none (.t 19) (.t 21)⟩, ⟨(some 25), none, .load true 2 (.t 24)⟩, ⟨(some 8), none, .alloc [(.int .i64 0), (.int .i64 0)] 48⟩, ⟨(some 7), none, .mov (.t 23)⟩, ⟨none, none, .store 2 (.t 8) (.t 25)⟩])
 (.seq (.ops [⟨(some 26), none, .mov (.t 7)⟩, ⟨(some 27), none, .bin .add (.t 26) (.c (.int .i64 1))⟩, ⟨(some 9), none, .mov (.t 27)⟩])
 (.seq (.seq (.ops [⟨(some 28), none, .mov (.t 9)⟩, ⟨(some 29), none, .mov (.t 0)⟩, ⟨(some 30), none, .bi (.len 1) [(.t 29)]⟩, ⟨(some 31), none, .bin .eql (.t 28) (.t 30)⟩])
 (.cond (.t 31) (.ops [⟨(some 9), none, .mov (.c (.int .i64 0))⟩]) .skip))
 (.seq (.drawn [⟨(some 32), none, .load true 2 (.t 8)⟩, ⟨(some 33), none, .call 126 [(.t 32)]⟩, ⟨(some 34), none, .un .not (.t 33)⟩, ⟨(some 35), none, .mov (.t 34)⟩, ⟨(some 36), (some (35, false)), .mov (.t 9)⟩, ⟨(some 37), (some (35, false)), .bin .gtr (.t 36) (.c (.int .i64 0))⟩, ⟨(some 38), (some (35, false)), .mov (.t 37)⟩, ⟨(some 39), (some (38, false)), .mov (.t 2)⟩, ⟨(some 40), (some (35, false)), .pick (.t 38) (.c (.bool true)) (.t 39)⟩, ⟨(some 41), (some (35, false)), .mov (.t 40)⟩, ⟨(some 42), (some (41, true)), .load true 2 (.t 8)⟩, ⟨(some 43), (some (41, true)), .mov (.t 0)⟩, ⟨(some 44), (some (41, true)), .mov (.t 9)⟩, ⟨(some 45), (some (41, true)), .iaddr 2 none (.t 43) (.t 44)⟩, ⟨(some 46), (some (41, true)), .load true 2 (.t 45)⟩, ⟨(some 47), (some (41, true)), .eqs (.flat [.int, .int]) false (.t 42) (.t 46)⟩, ⟨(some 48), (some (35, false)), .pick (.t 41) (.t 47) (.c (.bool false))⟩, ⟨(some 49), none, .pick (.t 35) (.c (.bool true)) (.t 48)⟩] [])
 (.cond (.t 49) (.seq (.ops [⟨(some 6), none, .mov (.c (.bool false))⟩])
 .ret) .skip))))))
 (.ops [⟨(some 50), none, .bin .add (.t 21) (.c (.int .i64 1))⟩, ⟨(some 21), none, .mov (.t 50)⟩]))))
/-- furlong/shape.ring -/
def v127 : VFun := ⟨3, [(.tmp 6)], (.seq (.ops [⟨(some 6), none, .mov (.c (.bool false))⟩])
 (.seq (.seq (.ops [⟨(some 10), none, .mov (.t 0)⟩, ⟨(some 11), none, .bi (.len 1) [(.t 10)]⟩, ⟨(some 12), none, .mov (.t 1)⟩, ⟨(some 13), none, .bin .lss (.t 11) (.t 12)⟩, ⟨(some 14), none, .mov (.t 13)⟩, ⟨(some 15), (some (14, false)), .mov (.t 0)⟩, ⟨(some 16), (some (14, false)), .bi (.len 1) [(.t 15)]⟩, ⟨(some 17), (some (14, false)), .bin .gtr (.t 16) (.c (.int .i64 16))⟩, ⟨(some 18), none, .pick (.t 14) (.c (.bool true)) (.t 17)⟩])
 (.cond (.t 18) (.seq (.ops [⟨(some 6), none, .mov (.c (.bool false))⟩])
 .ret) .skip))
 (.seq (.seq (.ops [⟨(some 19), none, .mov (.t 0)⟩, ⟨(some 20), none, .bi (.len 1) [(.t 19)]⟩, ⟨(some 21), none, .mov (.c (.int .i64 0))⟩])
 (.block 0 (.loop b127_0)))
 (.seq (.ops [⟨(some 6), none, .mov (.c (.bool true))⟩])
 .ret))))⟩
/-- slices.ContainsFunc[[][]furlong/api.Point,[]furlong/api.Point] -/
def v128 : VFun := ⟨2, [(.tmp 4)], (.seq (.ops [⟨(some 4), none, .mov (.c (.bool false))⟩])
 (.seq (.ops [⟨(some 5), none, .mov (.t 0)⟩, ⟨(some 6), none, .mov (.t 1)⟩, ⟨(some 7), none, .call 130 [(.t 5), (.t 6)]⟩, ⟨(some 8), none, .bin .geq (.t 7) (.c (.int .i64 0))⟩, ⟨(some 4), none, .mov (.t 8)⟩])
 .ret))⟩
/-- furlong/shape.May$1 -/
def v129 : VFun := ⟨1, [(.tmp 2)], (.seq (.ops [⟨(some 2), none, .mov (.c (.bool false))⟩])
 (.seq (.ops [⟨(some 3), none, .mov (.t 0)⟩, ⟨(some 4), none, .call 127 [(.t 3), (.c (.int .i64 3)), (.c (.bool true))]⟩, ⟨(some 5), none, .un .not (.t 4)⟩, ⟨(some 2), none, .mov (.t 5)⟩])
 .ret))⟩
def b130_0 : VCode := (.seq (.ops [⟨(some 9), none, .bin .lss (.t 8) (.t 7)⟩])
 (.seq (.cond (.t 9) .skip (.exit 0))
 (.seq (.block 1 (.seq (.ops [⟨(some 10), none, .mov (.t 8)⟩, ⟨(some 5), none, .mov (.t 10)⟩])
 (.seq (.ops [⟨(some 11), none, .mov (.t 1)⟩, ⟨(some 12), none, .mov (.t 0)⟩, ⟨(some 13), none, .mov (.t 5)⟩, ⟨(some 14), none, .iaddr 1 none (.t 12) (.t 13)⟩, ⟨(some 15), none, .load false 1 (.t 14)⟩, ⟨(some 16), none, .callv (.t 11) [(.t 15)]⟩])
 (.cond (.t 16) (.seq (.ops [⟨(some 17), none, .mov (.t 5)⟩, ⟨(some 4), none, .mov (.t 17)⟩])
 .ret) .skip))))
 (.ops [⟨(some 18), none, .bin .add (.t 8) (.c (.int .i64 1))⟩, ⟨(some 8), none, .mov (.t 18)⟩]))))
/-- slices.IndexFunc[[][]furlong/api.Point,[]furlong/api.Point] -/
def v130 : VFun := ⟨2, [(.tmp 4)], (.seq (.ops [⟨(some 4), none, .mov (.c (.int .i64 0))⟩])
 (.seq (.seq (.ops [⟨(some 6), none, .mov (.t 0)⟩, ⟨(some 7), none, .bi (.len 1) [(.t 6)]⟩, ⟨(some 8), none, .mov (.c (.int .i64 0))⟩])
 (.block 0 (.loop b130_0)))
 (.seq (.ops [⟨(some 4), none, .mov (.c (.int .i64 (-1)))⟩])
 .ret)))⟩
def tab : Nat → Option VFun := tableOf [(11, v11), (19, v19), (25, v25), (29, v29), (32, v32), (34, v34), (35, v35), (37, v37), (39, v39), (41, v41), (42, v42), (43, v43), (46, v46), (47, v47), (48, v48), (49, v49), (50, v50), (67, v67), (68, v68), (71, v71), (72, v72), (73, v73), (77, v77), (81, v81), (82, v82), (83, v83), (84, v84), (85, v85), (86, v86), (87, v87), (88, v88), (89, v89), (96, v96), (97, v97), (98, v98), (99, v99), (100, v100), (101, v101), (105, v105), (106, v106), (107, v107), (108, v108), (111, v111), (112, v112), (116, v116), (117, v117), (118, v118), (119, v119), (120, v120), (122, v122), (124, v124), (125, v125), (126, v126), (127, v127), (128, v128), (129, v129), (130, v130)]
end Go.Proofs.Ytinonmcnofjeeaa.VM
namespace Go.Proofs.Ytinonmcnofjeeaa.VM
attribute [local irreducible] Af Nx EvO Ev Un Gd Cd EvR EvQ EvC Nc Gc Lp EvM NxM AfM GdM EvMR EvMQ EvMD EvMC Nm Gm
section
variable {P : Program}
theorem nameMay_pu (g : Pg P tab) (a b : Int) : Pu P 84 [.agg [.int .i64 a, .int .i64 b]] (fun v => v = .bool (decide (0 ≤ a ∧ a < 8 ∧ 1 ≤ b ∧ b ≤ 65535))) := by
  refine g.pu (vf := v84) rfl rfl ?_
  simp +contextual (maxSteps := 2000000) (disch := omega) only [v84, RX, VOp.fresh, bxC, bsC, un, most, callsOf, seval, Int.reducePow, ↓reduceIte, Nat.reduceEqDiff, reduceCtorEq]
theorem baseMay_pu (g : Pg P tab) (a : Int) : Pu P 86 [.int .i64 a] (fun v => v = .bool (decide (-1 ≤ a ∧ a ≤ 65535))) := by
  refine g.pu (vf := v86) rfl rfl ?_
  simp +contextual (maxSteps := 2000000) (disch := omega) only [v86, RX, VOp.fresh, bxC, bsC, un, most, callsOf, seval, Int.reducePow, ↓reduceIte, Nat.reduceEqDiff, reduceCtorEq]
def coordOk (x : Int) : Prop := 0 ≤ x ∧ x ≤ 4294967295
instance (x : Int) : Decidable (coordOk x) := by unfold coordOk; infer_instance
def ptOk (p : Pt) : Prop := coordOk p.x ∧ coordOk p.y
instance (p : Pt) : Decidable (ptOk p) := by unfold ptOk; infer_instance
theorem coord_pu (g : Pg P tab) (a : Int) : Pu P 122 [.int .i64 a] (fun v => v = .bool (decide (coordOk a))) := by
  refine g.pu (vf := v122) rfl rfl ?_
  simp +contextual (maxSteps := 2000000) (disch := omega) only [v122, coordOk, RX, VOp.fresh, bxC, bsC, un, most, callsOf, seval, Int.reducePow, ↓reduceIte, Nat.reduceEqDiff, reduceCtorEq]
theorem pointMay_pu (g : Pg P tab) (p : Pt) : Pu P 126 [.agg [.int .i64 p.x, .int .i64 p.y]] (fun v => v = .bool (decide (ptOk p))) := by
  refine g.pu (vf := v126) rfl rfl ?_
  simp +contextual (maxSteps := 2000000) (disch := omega) only [v126, RX, VOp.fresh, bxC, bsC, un, most, callsOf, seval, Int.reducePow, ↓reduceIte, Nat.reduceEqDiff, reduceCtorEq]
  refine (coord_pu g _).go rfl ?_
  rintro v rfl
  simp +contextual (maxSteps := 2000000) (disch := omega) only [RX, VOp.fresh, bxC, bsC, un, most, callsOf, seval, Int.reducePow, ↓reduceIte, Nat.reduceEqDiff, reduceCtorEq]
  refine ⟨fun h1 => ?_, fun h1 => ?_⟩
  · refine (coord_pu g _).go rfl ?_
    rintro v rfl
    simp +contextual (maxSteps := 2000000) (disch := omega) only [h1, ptOk, RX, VOp.fresh, bxC, bsC, un, most, callsOf, seval, Int.reducePow, ↓reduceIte, Nat.reduceEqDiff, reduceCtorEq]
  · simp +contextual (maxSteps := 2000000) (disch := omega) only [h1, ptOk, RX, VOp.fresh, bxC, bsC, un, most, callsOf, seval, Int.reducePow, ↓reduceIte, Nat.reduceEqDiff, reduceCtorEq]
def mpZero (m : Mp) : Prop := m.epoch = 0 ∧ m.starts = [] ∧ m.owners = []
theorem len0 {α : Type} {l : List α} : ((l.length : Int) = 0) = (l = []) := by
  rw [eq_iff_iff]; cases l <;> simp <;> omega
theorem noMap_pu (g : Pg P tab) {m : Mp} {v u : AV} (hv : IsL 8 RInt v m.starts) (hu : IsL 8 RInt u m.owners) (r : List AV) : Pu P 88 [.rp (.int .i64 m.epoch :: v :: u :: r)] (IsB (mpZero m)) := by
  refine g.pu (vf := v88) rfl rfl ?_
  simp +contextual (maxSteps := 2000000) (disch := omega) only [v88, hv.len, hu.len, mpZero, len0, RX, VOp.fresh, bxC, bsC, un, most, callsOf, seval, Int.reducePow, ↓reduceIte, Nat.reduceEqDiff, reduceCtorEq]
def ftZero (f : Feat) : Prop := f.id = 0 ∧ f.shape = 0 ∧ f.rings = []
theorem noFeature_pu (g : Pg P tab) {f : Feat} {v : AV} (hv : IsL 24 RRing v f.rings) (r : List AV) : Pu P 120 [.rp (.int .i64 f.id :: .int .i64 f.shape :: v :: r)] (IsB (ftZero f)) := by
  refine g.pu (vf := v120) rfl rfl ?_
  simp +contextual (maxSteps := 2000000) (disch := omega) only [v120, hv.len, ftZero, len0, RX, VOp.fresh, bxC, bsC, un, most, callsOf, seval, Int.reducePow, ↓reduceIte, Nat.reduceEqDiff, reduceCtorEq]
def mpAt (nodes : Int) (m : Mp) (i : Nat) : Prop := m.starts.getD i 0 < 4294967296 ∧ (i = 0 ∨ m.starts.getD (i - 1) 0 < m.starts.getD i 0) ∧ 0 ≤ m.owners.getD i 0 ∧ m.owners.getD i 0 < nodes
def mpOk (nodes : Int) (m : Mp) : Prop := 1 ≤ nodes ∧ nodes ≤ 8 ∧ 1 ≤ m.epoch ∧ m.epoch ≤ 65535 ∧ 1 ≤ m.starts.length ∧ m.starts.length ≤ 32 ∧ m.owners.length = m.starts.length ∧ m.starts.getD 0 0 = 0 ∧ ∀ i, i < m.starts.length → mpAt nodes m i
theorem getInt {v : AV} {l : List Int} (h : IsL 8 RInt v l) (i : Nat) (hi : i < l.length) : ∃ r, AV.tolds r = true ∧ ∀ (hh : Heap) (kk : IntKind), iaV hh 1 none v (.int kk (i : Int)) = .val (.rp (.int .i64 (l.getD i 0) :: r)) hh := by
  obtain ⟨ci, r, ⟨e, _⟩, ht, hia⟩ := h.get zInt tInt i hi
  have : l.getD i 0 = l[i] := by simp [List.getD_eq_getElem?_getD, List.getElem?_eq_getElem hi]
  refine ⟨r, ?_, fun hh kk => ?_⟩
  · rw [e] at ht; exact ht
  · rw [hia, e, this]; rfl
theorem mapMay_loop (g : Pg P tab) {nodes : Int} {m : Mp} {v u : AV} (hv : IsL 8 RInt v m.starts) (hu : IsL 8 RInt u m.owners) (hl : m.owners.length = m.starts.length) (hh : Heap) {e : TypeId} {ver : Nat} (hg : hh.get 0 = some (.cells [.int .i64 m.epoch, v, u] e ver)) (n : Nat) :
    ∀ (i : Nat) (s : T AV) (k : List Fr) (Q : Ex → T AV → Heap → Prop), i + n = m.starts.length → sg s 1 = .int .i64 nodes → sg s 2 = .ptr 0 0 → sg s 52 = v → sg s 53 = .int .i64 m.starts.length → sg s 54 = .int .i64 i →
      ((∀ j, i ≤ j → j < m.starts.length → mpAt nodes m j) → ∀ s', Un P k Q (.exit 0) s' hh) → ((¬ ∀ j, i ≤ j → j < m.starts.length → mpAt nodes m j) → ∀ s', sg s' 4 = .bool false → Un P k Q .ret s' hh) → Lp P b85_0 s hh (Un P k Q) := by
  have hb := hv.bound (by decide)
  induction n with
  | zero =>
    intro i s k Q hi h1 h2 h52 h53 h54 hK hR
    refine g.lpe b85_0.eq_1 ?_
    have c1 : ¬ ((i : Int) < (m.starts.length : Int)) := by omega
    simp only [h54, h53, c1, RX, VOp.fresh, bxC, bsC, un, most, callsOf, seval, Int.reducePow, ↓reduceIte, Nat.reduceEqDiff, reduceCtorEq]
    exact hK (fun j h1 h2 => by omega) _
  | succ n ih =>
    intro i s k Q hi h1 h2 h52 h53 h54 hK hR
    refine g.lpe b85_0.eq_1 ?_
    have c1 : (i : Int) < (m.starts.length : Int) := by omega
    obtain ⟨r1, _, g1⟩ := getInt hv i (by omega)
    obtain ⟨r2, _, g2⟩ := getInt hu i (by omega)
    have w1 : IntKind.i64.wrap ((i : Int) + 1) = ((i + 1 : Nat) : Int) := by rw [w64 (by omega) (by omega)]; push_cast; rfl
    have next : mpAt nodes m i → ∀ s' : T AV, sg s' 1 = .int .i64 nodes → sg s' 2 = .ptr 0 0 → sg s' 52 = v → sg s' 53 = .int .i64 m.starts.length → sg s' 54 = .int .i64 ((i + 1 : Nat) : Int) → Lp P b85_0 s' hh (Un P k Q) := by
      intro hok s' a1 a2 a3 a4 a5
      refine ih (i + 1) s' k Q (by omega) a1 a2 a3 a4 a5 (fun hall => hK fun j h1 h2 => ?_) (fun hn => hR fun hall => hn fun j h1 h2 => hall j (by omega) h2)
      rcases Nat.lt_or_ge i j with h | h
      · exact hall j h h2
      · have : j = i := by omega
        subst this; exact hok
    have stop : ¬ mpAt nodes m i → ∀ s' : T AV, sg s' 4 = .bool false → Un P k Q .ret s' hh := fun hn => hR fun hall => hn (hall i (Nat.le_refl _) (by omega))
    by_cases hi0 : i = 0
    · have c2 : ¬ ((0 : Int) < (i : Int)) := by omega
      simp +contextual (maxSteps := 2000000) only [h1, h2, h52, h53, h54, c1, g1, g2, hg, w1, c2, RX, VOp.fresh, bxC, bsC, un, most, callsOf, seval, Int.reducePow, ↓reduceIte, Nat.reduceEqDiff, reduceCtorEq]
      repeat' (first | apply And.intro | intro _)
      all_goals first
        | (refine next ⟨by omega, by omega, by omega, by omega⟩ _ ?_ ?_ ?_ ?_ ?_ <;> simp only [h1, h2, h52, h53, sg_set, Nat.reduceEqDiff, ↓reduceIte]; done)
        | (refine stop (fun hok => ?_) _ (by simp only [sg_set, Nat.reduceEqDiff, ↓reduceIte]); obtain ⟨a1, a2, a3, a4⟩ := hok; omega)
    · have c2 : (0 : Int) < (i : Int) := by omega
      obtain ⟨r3, _, g3⟩ := getInt hv (i - 1) (by omega)
      have w2 : IntKind.i64.wrap ((i : Int) - 1) = ((i - 1 : Nat) : Int) := by rw [w64 (by omega) (by omega)]; omega
      simp +contextual (maxSteps := 2000000) only [h1, h2, h52, h53, h54, c1, g1, g2, g3, hg, w1, w2, c2, RX, VOp.fresh, bxC, bsC, un, most, callsOf, seval, Int.reducePow, ↓reduceIte, Nat.reduceEqDiff, reduceCtorEq]
      repeat' (first | apply And.intro | intro _)
      all_goals first
        | (refine next ⟨by omega, by omega, by omega, by omega⟩ _ ?_ ?_ ?_ ?_ ?_ <;> simp only [h1, h2, h52, h53, sg_set, Nat.reduceEqDiff, ↓reduceIte]; done)
        | (refine stop (fun hok => ?_) _ (by simp only [sg_set, Nat.reduceEqDiff, ↓reduceIte]); obtain ⟨a1, a2, a3, a4⟩ := hok; omega)
theorem mapMay_pu (g : Pg P tab) {nodes : Int} {m : Mp} {v u : AV} (hv : IsL 8 RInt v m.starts) (hu : IsL 8 RInt u m.owners) : Pu P 85 [.agg [.int .i64 m.epoch, v, u], .int .i64 nodes] (IsB (mpOk nodes m)) := by
  refine g.pu (vf := v85) rfl rfl ?_
  have hb := hv.bound (by decide)
  by_cases h0 : 0 < m.starts.length
  · obtain ⟨r1, _, g1⟩ := getInt hv 0 h0
    simp only [Int.natCast_zero, Int.ofNat_zero, Int.ofNat_eq_natCast] at g1
    simp +contextual (maxSteps := 2000000) only [v85, hv.len, hu.len, g1, RX, VOp.fresh, bxC, bsC, un, most, callsOf, seval, Int.reducePow, ↓reduceIte, Nat.reduceEqDiff, reduceCtorEq]
    repeat' (first | apply And.intro | intro _)
    all_goals first
      | (rename_i hok; unfold mpOk at hok; omega)
      | skip
    refine mapMay_loop (nodes := nodes) g hv hu (by omega) _ (e := 26) (ver := 0) ?_ m.starts.length 0 _ _ _ (by omega) ?_ ?_ ?_ ?_ ?_ ?_ ?_
    · rw [Heap.get_mk, if_pos rfl]
    · simp only [sg_set, Nat.reduceEqDiff, ↓reduceIte]
    · simp only [sg_set, Nat.reduceEqDiff, ↓reduceIte]
    · simp only [sg_set, Nat.reduceEqDiff, ↓reduceIte]
    · simp only [sg_set, Nat.reduceEqDiff, ↓reduceIte]
    · simp only [sg_set, Nat.reduceEqDiff, ↓reduceIte]
      rfl
    · intro hall s'
      simp +contextual (maxSteps := 2000000) only [RX, VOp.fresh, bxC, bsC, un, most, callsOf, seval, Int.reducePow, ↓reduceIte, Nat.reduceEqDiff, reduceCtorEq]
      unfold mpOk
      exact ⟨by omega, by omega, by omega, by omega, by omega, by omega, by omega, by omega, fun i hi => hall i (by omega) hi⟩
    · intro hn s' h4
      simp +contextual (maxSteps := 2000000) only [h4, RX, VOp.fresh, bxC, bsC, un, most, callsOf, seval, Int.reducePow, ↓reduceIte, Nat.reduceEqDiff, reduceCtorEq]
      intro hok
      exact hn fun j _ hj => hok.2.2.2.2.2.2.2.2 j hj
  · have e0 : m.starts.length = 0 := by omega
    have c1 : ((m.starts.length : Int) < 1) := by omega
    simp +contextual (maxSteps := 2000000) only [v85, hv.len, hu.len, c1, RX, VOp.fresh, bxC, bsC, un, most, callsOf, seval, Int.reducePow, ↓reduceIte, Nat.reduceEqDiff, reduceCtorEq]
    repeat' (first | apply And.intro | intro _)
    all_goals (rename_i hok; unfold mpOk at hok; omega)
def nxt (n i : Nat) : Nat := if i + 1 = n then 0 else i + 1
def ringAt (closed : Bool) (r : List Pt) (i : Nat) : Prop := ptOk (r.getD i ⟨0, 0⟩) ∧ ((0 < nxt r.length i ∨ closed = true) → r.getD i ⟨0, 0⟩ ≠ r.getD (nxt r.length i) ⟨0, 0⟩)
def ringOk (least : Int) (closed : Bool) (r : List Pt) : Prop := least ≤ r.length ∧ r.length ≤ 16 ∧ ∀ i, i < r.length → ringAt closed r i
theorem getPt {v : AV} {l : List Pt} (h : IsL 16 RPt v l) (i : Nat) (hi : i < l.length) : ∃ r, AV.tolds r = true ∧ ∀ (hh : Heap) (kk : IntKind), iaV hh 2 none v (.int kk (i : Int)) = .val (.rp (.int .i64 (l.getD i ⟨0, 0⟩).x :: .int .i64 (l.getD i ⟨0, 0⟩).y :: r)) hh := by
  obtain ⟨ci, r, ⟨e, _⟩, ht, hia⟩ := h.get zPt tPt i hi
  have : l.getD i ⟨0, 0⟩ = l[i] := by simp [List.getD_eq_getElem?_getD, List.getElem?_eq_getElem hi]
  refine ⟨r, ?_, fun hh kk => ?_⟩
  · rw [e] at ht; exact ht
  · rw [hia, e, this]; rfl
theorem flat2 {a b c d : Int} : eqv (.flat [.int, .int]) (.agg [.int .i64 a, .int .i64 b]) (.agg [.int .i64 c, .int .i64 d]) = some (decide (a = c ∧ b = d)) := by
  simp only [eqv, List.length_cons, List.length_nil, and_self, if_true, sameCells, sameK]
  by_cases h : a = c <;> by_cases h' : b = d <;> simp [h, h', sameCells, sameK]
theorem pt_eq {p q : Pt} : (p.x = q.x ∧ p.y = q.y) = (p = q) := by
  rw [eq_iff_iff]; constructor
  · intro h; cases p; cases q; simp_all
  · rintro rfl; exact ⟨rfl, rfl⟩
theorem ring_loop (g : Pg P tab) {least : Int} {closed : Bool} {r : List Pt} {v : AV} (hv : IsL 16 RPt v r) (hr : r.length ≤ 16) (n : Nat) :
    ∀ (i : Nat) (s : T AV) (hh : Heap) (k : List Fr) (Q : Ex → T AV → Heap → Prop), i + n = r.length → sg s 0 = v → sg s 2 = .bool closed → sg s 19 = v → sg s 20 = .int .i64 r.length → sg s 21 = .int .i64 i →
      ((∀ j, i ≤ j → j < r.length → ringAt closed r j) → ∀ s' h', Un P k Q (.exit 0) s' h') → ((¬ ∀ j, i ≤ j → j < r.length → ringAt closed r j) → ∀ s' h', sg s' 6 = .bool false → Un P k Q .ret s' h') → Lp P b127_0 s hh (Un P k Q) := by
  induction n with
  | zero =>
    intro i s hh k Q hi h0 h2 h19 h20 h21 hK hR
    refine g.lpe b127_0.eq_1 ?_
    have c1 : ¬ ((i : Int) < (r.length : Int)) := by omega
    simp only [h21, h20, c1, RX, VOp.fresh, bxC, bsC, un, most, callsOf, seval, Int.reducePow, ↓reduceIte, Nat.reduceEqDiff, reduceCtorEq]
    exact hK (fun j h1 h2 => by omega) _ _
  | succ n ih =>
    intro i s hh k Q hi h0 h2 h19 h20 h21 hK hR
    refine g.lpe b127_0.eq_1 ?_
    have c1 : (i : Int) < (r.length : Int) := by omega
    obtain ⟨r1, _, g1⟩ := getPt hv i (by omega)
    have w1 : IntKind.i64.wrap ((i : Int) + 1) = ((i + 1 : Nat) : Int) := by rw [w64 (by omega) (by omega)]; push_cast; rfl
    have next : ringAt closed r i → ∀ (s' : T AV) (h' : Heap), sg s' 0 = v → sg s' 2 = .bool closed → sg s' 19 = v → sg s' 20 = .int .i64 r.length → sg s' 21 = .int .i64 ((i + 1 : Nat) : Int) → Lp P b127_0 s' h' (Un P k Q) := by
      intro hok s' h' a1 a2 a3 a4 a5
      refine ih (i + 1) s' h' k Q (by omega) a1 a2 a3 a4 a5 (fun hall => hK fun j h1 h2 => ?_) (fun hn => hR fun hall => hn fun j h1 h2 => hall j (by omega) h2)
      rcases Nat.lt_or_ge i j with h | h
      · exact hall j h h2
      · have : j = i := by omega
        subst this; exact hok
    have stop : ¬ ringAt closed r i → ∀ (s' : T AV) (h' : Heap), sg s' 6 = .bool false → Un P k Q .ret s' h' := fun hn => hR fun hall => hn (hall i (Nat.le_refl _) (by omega))
    have hpt := pointMay_pu g (r.getD i ⟨0, 0⟩)
    have hn : nxt r.length i = if i + 1 = r.length then 0 else i + 1 := rfl
    by_cases hl : i + 1 = r.length
    · have c2 : ((i + 1 : Nat) : Int) = (r.length : Int) := by omega
      rw [if_pos hl] at hn
      obtain ⟨r2, _, g2⟩ := getPt hv 0 (by omega)
      simp only [Int.natCast_zero, Int.ofNat_zero, Int.ofNat_eq_natCast] at g2
      simp +contextual (maxSteps := 2000000) only [RW, Bool.and_self, h0, h2, h19, h20, h21, c1, g1, hv.len, w1, c2, RX, VOp.fresh, bxC, bsC, un, most, callsOf, seval, Int.reducePow, ↓reduceIte, Nat.reduceEqDiff, reduceCtorEq]
      refine hpt.go rfl ?_
      rintro x rfl
      cases closed
      all_goals simp +contextual (maxSteps := 2000000) only [RW, Bool.and_self, h0, h2, h19, h20, h21, g2, w1, flat2, pt_eq, RX, VOp.fresh, bxC, bsC, un, most, callsOf, seval, Int.reducePow, ↓reduceIte, Nat.reduceEqDiff, reduceCtorEq]
      all_goals repeat' (first | apply And.intro | intro _)
      all_goals first
        | (refine next ⟨by assumption, ?_⟩ _ _ ?_ ?_ ?_ ?_ ?_ <;> first | (simp only [h0, h2, h19, h20, sg_set, Nat.reduceEqDiff, ↓reduceIte]; done) | (rw [hn]; simp_all; done))
        | (refine stop ?_ _ _ ?_ <;> first | (simp only [sg_set, Nat.reduceEqDiff, ↓reduceIte]; done) | (rintro ⟨a1, a2⟩; rw [hn] at a2; simp_all; done))
        | trace_state
    · have c2 : ¬ ((i + 1 : Nat) : Int) = (r.length : Int) := by omega
      rw [if_neg hl] at hn
      obtain ⟨r2, _, g2⟩ := getPt hv (i + 1) (by omega)
      have c3 : (0 : Int) < ((i + 1 : Nat) : Int) := by omega
      simp +contextual (maxSteps := 2000000) only [RW, Bool.and_self, h0, h2, h19, h20, h21, c1, g1, hv.len, w1, c2, RX, VOp.fresh, bxC, bsC, un, most, callsOf, seval, Int.reducePow, ↓reduceIte, Nat.reduceEqDiff, reduceCtorEq]
      refine hpt.go rfl ?_
      rintro x rfl
      cases closed
      all_goals simp +contextual (maxSteps := 2000000) only [RW, Bool.and_self, h0, h2, h19, h20, h21, g2, w1, flat2, pt_eq, c3, RX, VOp.fresh, bxC, bsC, un, most, callsOf, seval, Int.reducePow, ↓reduceIte, Nat.reduceEqDiff, reduceCtorEq]
      all_goals repeat' (first | apply And.intro | intro _)
      all_goals first
        | (refine next ⟨by assumption, ?_⟩ _ _ ?_ ?_ ?_ ?_ ?_ <;> first | (simp only [h0, h2, h19, h20, sg_set, Nat.reduceEqDiff, ↓reduceIte]; done) | (rw [hn]; simp_all; done))
        | (refine stop ?_ _ _ ?_ <;> first | (simp only [sg_set, Nat.reduceEqDiff, ↓reduceIte]; done) | (rintro ⟨a1, a2⟩; rw [hn] at a2; simp_all; done))
        | trace_state
theorem ring_pu (g : Pg P tab) {least : Int} {closed : Bool} {r : List Pt} {v : AV} (hv : IsL 16 RPt v r) : Pu P 127 [v, .int .i64 least, .bool closed] (IsB (ringOk least closed r)) := by
  refine g.pu (vf := v127) rfl rfl ?_
  simp +contextual (maxSteps := 2000000) only [v127, hv.len, RX, VOp.fresh, bxC, bsC, un, most, callsOf, seval, Int.reducePow, ↓reduceIte, Nat.reduceEqDiff, reduceCtorEq]
  repeat' (first | apply And.intro | intro _)
  all_goals first
    | (rename_i hok; unfold ringOk at hok; omega)
    | skip
  refine ring_loop g hv (least := least) (closed := closed) (by omega) r.length 0 _ _ _ _ (by omega) ?_ ?_ ?_ ?_ ?_ ?_ ?_
  · simp only [sg_set, Nat.reduceEqDiff, ↓reduceIte]
  · simp only [sg_set, Nat.reduceEqDiff, ↓reduceIte]
  · simp only [sg_set, Nat.reduceEqDiff, ↓reduceIte]
  · simp only [sg_set, Nat.reduceEqDiff, ↓reduceIte]
  · simp only [sg_set, Nat.reduceEqDiff, ↓reduceIte]
    rfl
  · intro hall s' h'
    simp +contextual (maxSteps := 2000000) only [RX, VOp.fresh, bxC, bsC, un, most, callsOf, seval, Int.reducePow, ↓reduceIte, Nat.reduceEqDiff, reduceCtorEq]
    exact ⟨by omega, by omega, fun i hi => hall i (by omega) hi⟩
  · intro hn s' h' h4
    simp +contextual (maxSteps := 2000000) only [h4, RX, VOp.fresh, bxC, bsC, un, most, callsOf, seval, Int.reducePow, ↓reduceIte, Nat.reduceEqDiff, reduceCtorEq]
    intro hok
    exact hn fun j _ hj => hok.2.2 j hj
theorem getRing {v : AV} {l : List (List Pt)} (h : IsL 24 RRing v l) (i : Nat) (hi : i < l.length) : ∃ rv r, IsL 16 RPt rv (l.getD i []) ∧ AV.tolds r = true ∧ ∀ (hh : Heap) (kk : IntKind), iaV hh 1 none v (.int kk (i : Int)) = .val (.rp (rv :: r)) hh := by
  obtain ⟨ci, r, ⟨rv, e, hr⟩, ht, hia⟩ := h.get zRing tRing i hi
  have : l.getD i [] = l[i] := by simp [List.getD_eq_getElem?_getD, List.getElem?_eq_getElem hi]
  refine ⟨rv, r, by rw [this]; exact hr, ?_, fun hh kk => ?_⟩
  · rw [e] at ht
    simp only [AV.tolds, List.cons_append, List.nil_append, Bool.and_eq_true] at ht
    exact ht.2
  · rw [hia, e]; rfl
theorem tolds1 {b : Nat} {α : Type} {R : α → List AV → Prop} {v : AV} {l : List α} (h : IsL b R v l) (ht : ∀ a c, R a c → AV.tolds c = true) : AV.tolds [v] = true := by
  simp [AV.tolds, h.told ht]
theorem mayRing_pu (g : Pg P tab) {r : List Pt} {v : AV} (hv : IsL 16 RPt v r) : Pu P 129 [v] (IsB (¬ ringOk 3 true r)) := by
  refine g.pu (vf := v129) rfl rfl ?_
  simp +contextual (maxSteps := 2000000) only [v129, RX, VOp.fresh, bxC, bsC, un, most, callsOf, seval, Int.reducePow, ↓reduceIte, Nat.reduceEqDiff, reduceCtorEq]
  refine (ring_pu g hv).go (by simp [AV.tolds, AV.told, hv.told tPt]) ?_
  rintro x ⟨b, rfl, hb⟩
  cases b <;> simp +contextual (maxSteps := 2000000) only [RX, VOp.fresh, bxC, bsC, un, most, callsOf, seval, Int.reducePow, ↓reduceIte, Nat.reduceEqDiff, reduceCtorEq] <;> simpa using hb
theorem indexFunc_loop (g : Pg P tab) {l : List (List Pt)} {v : AV} (hv : IsL 24 RRing v l) (n : Nat) :
    ∀ (i : Nat) (s : T AV) (hh : Heap) (k : List Fr) (Q : Ex → T AV → Heap → Prop), i + n = l.length → sg s 0 = v → sg s 1 = .fn 129 [] → sg s 7 = .int .i64 l.length → sg s 8 = .int .i64 i →
      ((∀ j, i ≤ j → j < l.length → ringOk 3 true (l.getD j [])) → ∀ s', Un P k Q (.exit 0) s' hh) → (∀ j, i ≤ j → j < l.length → ¬ ringOk 3 true (l.getD j []) → ∀ s', sg s' 4 = .int .i64 j → Un P k Q .ret s' hh) → Lp P b130_0 s hh (Un P k Q) := by
  have hb := hv.bound (by decide)
  induction n with
  | zero =>
    intro i s hh k Q hi h0 h1 h7 h8 hK hR
    refine g.lpe b130_0.eq_1 ?_
    have c1 : ¬ ((i : Int) < (l.length : Int)) := by omega
    simp only [h7, h8, c1, RX, VOp.fresh, bxC, bsC, un, most, callsOf, seval, Int.reducePow, ↓reduceIte, Nat.reduceEqDiff, reduceCtorEq]
    exact hK (fun j h1 h2 => by omega) _
  | succ n ih =>
    intro i s hh k Q hi h0 h1 h7 h8 hK hR
    refine g.lpe b130_0.eq_1 ?_
    have c1 : (i : Int) < (l.length : Int) := by omega
    obtain ⟨rv, r1, hrv, _, g1⟩ := getRing hv i (by omega)
    have w1 : IntKind.i64.wrap ((i : Int) + 1) = ((i + 1 : Nat) : Int) := by rw [w64 (by omega) (by omega)]; push_cast; rfl
    simp only [h0, h1, h7, h8, c1, g1, RX, VOp.fresh, bxC, bsC, un, most, callsOf, seval, Int.reducePow, ↓reduceIte, Nat.reduceEqDiff, reduceCtorEq]
    refine (mayRing_pu g hrv).go (tolds1 hrv tPt) ?_
    rintro x ⟨b, rfl, hbb⟩
    cases b
    · simp only [h8, w1, RX, VOp.fresh, bxC, bsC, un, most, callsOf, seval, Int.reducePow, ↓reduceIte, Nat.reduceEqDiff, reduceCtorEq]
      have hok : ringOk 3 true (l.getD i []) := by
        apply Classical.byContradiction
        intro hn
        exact absurd (hbb.2 hn) (by simp)
      refine ih (i + 1) _ hh k Q (by omega) ?_ ?_ ?_ ?_ (fun hall => hK fun j h1 h2 => ?_) (fun j h1 h2 => hR j (by omega) h2)
      · simp only [h0, sg_set, Nat.reduceEqDiff, ↓reduceIte]
      · simp only [h1, sg_set, Nat.reduceEqDiff, ↓reduceIte]
      · simp only [h7, sg_set, Nat.reduceEqDiff, ↓reduceIte]
      · simp only [sg_set, Nat.reduceEqDiff, ↓reduceIte]
      · rcases Nat.lt_or_ge i j with h | h
        · exact hall j h h2
        · have : j = i := by omega
          subst this; exact hok
    · simp only [h8, RX, VOp.fresh, bxC, bsC, un, most, callsOf, seval, Int.reducePow, ↓reduceIte, Nat.reduceEqDiff, reduceCtorEq]
      exact hR i (Nat.le_refl _) (by omega) (hbb.1 rfl) _ (by simp only [sg_set, Nat.reduceEqDiff, ↓reduceIte])
theorem indexFunc_pu (g : Pg P tab) {l : List (List Pt)} {v : AV} (hv : IsL 24 RRing v l) : Pu P 130 [v, .fn 129 []] (fun x => ∃ n : Int, x = .int .i64 n ∧ (0 ≤ n ↔ ¬ ∀ i, i < l.length → ringOk 3 true (l.getD i []))) := by
  refine g.pu (vf := v130) rfl rfl ?_
  simp only [v130, hv.len, RX, VOp.fresh, bxC, bsC, un, most, callsOf, seval, Int.reducePow, ↓reduceIte, Nat.reduceEqDiff, reduceCtorEq]
  refine indexFunc_loop g hv l.length 0 _ _ _ _ (by omega) ?_ ?_ ?_ ?_ ?_ ?_
  · simp only [sg_set, Nat.reduceEqDiff, ↓reduceIte]
  · simp only [sg_set, Nat.reduceEqDiff, ↓reduceIte]
  · simp only [sg_set, Nat.reduceEqDiff, ↓reduceIte]
  · simp only [sg_set, Nat.reduceEqDiff, ↓reduceIte]
    rfl
  · intro hall s'
    simp only [RX, VOp.fresh, bxC, bsC, un, most, callsOf, seval, Int.reducePow, ↓reduceIte, Nat.reduceEqDiff, reduceCtorEq]
    exact ⟨-1, rfl, by simp; exact fun i hi => hall i (by omega) hi⟩
  · intro j _ hj hn s' h4
    simp only [h4, RX, VOp.fresh, bxC, bsC, un, most, callsOf, seval, Int.reducePow, ↓reduceIte, Nat.reduceEqDiff, reduceCtorEq]
    exact ⟨j, rfl, ⟨fun _ h => hn (h j hj), fun _ => by omega⟩⟩
theorem containsFunc_pu (g : Pg P tab) {l : List (List Pt)} {v : AV} (hv : IsL 24 RRing v l) : Pu P 128 [v, .fn 129 []] (IsB (¬ ∀ i, i < l.length → ringOk 3 true (l.getD i []))) := by
  refine g.pu (vf := v128) rfl rfl ?_
  simp only [v128, RX, VOp.fresh, bxC, bsC, un, most, callsOf, seval, Int.reducePow, ↓reduceIte, Nat.reduceEqDiff, reduceCtorEq]
  refine (indexFunc_pu g hv).go (by simp [AV.tolds, AV.told, hv.told tRing]) ?_
  rintro x ⟨n, rfl, hn⟩
  simp only [RX, VOp.fresh, bxC, bsC, un, most, callsOf, seval, Int.reducePow, ↓reduceIte, Nat.reduceEqDiff, reduceCtorEq]
  exact hn
def featOk (f : Feat) : Prop := 1 ≤ f.id ∧ f.id ≤ 65535 ∧ 1 ≤ f.rings.length ∧ f.rings.length ≤ 4 ∧
  ((f.shape = 0 ∧ f.rings.length = 1 ∧ (f.rings.getD 0 []).length = 1 ∧ ptOk ((f.rings.getD 0 []).getD 0 ⟨0, 0⟩)) ∨ (f.shape = 1 ∧ f.rings.length = 1 ∧ ringOk 2 false (f.rings.getD 0 [])) ∨ (f.shape = 2 ∧ ∀ i, i < f.rings.length → ringOk 3 true (f.rings.getD i [])))
theorem shapeMay_pu (g : Pg P tab) {f : Feat} {v : AV} (hv : IsL 24 RRing v f.rings) : Pu P 119 [.agg [.int .i64 f.id, .int .i64 f.shape, v]] (IsB (featOk f)) := by
  refine g.pu (vf := v119) rfl rfl ?_
  have hb := hv.bound (by decide)
  by_cases h0 : 0 < f.rings.length
  · obtain ⟨rv, r1, hrv, t1, g1⟩ := getRing hv 0 h0
    simp only [Int.natCast_zero, Int.ofNat_zero, Int.ofNat_eq_natCast] at g1
    by_cases h1 : 0 < (f.rings.getD 0 []).length
    · obtain ⟨r2, t2, g2⟩ := getPt hrv 0 h1
      simp only [Int.natCast_zero, Int.ofNat_zero, Int.ofNat_eq_natCast] at g2
      simp +contextual (maxSteps := 2000000) only [v119, hv.len, hrv.len, g1, g2, RX, VOp.fresh, bxC, bsC, un, most, callsOf, seval, Int.reducePow, ↓reduceIte, Nat.reduceEqDiff, reduceCtorEq]
      repeat' (first | apply And.intro | intro _)
      all_goals first
        | (rename_i hok; obtain ⟨a1, a2, a3, a4, ⟨b1, b2, b3, b4⟩ | ⟨b1, b2, b3⟩ | ⟨b1, b2⟩⟩ := hok <;> omega)
        | (refine (pointMay_pu g _).go rfl ?_
           rintro x rfl
           simp +contextual (maxSteps := 2000000) only [RX, VOp.fresh, bxC, bsC, un, most, callsOf, seval, Int.reducePow, ↓reduceIte, Nat.reduceEqDiff, reduceCtorEq]
           exact ⟨fun h => ⟨by omega, by omega, by omega, by omega, .inl ⟨by omega, by omega, by omega, h⟩⟩, fun hok => by obtain ⟨a1, a2, a3, a4, ⟨b1, b2, b3, b4⟩ | ⟨b1, b2, b3⟩ | ⟨b1, b2⟩⟩ := hok <;> first | assumption | omega⟩)
        | (refine (ring_pu g hrv).go (by simp [AV.tolds, AV.told, hrv.told tPt]) ?_
           rintro x ⟨b, rfl, hbb⟩
           simp +contextual (maxSteps := 2000000) only [RX, VOp.fresh, bxC, bsC, un, most, callsOf, seval, Int.reducePow, ↓reduceIte, Nat.reduceEqDiff, reduceCtorEq]
           rw [hbb]
           exact ⟨fun h => ⟨by omega, by omega, by omega, by omega, .inr (.inl ⟨by omega, by omega, h⟩)⟩, fun hok => by obtain ⟨a1, a2, a3, a4, ⟨b1, b2, b3, b4⟩ | ⟨b1, b2, b3⟩ | ⟨b1, b2⟩⟩ := hok <;> first | assumption | omega⟩)
        | (refine (containsFunc_pu g hv).go (by simp [AV.tolds, AV.told, hv.told tRing]) ?_
           rintro x ⟨b, rfl, hbb⟩
           cases b <;> simp +contextual (maxSteps := 2000000) only [RX, VOp.fresh, bxC, bsC, un, most, callsOf, seval, Int.reducePow, ↓reduceIte, Nat.reduceEqDiff, reduceCtorEq]
           · exact ⟨by omega, by omega, by omega, by omega, .inr (.inr ⟨by omega, Classical.byContradiction fun hn => absurd (hbb.2 hn) (by simp)⟩)⟩
           · intro hok; obtain ⟨a1, a2, a3, a4, ⟨b1, b2, b3, b4⟩ | ⟨b1, b2, b3⟩ | ⟨b1, b2⟩⟩ := hok <;> first | exact hbb.1 rfl b2 | omega)
        | trace_state
    · have e1 : (f.rings.getD 0 []).length = 0 := by omega
      simp +contextual (maxSteps := 2000000) only [v119, hv.len, hrv.len, g1, e1, RX, VOp.fresh, bxC, bsC, un, most, callsOf, seval, Int.reducePow, ↓reduceIte, Nat.reduceEqDiff, reduceCtorEq]
      repeat' (first | apply And.intro | intro _)
      all_goals first
        | (rename_i hok; obtain ⟨a1, a2, a3, a4, ⟨b1, b2, b3, b4⟩ | ⟨b1, b2, b3⟩ | ⟨b1, b2⟩⟩ := hok <;> omega)
        | (refine (ring_pu g hrv).go (by simp [AV.tolds, AV.told, hrv.told tPt]) ?_
           rintro x ⟨b, rfl, hbb⟩
           simp +contextual (maxSteps := 2000000) only [RX, VOp.fresh, bxC, bsC, un, most, callsOf, seval, Int.reducePow, ↓reduceIte, Nat.reduceEqDiff, reduceCtorEq]
           rw [hbb]
           exact ⟨fun h => ⟨by omega, by omega, by omega, by omega, .inr (.inl ⟨by omega, by omega, h⟩)⟩, fun hok => by obtain ⟨a1, a2, a3, a4, ⟨b1, b2, b3, b4⟩ | ⟨b1, b2, b3⟩ | ⟨b1, b2⟩⟩ := hok <;> first | assumption | omega⟩)
        | (refine (containsFunc_pu g hv).go (by simp [AV.tolds, AV.told, hv.told tRing]) ?_
           rintro x ⟨b, rfl, hbb⟩
           cases b <;> simp +contextual (maxSteps := 2000000) only [RX, VOp.fresh, bxC, bsC, un, most, callsOf, seval, Int.reducePow, ↓reduceIte, Nat.reduceEqDiff, reduceCtorEq]
           · exact ⟨by omega, by omega, by omega, by omega, .inr (.inr ⟨by omega, Classical.byContradiction fun hn => absurd (hbb.2 hn) (by simp)⟩)⟩
           · intro hok; obtain ⟨a1, a2, a3, a4, ⟨b1, b2, b3, b4⟩ | ⟨b1, b2, b3⟩ | ⟨b1, b2⟩⟩ := hok <;> first | exact hbb.1 rfl b2 | omega)
        | trace_state
  · have e0 : f.rings.length = 0 := by omega
    have c1 : (f.rings.length : Int) < 1 := by omega
    simp +contextual (maxSteps := 2000000) only [v119, hv.len, c1, RX, VOp.fresh, bxC, bsC, un, most, callsOf, seval, Int.reducePow, ↓reduceIte, Nat.reduceEqDiff, reduceCtorEq]
    repeat' (first | apply And.intro | intro _)
    all_goals (rename_i hok; obtain ⟨a1, a2, a3, a4, _⟩ := hok; omega)
end
end Go.Proofs.Ytinonmcnofjeeaa.VM
namespace Go.Proofs.Ytinonmcnofjeeaa.VM
attribute [local irreducible] Af Nx EvO Ev Un Gd Cd EvR EvQ EvC Nc Gc Lp EvM NxM AfM GdM EvMR EvMQ EvMD EvMC Nm Gm
def opOk (nodes : Int) (o : Op) : Prop := (o.kind = 0 ∧ featOk o.f ∧ o.id = 0 ∧ mpZero o.m) ∨ (o.kind = 1 ∧ 1 ≤ o.id ∧ o.id ≤ 65535 ∧ ftZero o.f ∧ mpZero o.m) ∨ (o.kind = 2 ∧ mpOk nodes o.m ∧ o.id = 0 ∧ ftZero o.f)
def opId (o : Op) : Int := if o.kind = 0 then o.f.id else o.id
def op0 : Op := ⟨0, ⟨0, 0, []⟩, 0, ⟨0, [], []⟩⟩
section
variable {P : Program}
theorem opMay_pu (g : Pg P tab) {nodes : Int} {o : Op} {c r : List AV} (hc : ROp o c) (hr : AV.tolds r = true) : Pu P 107 [.rp (c ++ r), .int .i64 nodes] (IsB (opOk nodes o)) := by
  refine g.pu (vf := v107) rfl rfl ?_
  obtain ⟨v, a, u, rfl, _, _, _, hv, _, _, ha, hu⟩ := hc
  have tv := hv.told tRing
  have ta := ha.told tInt
  have tu := hu.told tInt
  simp +contextual (maxSteps := 2000000) only [v107, RX, VOp.fresh, bxC, bsC, un, most, callsOf, seval, Int.reducePow, ↓reduceIte, Nat.reduceEqDiff, reduceCtorEq]
  repeat' (first | apply And.intro | intro _)
  · -- a put
    refine (shapeMay_pu g hv).go (by simp [AV.tolds, AV.told, tv]) ?_
    rintro x ⟨b, rfl, hb⟩
    cases b
    · simp +contextual (maxSteps := 2000000) only [RX, VOp.fresh, bxC, bsC, un, most, callsOf, seval, Int.reducePow, ↓reduceIte, Nat.reduceEqDiff, reduceCtorEq]
      rintro (⟨h1, h2, h3, h4⟩ | ⟨h1, _⟩ | ⟨h1, _⟩)
      · exact absurd (hb.2 h2) (by simp)
      · omega
      · omega
    · simp +contextual (maxSteps := 2000000) only [RX, VOp.fresh, bxC, bsC, un, most, callsOf, seval, Int.reducePow, ↓reduceIte, Nat.reduceEqDiff, reduceCtorEq]
      repeat' (first | apply And.intro | intro _)
      · refine (noMap_pu g ha hu _).go (by simp [AV.tolds, AV.told, ta, tu, hr]) ?_
        rintro x ⟨b, rfl, hb2⟩
        simp +contextual (maxSteps := 2000000) only [RX, VOp.fresh, bxC, bsC, un, most, callsOf, seval, Int.reducePow, ↓reduceIte, Nat.reduceEqDiff, reduceCtorEq]
        rw [hb2]
        exact ⟨fun h => .inl ⟨by assumption, hb.1 rfl, by assumption, h⟩, fun h => by rcases h with ⟨_, _, _, h4⟩ | ⟨h1, _⟩ | ⟨h1, _⟩ <;> first | exact h4 | omega⟩
      · rename_i hok
        rcases hok with ⟨_, _, h3, _⟩ | ⟨h1, _⟩ | ⟨h1, _⟩ <;> first | contradiction | omega
  · -- a delete
    refine (noFeature_pu g hv _).go (by simp [AV.tolds, AV.told, tv, ta, tu, hr]) ?_
    rintro x ⟨b, rfl, hb⟩
    cases b
    · simp +contextual (maxSteps := 2000000) only [RX, VOp.fresh, bxC, bsC, un, most, callsOf, seval, Int.reducePow, ↓reduceIte, Nat.reduceEqDiff, reduceCtorEq]
      rintro (⟨h1, _⟩ | ⟨h1, h2, h3, h4, h5⟩ | ⟨h1, _⟩)
      · omega
      · exact absurd (hb.2 h4) (by simp)
      · omega
    · simp +contextual (maxSteps := 2000000) only [RX, VOp.fresh, bxC, bsC, un, most, callsOf, seval, Int.reducePow, ↓reduceIte, Nat.reduceEqDiff, reduceCtorEq]
      refine (noMap_pu g ha hu _).go (by simp [AV.tolds, AV.told, ta, tu, hr]) ?_
      rintro x ⟨b, rfl, hb2⟩
      simp +contextual (maxSteps := 2000000) only [RX, VOp.fresh, bxC, bsC, un, most, callsOf, seval, Int.reducePow, ↓reduceIte, Nat.reduceEqDiff, reduceCtorEq]
      rw [hb2]
      exact ⟨fun h => .inr (.inl ⟨by assumption, by omega, by omega, hb.1 rfl, h⟩), fun h => by rcases h with ⟨h1, _⟩ | ⟨_, _, _, _, h4⟩ | ⟨h1, _⟩ <;> first | exact h4 | omega⟩
  · rename_i hok
    rcases hok with ⟨h1, _⟩ | ⟨h1, _⟩ | ⟨h1, _⟩ <;> omega
  · rename_i hok
    rcases hok with ⟨h1, _⟩ | ⟨h1, _⟩ | ⟨h1, _⟩ <;> omega
  · -- a map
    refine (mapMay_pu g ha hu).go (by simp [AV.tolds, AV.told, ta, tu]) ?_
    rintro x ⟨b, rfl, hb⟩
    cases b
    · simp +contextual (maxSteps := 2000000) only [RX, VOp.fresh, bxC, bsC, un, most, callsOf, seval, Int.reducePow, ↓reduceIte, Nat.reduceEqDiff, reduceCtorEq]
      rintro (⟨h1, _⟩ | ⟨h1, _⟩ | ⟨h1, h2, h3, h4⟩)
      · omega
      · omega
      · exact absurd (hb.2 h2) (by simp)
    · simp +contextual (maxSteps := 2000000) only [RX, VOp.fresh, bxC, bsC, un, most, callsOf, seval, Int.reducePow, ↓reduceIte, Nat.reduceEqDiff, reduceCtorEq]
      repeat' (first | apply And.intro | intro _)
      · refine (noFeature_pu g hv _).go (by simp [AV.tolds, AV.told, tv, ta, tu, hr]) ?_
        rintro x ⟨b, rfl, hb2⟩
        simp +contextual (maxSteps := 2000000) only [RX, VOp.fresh, bxC, bsC, un, most, callsOf, seval, Int.reducePow, ↓reduceIte, Nat.reduceEqDiff, reduceCtorEq]
        rw [hb2]
        exact ⟨fun h => .inr (.inr ⟨by assumption, hb.1 rfl, by assumption, h⟩), fun h => by rcases h with ⟨h1, _⟩ | ⟨h1, _⟩ | ⟨_, _, _, h4⟩ <;> first | exact h4 | omega⟩
      · rename_i hok
        rcases hok with ⟨h1, _⟩ | ⟨h1, _⟩ | ⟨_, _, h3, _⟩ <;> first | contradiction | omega
  · rename_i hok
    rcases hok with ⟨h1, _⟩ | ⟨h1, _⟩ | ⟨h1, _⟩ <;> contradiction
theorem opId_pu (g : Pg P tab) {o : Op} {c r : List AV} (hc : ROp o c) : Pu P 108 [.rp (c ++ r)] (fun x => x = .int .i64 (opId o)) := by
  refine g.pu (vf := v108) rfl rfl ?_
  obtain ⟨v, a, u, rfl, _⟩ := hc
  simp +contextual (maxSteps := 2000000) only [v108, opId, RX, VOp.fresh, bxC, bsC, un, most, callsOf, seval, Int.reducePow, ↓reduceIte, Nat.reduceEqDiff, reduceCtorEq]
theorem getOp {v : AV} {l : List Op} (h : IsL 112 ROp v l) (i : Nat) (hi : i < l.length) : ∃ c r, ROp (l.getD i op0) c ∧ AV.tolds c = true ∧ AV.tolds r = true ∧ ∀ (hh : Heap) (kk : IntKind), iaV hh 8 none v (.int kk (i : Int)) = .val (.rp (c ++ r)) hh := by
  obtain ⟨ci, r, hr, ht, hia⟩ := h.get zOp tOp i hi
  have : l.getD i op0 = l[i] := by simp [List.getD_eq_getElem?_getD, List.getElem?_eq_getElem hi]
  rw [Cat.told.tolds_append, Bool.and_eq_true] at ht
  exact ⟨ci, r, by rw [this]; exact hr, ht.1, ht.2, hia⟩
def opsAt (nodes : Int) (l : List Op) (i : Nat) : Prop := opOk nodes (l.getD i op0) ∧ ((l.getD i op0).kind = 2 → i = 0) ∧ (0 < opId (l.getD i op0) → ∀ j, j < i → opId (l.getD j op0) ≠ opId (l.getD i op0))
def opsOk (nodes : Int) (l : List Op) : Prop := 1 ≤ l.length ∧ l.length ≤ 32 ∧ ∀ i, i < l.length → opsAt nodes l i
/-- the ids that were seen -/
def idsTo (l : List Op) : Nat → List Int
  | 0 => []
  | i + 1 => if 0 < opId (l.getD i op0) then idsTo l i ++ [opId (l.getD i op0)] else idsTo l i
theorem idsTo_mem (l : List Op) (x : Int) : ∀ i, x ∈ idsTo l i ↔ 0 < x ∧ ∃ j, j < i ∧ opId (l.getD j op0) = x
  | 0 => by simp [idsTo]
  | i + 1 => by
    unfold idsTo
    have ih := idsTo_mem l x i
    split
    · rename_i h
      rw [List.mem_append, ih, List.mem_singleton]
      constructor
      · rintro (⟨a, j, b, c⟩ | rfl)
        · exact ⟨a, j, by omega, c⟩
        · exact ⟨h, i, by omega, rfl⟩
      · rintro ⟨a, j, b, c⟩
        rcases Nat.lt_or_ge j i with h' | h'
        · exact .inl ⟨a, j, h', c⟩
        · have : j = i := by omega
          subst this; exact .inr c.symm
    · rename_i h
      rw [ih]
      constructor
      · rintro ⟨a, j, b, c⟩; exact ⟨a, j, by omega, c⟩
      · rintro ⟨a, j, b, c⟩
        refine ⟨a, j, ?_, c⟩
        rcases Nat.lt_or_ge j i with h' | h'
        · exact h'
        · have : j = i := by omega
          subst this; omega
def seenE (ids : List Int) : List (AV × AV) := ids.map fun x => (.int .i64 x, .bool true)
theorem findE_seen (x : Int) : ∀ ids : List Int, findE .int (.int .i64 x) (seenE ids) = some (if x ∈ ids then some (.bool true) else none)
  | [] => rfl
  | y :: ids => by
    show (match sameK .int (.int .i64 x) (.int .i64 y) with | some true => some (some (AV.bool true)) | some false => findE .int (.int .i64 x) (seenE ids) | none => none) = _
    have : sameK .int (.int .i64 x) (.int .i64 y) = some (decide (x = y)) := by simp [sameK]
    rw [this]
    by_cases e : x = y
    · simp [e]
    · simp [e, findE_seen x ids]
theorem updE_seen {x : Int} : ∀ {ids : List Int}, x ∉ ids → updE .int (.int .i64 x) (.bool true) (seenE ids) = seenE (ids ++ [x])
  | [], _ => rfl
  | y :: ids, h => by
    have hne : x ≠ y := fun e => h (by rw [e]; exact .head _)
    have : sameK .int (.int .i64 x) (.int .i64 y) = some (decide (x = y)) := by simp [sameK]
    show (match sameK .int (.int .i64 x) (.int .i64 y) with | some true => (AV.int .i64 x, AV.bool true) :: seenE ids | _ => (AV.int .i64 y, AV.bool true) :: updE .int (.int .i64 x) (.bool true) (seenE ids)) = _
    rw [this, decide_eq_false hne]
    simp only [updE_seen (fun hm => h (.tail _ hm))]
    rfl
theorem lkB_seen {hh : Heap} {x : Int} {ids : List Int} {ver : Nat} : lkB .int (.bool false) false hh (.int .i64 x) (some (.map (seenE ids) ver)) = .val (.bool (decide (x ∈ ids))) hh := by
  simp only [lkB, findE_seen]
  by_cases h : x ∈ ids <;> simp [h]
theorem muB_seen {hh : Heap} {b : Nat} {x : Int} {ids : List Int} {ver : Nat} (h : x ∉ ids) : muB .int hh b (.int .i64 x) (.bool true) (some (.map (seenE ids) ver)) = .val .undef (hh.put b (.map (seenE (ids ++ [x])) (ver + 1))) := by
  simp only [muB, findE_seen, updE_seen h]
theorem opsMay_loop (g : Pg P tab) {nodes : Int} {l : List Op} {v : AV} (hv : IsL 112 ROp v l) (hl : l.length ≤ 32) (b : Nat) (n : Nat) :
    ∀ (i : Nat) (s : T AV) (hh : Heap) (ver : Nat) (k : List Fr) (Q : Ex → T AV → Heap → Prop), i + n = l.length → sg s 0 = v → sg s 1 = .int .i64 nodes → sg s 5 = .map b → sg s 19 = .int .i64 l.length → sg s 20 = .int .i64 i →
      hh.get b = some (.map (seenE (idsTo l i)) ver) →
      ((∀ j, i ≤ j → j < l.length → opsAt nodes l j) → ∀ s' h', Un P k Q (.exit 0) s' h') → ((¬ ∀ j, i ≤ j → j < l.length → opsAt nodes l j) → ∀ s' h', sg s' 4 = .bool false → Un P k Q .ret s' h') → Lp P b87_0 s hh (Un P k Q) := by
  induction n with
  | zero =>
    intro i s hh ver k Q hi h0 h1 h5 h19 h20 hg hK hR
    refine g.lpe b87_0.eq_1 ?_
    have c1 : ¬ ((i : Int) < (l.length : Int)) := by omega
    simp only [h19, h20, c1, RX, VOp.fresh, bxC, bsC, un, most, callsOf, seval, Int.reducePow, ↓reduceIte, Nat.reduceEqDiff, reduceCtorEq]
    exact hK (fun j h1 h2 => by omega) _ _
  | succ n ih =>
    intro i s hh ver k Q hi h0 h1 h5 h19 h20 hg hK hR
    refine g.lpe b87_0.eq_1 ?_
    have c1 : (i : Int) < (l.length : Int) := by omega
    obtain ⟨c, r, hc, tc, tr, g1⟩ := getOp hv i (by omega)
    have w1 : IntKind.i64.wrap ((i : Int) + 1) = ((i + 1 : Nat) : Int) := by rw [w64 (by omega) (by omega)]; push_cast; rfl
    have next : opsAt nodes l i → ∀ (s' : T AV) (h' : Heap) (ver' : Nat), sg s' 0 = v → sg s' 1 = .int .i64 nodes → sg s' 5 = .map b → sg s' 19 = .int .i64 l.length → sg s' 20 = .int .i64 ((i + 1 : Nat) : Int) →
        h'.get b = some (.map (seenE (idsTo l (i + 1))) ver') → Lp P b87_0 s' h' (Un P k Q) := by
      intro hok s' h' ver' a1 a2 a3 a4 a5 a6
      refine ih (i + 1) s' h' ver' k Q (by omega) a1 a2 a3 a4 a5 a6 (fun hall => hK fun j h1 h2 => ?_) (fun hn => hR fun hall => hn fun j h1 h2 => hall j (by omega) h2)
      rcases Nat.lt_or_ge i j with h | h
      · exact hall j h h2
      · have : j = i := by omega
        subst this; exact hok
    have stop : ¬ opsAt nodes l i → ∀ (s' : T AV) (h' : Heap), sg s' 4 = .bool false → Un P k Q .ret s' h' := fun hn => hR fun hall => hn (hall i (Nat.le_refl _) (by omega))
    simp only [h0, h1, h5, h19, h20, c1, g1, RX, VOp.fresh, bxC, bsC, un, most, callsOf, seval, Int.reducePow, ↓reduceIte, Nat.reduceEqDiff, reduceCtorEq]
    refine (opMay_pu g hc tr).go (by simp [AV.tolds, AV.told, Cat.told.tolds_append, tc, tr]) ?_
    rintro x ⟨ob, rfl, hob⟩
    have hid := opId_pu g (r := r) hc
    have hkind : ∃ c', c = .int .i64 (l.getD i op0).kind :: c' := by
      obtain ⟨v', a, u, rfl, _⟩ := hc
      exact ⟨_, rfl⟩
    obtain ⟨c', rfl⟩ := hkind
    cases ob
    · simp only [RX, VOp.fresh, bxC, bsC, un, most, callsOf, seval, Int.reducePow, ↓reduceIte, Nat.reduceEqDiff, reduceCtorEq]
      exact stop (fun hok => absurd (hob.2 hok.1) (by simp)) _ _ (by simp only [sg_set, Nat.reduceEqDiff, ↓reduceIte])
    · have hok := hob.1 rfl
      generalize hx : opId (l.getD i op0) = x0 at *
      have hids : idsTo l (i + 1) = if 0 < x0 then idsTo l i ++ [x0] else idsTo l i := by rw [idsTo, hx]
      by_cases hk : (l.getD i op0).kind = 2
      · rw [hk] at hid tc
        by_cases hi0 : (0 : Int) < (i : Int)
        · simp only [h0, h1, h5, h19, h20, hk, hi0, RX, VOp.fresh, bxC, bsC, un, most, callsOf, seval, Int.reducePow, ↓reduceIte, Nat.reduceEqDiff, reduceCtorEq]
          exact stop (fun hok => absurd (hok.2.1 hk) (by omega)) _ _ (by simp only [sg_set, Nat.reduceEqDiff, ↓reduceIte])
        · simp only [h0, h1, h5, h19, h20, hk, hi0, RX, VOp.fresh, bxC, bsC, un, most, callsOf, seval, Int.reducePow, ↓reduceIte, Nat.reduceEqDiff, reduceCtorEq]
          refine hid.go (by simp [AV.tolds, AV.told, Cat.told.tolds_append, tc, tr]; simpa [AV.tolds, AV.told] using tc) ?_
          rintro x rfl
          by_cases hp : 0 < x0
          · by_cases hm : x0 ∈ idsTo l i
            · simp only [h0, h1, h5, h19, h20, hp, hm, hg, lkB_seen, RX, VOp.fresh, bxC, bsC, un, most, callsOf, seval, Int.reducePow, ↓reduceIte, Nat.reduceEqDiff, reduceCtorEq]
              refine stop (fun hok => ?_) _ _ (by simp only [sg_set, Nat.reduceEqDiff, ↓reduceIte])
              obtain ⟨_, j, h1, h2⟩ := (idsTo_mem l _ i).1 hm
              exact hok.2.2 (by rw [hx]; exact hp) j h1 (by rw [hx]; exact h2)
            · simp only [h0, h1, h5, h19, h20, hp, hm, hg, lkB_seen, muB_seen hm, w1, RX, VOp.fresh, bxC, bsC, un, most, callsOf, seval, Int.reducePow, ↓reduceIte, Nat.reduceEqDiff, reduceCtorEq]
              refine next ⟨hok, fun _ => by omega, fun _ j h1 h2 => hm ((idsTo_mem l _ i).2 ⟨hp, j, h1, by rw [h2, hx]⟩)⟩ _ _ (ver + 1) ?_ ?_ ?_ ?_ ?_ ?_
              · simp only [h0, sg_set, Nat.reduceEqDiff, ↓reduceIte]
              · simp only [h1, sg_set, Nat.reduceEqDiff, ↓reduceIte]
              · simp only [h5, sg_set, Nat.reduceEqDiff, ↓reduceIte]
              · simp only [h19, sg_set, Nat.reduceEqDiff, ↓reduceIte]
              · simp only [sg_set, Nat.reduceEqDiff, ↓reduceIte]
              · rw [Heap.get_put, if_pos rfl, hids, if_pos hp]
          · simp only [h0, h1, h5, h19, h20, hp, w1, RX, VOp.fresh, bxC, bsC, un, most, callsOf, seval, Int.reducePow, ↓reduceIte, Nat.reduceEqDiff, reduceCtorEq]
            refine next ⟨hok, fun _ => by omega, fun h => absurd (by rw [hx] at h; exact h) hp⟩ _ _ ver ?_ ?_ ?_ ?_ ?_ ?_
            · simp only [h0, sg_set, Nat.reduceEqDiff, ↓reduceIte]
            · simp only [h1, sg_set, Nat.reduceEqDiff, ↓reduceIte]
            · simp only [h5, sg_set, Nat.reduceEqDiff, ↓reduceIte]
            · simp only [h19, sg_set, Nat.reduceEqDiff, ↓reduceIte]
            · simp only [sg_set, Nat.reduceEqDiff, ↓reduceIte]
            · rw [hg, hids, if_neg hp]
      · simp only [h0, h1, h5, h19, h20, hk, RX, VOp.fresh, bxC, bsC, un, most, callsOf, seval, Int.reducePow, ↓reduceIte, Nat.reduceEqDiff, reduceCtorEq]
        refine hid.go (by simp [AV.tolds, AV.told, Cat.told.tolds_append, tc, tr]; simpa [AV.tolds, AV.told] using tc) ?_
        rintro x rfl
        by_cases hp : 0 < x0
        · by_cases hm : x0 ∈ idsTo l i
          · simp only [h0, h1, h5, h19, h20, hp, hm, hg, lkB_seen, RX, VOp.fresh, bxC, bsC, un, most, callsOf, seval, Int.reducePow, ↓reduceIte, Nat.reduceEqDiff, reduceCtorEq]
            refine stop (fun hok => ?_) _ _ (by simp only [sg_set, Nat.reduceEqDiff, ↓reduceIte])
            obtain ⟨_, j, h1, h2⟩ := (idsTo_mem l _ i).1 hm
            exact hok.2.2 (by rw [hx]; exact hp) j h1 (by rw [hx]; exact h2)
          · simp only [h0, h1, h5, h19, h20, hp, hm, hg, lkB_seen, muB_seen hm, w1, RX, VOp.fresh, bxC, bsC, un, most, callsOf, seval, Int.reducePow, ↓reduceIte, Nat.reduceEqDiff, reduceCtorEq]
            refine next ⟨hok, fun h => absurd h hk, fun _ j h1 h2 => hm ((idsTo_mem l _ i).2 ⟨hp, j, h1, by rw [h2, hx]⟩)⟩ _ _ (ver + 1) ?_ ?_ ?_ ?_ ?_ ?_
            · simp only [h0, sg_set, Nat.reduceEqDiff, ↓reduceIte]
            · simp only [h1, sg_set, Nat.reduceEqDiff, ↓reduceIte]
            · simp only [h5, sg_set, Nat.reduceEqDiff, ↓reduceIte]
            · simp only [h19, sg_set, Nat.reduceEqDiff, ↓reduceIte]
            · simp only [sg_set, Nat.reduceEqDiff, ↓reduceIte]
            · rw [Heap.get_put, if_pos rfl, hids, if_pos hp]
        · simp only [h0, h1, h5, h19, h20, hp, w1, RX, VOp.fresh, bxC, bsC, un, most, callsOf, seval, Int.reducePow, ↓reduceIte, Nat.reduceEqDiff, reduceCtorEq]
          refine next ⟨hok, fun h => absurd h hk, fun h => absurd (by rw [hx] at h; exact h) hp⟩ _ _ ver ?_ ?_ ?_ ?_ ?_ ?_
          · simp only [h0, sg_set, Nat.reduceEqDiff, ↓reduceIte]
          · simp only [h1, sg_set, Nat.reduceEqDiff, ↓reduceIte]
          · simp only [h5, sg_set, Nat.reduceEqDiff, ↓reduceIte]
          · simp only [h19, sg_set, Nat.reduceEqDiff, ↓reduceIte]
          · simp only [sg_set, Nat.reduceEqDiff, ↓reduceIte]
          · rw [hg, hids, if_neg hp]
theorem opsMay_pu (g : Pg P tab) {nodes : Int} {l : List Op} {v : AV} (hv : IsL 112 ROp v l) : Pu P 87 [v, .int .i64 nodes] (IsB (opsOk nodes l)) := by
  refine g.pu (vf := v87) rfl rfl ?_
  have hb := hv.bound (by decide)
  simp +contextual (maxSteps := 2000000) only [v87, hv.len, RX, VOp.fresh, bxC, bsC, un, most, callsOf, seval, Int.reducePow, ↓reduceIte, Nat.reduceEqDiff, reduceCtorEq]
  repeat' (first | apply And.intro | intro _)
  all_goals first
    | (rename_i hok; unfold opsOk at hok; omega)
    | skip
  refine opsMay_loop (nodes := nodes) g hv (by omega) 0 l.length 0 _ _ 0 _ _ (by omega) ?_ ?_ ?_ ?_ ?_ ?_ ?_ ?_
  · simp only [sg_set, Nat.reduceEqDiff, ↓reduceIte]
  · simp only [sg_set, Nat.reduceEqDiff, ↓reduceIte]
  · simp only [sg_set, Nat.reduceEqDiff, ↓reduceIte]
  · simp only [sg_set, Nat.reduceEqDiff, ↓reduceIte]
  · simp only [sg_set, Nat.reduceEqDiff, ↓reduceIte]
    rfl
  · rw [Heap.get_mk, if_pos rfl]; rfl
  · intro hall s' h'
    simp +contextual (maxSteps := 2000000) only [RX, VOp.fresh, bxC, bsC, un, most, callsOf, seval, Int.reducePow, ↓reduceIte, Nat.reduceEqDiff, reduceCtorEq]
    exact ⟨by omega, by omega, fun i hi => hall i (by omega) hi⟩
  · intro hn s' h' h4
    simp +contextual (maxSteps := 2000000) only [h4, RX, VOp.fresh, bxC, bsC, un, most, callsOf, seval, Int.reducePow, ↓reduceIte, Nat.reduceEqDiff, reduceCtorEq]
    intro hok
    exact hn fun j _ hj => hok.2.2 j hj
end
end Go.Proofs.Ytinonmcnofjeeaa.VM
namespace Go.Proofs.Ytinonmcnofjeeaa.VM
attribute [local irreducible] Af Nx EvO Ev Un Gd Cd EvR EvQ EvC Nc Gc Lp EvM NxM AfM GdM EvMR EvMQ EvMD EvMC Nm Gm
def txOk (a b : Int) : Prop := 0 ≤ a ∧ a < 8 ∧ 1 ≤ b ∧ b ≤ 65535
end Go.Proofs.Ytinonmcnofjeeaa.VM
namespace Go.Proofs.Ytinonmcnofjeeaa.VM
attribute [local irreducible] Af Nx EvO Ev Un Gd Cd EvR EvQ EvC Nc Gc Lp EvM NxM AfM GdM EvMR EvMQ EvMD EvMC Nm Gm
section
variable {P : Program}
theorem num_pu (g : Pg P tab) (n : Int) : Pu P 19 [.int .i64 n] (fun v => v = .int .i64 n) := by
  refine g.pu (vf := v19) rfl rfl ?_
  simp +contextual (maxSteps := 2000000) (disch := omega) only [v19, RX, VOp.fresh, bxC, bsC, un, most, callsOf, seval, Int.reducePow, ↓reduceIte, Nat.reduceEqDiff, reduceCtorEq]
def m0 : Mp := ⟨0, [], []⟩
theorem i64c {n : Int} (a : -1000000 ≤ n) (b : n ≤ 1000000) : I64 n := ⟨by omega, by omega⟩
theorem i0 : I64 0 := i64c (by decide) (by decide)
theorem i1 : I64 1 := i64c (by decide) (by decide)
end
end Go.Proofs.Ytinonmcnofjeeaa.VM
namespace Go.Proofs.Ytinonmcnofjeeaa.VM
attribute [local irreducible] Af Nx EvO Ev Un Gd Cd EvR EvQ EvC Nc Gc Lp EvM NxM AfM GdM EvMR EvMQ EvMD EvMC Nm Gm
/-- a number's bytes, the highest first -/
def numB (x : Int) : Nat → List Nat
  | 0 => []
  | n + 1 => (x / (256 ^ n : Nat) % 256).toNat :: numB x n
theorem numB_len (x : Int) : ∀ n, (numB x n).length = n
  | 0 => rfl
  | n + 1 => by rw [numB, List.length_cons, numB_len x n]
theorem mb_nil : ([] : List AV).mapM AV.byte = some [] := rfl
theorem byte_mod (a : Int) : AV.byte (.int .u8 (a % 256)) = some (a % 256).toNat := by
  have h1 := Int.emod_nonneg a (show (256 : Int) ≠ 0 by decide)
  have h2 := Int.emod_lt_of_pos a (show (0 : Int) < 256 by decide)
  simp only [AV.byte]
  rw [if_pos ⟨h1, h2⟩]
theorem mb_cons (a : Int) (l : List AV) : (AV.int .u8 (a % 256) :: l).mapM AV.byte = (l.mapM AV.byte).map ((a % 256).toNat :: ·) := by
  rw [List.mapM_cons, byte_mod]
  cases l.mapM AV.byte <;> rfl
theorem cvT_sl {h : Heap} {b n : Nat} {cap : Nat} {l : List AV} {e : TypeId} {ver : Nat} (hg : h.get b = some (.cells l e ver)) (hl : l.length = n) : cvT h (.sl b 0 n cap 1) = valO h ((l.mapM AV.byte).map .str) := by
  subst hl
  simp only [cvT, lenV, cellsOf, hg, Nat.le_refl, if_true, cut_eq, List.drop_zero, Nat.mul_one, List.take_length]
section
variable {P : Program}
theorem num1_pu (g : Pg P tab) (x : Int) : Pu P 89 [.int .i64 x, .int .i64 1] (fun v => v = .str (numB x 1)) := by
  refine g.pu (vf := v89) rfl rfl ?_
  simp +contextual (maxSteps := 2000000) (disch := omega) only [v89, RW, RS, RX, VOp.fresh, bxC, bsC, un, most, callsOf, seval, Int.reducePow, ↓reduceIte, Nat.reduceEqDiff, reduceCtorEq]
  refine g.lpe b89_0.eq_1 ?_
  simp +contextual (maxSteps := 2000000) (disch := omega) only [RW, RS, RX, VOp.fresh, bxC, bsC, un, most, callsOf, seval, Int.reducePow, ↓reduceIte, Nat.reduceEqDiff, reduceCtorEq]
  refine g.lpe b89_0.eq_1 ?_
  simp +contextual (maxSteps := 2000000) (disch := omega) only [RW, RS, RX, VOp.fresh, bxC, bsC, un, most, callsOf, seval, Int.reducePow, ↓reduceIte, Nat.reduceEqDiff, reduceCtorEq]
  rw [cvT_sl (by rfl) (by rfl)]
  simp +contextual (maxSteps := 2000000) (disch := omega) only [RW, mb_nil, mb_cons, Option.map_some, numB, Nat.pow_zero, RX, VOp.fresh, bxC, bsC, un, most, callsOf, seval, Int.reducePow, ↓reduceIte, Nat.reduceEqDiff, reduceCtorEq]
theorem num2_pu (g : Pg P tab) (x : Int) : Pu P 89 [.int .i64 x, .int .i64 2] (fun v => v = .str (numB x 2)) := by
  refine g.pu (vf := v89) rfl rfl ?_
  simp +contextual (maxSteps := 2000000) (disch := omega) only [v89, RW, RS, RX, VOp.fresh, bxC, bsC, un, most, callsOf, seval, Int.reducePow, ↓reduceIte, Nat.reduceEqDiff, reduceCtorEq]
  refine g.lpe b89_0.eq_1 ?_
  simp +contextual (maxSteps := 2000000) (disch := omega) only [RW, RS, RX, VOp.fresh, bxC, bsC, un, most, callsOf, seval, Int.reducePow, ↓reduceIte, Nat.reduceEqDiff, reduceCtorEq]
  refine g.lpe b89_0.eq_1 ?_
  simp +contextual (maxSteps := 2000000) (disch := omega) only [RW, RS, RX, VOp.fresh, bxC, bsC, un, most, callsOf, seval, Int.reducePow, ↓reduceIte, Nat.reduceEqDiff, reduceCtorEq]
  refine g.lpe b89_0.eq_1 ?_
  simp +contextual (maxSteps := 2000000) (disch := omega) only [RW, RS, RX, VOp.fresh, bxC, bsC, un, most, callsOf, seval, Int.reducePow, ↓reduceIte, Nat.reduceEqDiff, reduceCtorEq]
  rw [cvT_sl (by rfl) (by rfl)]
  simp +contextual (maxSteps := 2000000) (disch := omega) only [RW, mb_nil, mb_cons, Option.map_some, numB, Nat.pow_zero, RX, VOp.fresh, bxC, bsC, un, most, callsOf, seval, Int.reducePow, ↓reduceIte, Nat.reduceEqDiff, reduceCtorEq]
theorem num4_pu (g : Pg P tab) (x : Int) : Pu P 89 [.int .i64 x, .int .i64 4] (fun v => v = .str (numB x 4)) := by
  refine g.pu (vf := v89) rfl rfl ?_
  simp +contextual (maxSteps := 2000000) (disch := omega) only [v89, RW, RS, RX, VOp.fresh, bxC, bsC, un, most, callsOf, seval, Int.reducePow, ↓reduceIte, Nat.reduceEqDiff, reduceCtorEq]
  refine g.lpe b89_0.eq_1 ?_
  simp +contextual (maxSteps := 2000000) (disch := omega) only [RW, RS, RX, VOp.fresh, bxC, bsC, un, most, callsOf, seval, Int.reducePow, ↓reduceIte, Nat.reduceEqDiff, reduceCtorEq]
  refine g.lpe b89_0.eq_1 ?_
  simp +contextual (maxSteps := 2000000) (disch := omega) only [RW, RS, RX, VOp.fresh, bxC, bsC, un, most, callsOf, seval, Int.reducePow, ↓reduceIte, Nat.reduceEqDiff, reduceCtorEq]
  refine g.lpe b89_0.eq_1 ?_
  simp +contextual (maxSteps := 2000000) (disch := omega) only [RW, RS, RX, VOp.fresh, bxC, bsC, un, most, callsOf, seval, Int.reducePow, ↓reduceIte, Nat.reduceEqDiff, reduceCtorEq]
  refine g.lpe b89_0.eq_1 ?_
  simp +contextual (maxSteps := 2000000) (disch := omega) only [RW, RS, RX, VOp.fresh, bxC, bsC, un, most, callsOf, seval, Int.reducePow, ↓reduceIte, Nat.reduceEqDiff, reduceCtorEq]
  refine g.lpe b89_0.eq_1 ?_
  simp +contextual (maxSteps := 2000000) (disch := omega) only [RW, RS, RX, VOp.fresh, bxC, bsC, un, most, callsOf, seval, Int.reducePow, ↓reduceIte, Nat.reduceEqDiff, reduceCtorEq]
  rw [cvT_sl (by rfl) (by rfl)]
  simp +contextual (maxSteps := 2000000) (disch := omega) only [RW, mb_nil, mb_cons, Option.map_some, numB, Nat.pow_zero, RX, VOp.fresh, bxC, bsC, un, most, callsOf, seval, Int.reducePow, ↓reduceIte, Nat.reduceEqDiff, reduceCtorEq]
end
def byteV (n : Nat) : AV := .int .u8 n
theorem cells_str {h : Heap} {bs : List Nat} : cellsOf h 1 bs.length (.str bs) = some (bs.map byteV) := by
  simp only [cellsOf, List.take_length]; rfl
theorem one_bytes : ∀ l : List Nat, (l.map byteV).all AV.one = true
  | [] => rfl
  | _ :: l => by rw [List.map_cons, List.all_cons, one_bytes l]; rfl
theorem app_nils {h : Heap} {bs : List Nat} (h0 : 0 < bs.length) (h1 : bs.length ≤ 140737488355328) :
    appendV h 1 1 5 .nils (.str bs) = some (.sl h.next 0 bs.length bs.length 1, h.mk' h.next (.cells (bs.map byteV) 5 0)) := by
  simp only [appendV, lenV, cells_str, List.length_map, Nat.mul_one, one_bytes, and_self, if_true]
  rw [if_neg (by omega), if_pos h1]
theorem app_sl {h : Heap} {c ver : Nat} {e : TypeId} {s bs : List Nat} (hg : h.get c = some (.cells (s.map byteV) e ver)) (h0 : 0 < bs.length) (h1 : s.length + bs.length ≤ 140737488355328) :
    appendV h 1 1 5 (.sl c 0 s.length s.length 1) (.str bs) = some (.sl h.next 0 (s ++ bs).length (s ++ bs).length 1, (h.put c .dead).mk' h.next (.cells ((s ++ bs).map byteV) 5 0)) := by
  have hc : cellsOf h 1 s.length (.sl c 0 s.length s.length 1) = some (s.map byteV) := by
    have e : (s.map byteV).length = s.length := List.length_map _
    simp only [cellsOf, Nat.le_refl, if_true, hg, cut_eq, List.drop_zero, Nat.mul_one]
    rw [← e, List.take_length, if_pos rfl]
  have hb : Nat.beq 1 1 = true := rfl
  simp only [appendV, lenV, cells_str, List.length_map, Nat.mul_one, one_bytes, and_self, if_true, hb, cond_true, hc]
  rw [if_neg (by omega), if_pos h1, List.map_append, List.length_append]
/-- the writer at block b has written s; the blocks k stand -/
structure WR (k : List (Nat × Blk)) (h : Heap) (b : Nat) (s : List Nat) : Prop where
  lt : b < h.next
  out : ∃ v e ver, h.get b = some (.cells [v] e ver) ∧ ((v = .nils ∧ s = []) ∨ ∃ c e' ver', v = .sl c 0 s.length s.length 1 ∧ c < h.next ∧ c ≠ b ∧ (∀ p ∈ k, p.1 ≠ c) ∧ h.get c = some (.cells (s.map byteV) e' ver'))
  keep : ∀ p ∈ k, p.1 < h.next ∧ p.1 ≠ b ∧ h.get p.1 = some p.2
theorem WR.add {k : List (Nat × Blk)} {h : Heap} {b : Nat} {s : List Nat} (w : WR k h b s) (x : Blk) : WR ((h.next, x) :: k) (h.mk' h.next x) b s := by
  have hn : (h.mk' h.next x).next = h.next + 1 := by rw [mk_next]; omega
  refine ⟨by rw [hn]; have := w.lt; omega, ?_, ?_⟩
  · obtain ⟨v, e, ver, h1, h2⟩ := w.out
    have hb := w.lt
    refine ⟨v, e, ver, by rw [Heap.get_mk, if_neg (by omega)]; exact h1, ?_⟩
    rcases h2 with h2 | ⟨c, e', ver', rfl, h3, h4, h5, h6⟩
    · exact .inl h2
    · refine .inr ⟨c, e', ver', rfl, by rw [hn]; omega, h4, ?_, by rw [Heap.get_mk, if_neg (by omega)]; exact h6⟩
      intro p hp
      rcases List.mem_cons.1 hp with rfl | hp
      · simp only; omega
      · exact h5 p hp
  · intro p hp
    rcases List.mem_cons.1 hp with rfl | hp
    · refine ⟨by rw [hn]; simp only; omega, by have := w.lt; simp only; omega, by simp only [Heap.get_mk, if_true]⟩
    · obtain ⟨h1, h2, h3⟩ := w.keep p hp
      exact ⟨by rw [hn]; omega, h2, by rw [Heap.get_mk, if_neg (by omega)]; exact h3⟩
theorem WR.upd {k : List (Nat × Blk)} {h : Heap} {b d : Nat} {B : Blk} {s : List Nat} (w : WR ((d, B) :: k) h b s) (hd : ∀ p ∈ k, p.1 ≠ d) (x : Blk) : WR ((d, x) :: k) (h.put d x) b s := by
  have hb : d ≠ b := (w.keep (d, B) List.mem_cons_self).2.1
  have hl : d < h.next := (w.keep (d, B) List.mem_cons_self).1
  refine ⟨w.lt, ?_, ?_⟩
  · obtain ⟨v, e, ver, h1, h2⟩ := w.out
    refine ⟨v, e, ver, by rw [Heap.get_put, if_neg (fun e => hb e.symm)]; exact h1, ?_⟩
    rcases h2 with h2 | ⟨c, e', ver', rfl, h3, h4, h5, h6⟩
    · exact .inl h2
    · have hc : d ≠ c := h5 (d, B) List.mem_cons_self
      refine .inr ⟨c, e', ver', rfl, h3, h4, ?_, by rw [Heap.get_put, if_neg (fun e => hc e.symm)]; exact h6⟩
      intro p hp
      rcases List.mem_cons.1 hp with rfl | hp
      · exact hc
      · exact h5 p (List.mem_cons_of_mem _ hp)
  · intro p hp
    rcases List.mem_cons.1 hp with rfl | hp
    · exact ⟨hl, hb, by simp only [Heap.get_put, if_true]⟩
    · obtain ⟨h1, h2, h3⟩ := w.keep p (List.mem_cons_of_mem _ hp)
      exact ⟨h1, h2, by rw [Heap.get_put, if_neg (hd p hp)]; exact h3⟩
theorem WR.fresh {k : List (Nat × Blk)} {h : Heap} {b : Nat} {s : List Nat} (w : WR k h b s) : ∀ p ∈ k, p.1 ≠ h.next := fun p hp e => by have := (w.keep p hp).1; omega
theorem WR.less {p : Nat × Blk} {k : List (Nat × Blk)} {h : Heap} {b : Nat} {s : List Nat} (w : WR (p :: k) h b s) : WR k h b s := by
  refine ⟨w.lt, ?_, fun q hq => w.keep q (List.mem_cons_of_mem _ hq)⟩
  obtain ⟨v, e, ver, h1, h2⟩ := w.out
  refine ⟨v, e, ver, h1, ?_⟩
  rcases h2 with h2 | ⟨c, e', ver', rfl, h3, h4, h5, h6⟩
  · exact .inl h2
  · exact .inr ⟨c, e', ver', rfl, h3, h4, fun q hq => h5 q (List.mem_cons_of_mem _ hq), h6⟩
theorem WR.next {k : List (Nat × Blk)} {h h0 : Heap} {b : Nat} {s t : List Nat} (w : WR k h b s) (hn : h0.next = h.next) (hg : ∀ p ∈ k, h0.get p.1 = h.get p.1) {e e' : TypeId} {ver v' : Nat} :
    WR k ((h0.mk' h.next (.cells (t.map byteV) e' v')).put b (.cells [.sl h.next 0 t.length t.length 1] e ver)) b t := by
  have hb := w.lt
  have hnx : ((h0.mk' h.next (.cells (t.map byteV) e' v')).put b (.cells [.sl h.next 0 t.length t.length 1] e ver)).next = h.next + 1 := by
    rw [put_next, mk_next]; omega
  refine ⟨by rw [hnx]; omega, ⟨_, e, ver, by rw [Heap.get_put, if_pos rfl], .inr ⟨h.next, e', v', rfl, by rw [hnx]; omega, by omega, ?_, ?_⟩⟩, ?_⟩
  · intro p hp; have := (w.keep p hp).1; omega
  · rw [Heap.get_put, if_neg (by omega), Heap.get_mk, if_pos rfl]
  · intro p hp
    obtain ⟨h1, h2, h3⟩ := w.keep p hp
    exact ⟨by rw [hnx]; omega, h2, by rw [Heap.get_put, if_neg h2, Heap.get_mk, if_neg (by omega), hg p hp, h3]⟩
section
variable {P : Program}
theorem wnum (g : Pg P tab) {x : Int} {n : Nat} (hp : Pu P 89 [.int .i64 x, .int .i64 n] (fun v => v = .str (numB x n))) (hn : 0 < n) {k : List (Nat × Blk)} {h : Heap} {b : Nat} {s : List Nat} (w : WR k h b s)
    (hl : s.length + n ≤ 140737488355328) {Q : AV → Heap → Prop} (q : ∀ v h', WR k h' b (s ++ numB x n) → Q v h') : Cl P 46 [.ptr b 0, .int .i64 x, .int .i64 n] h Q := by
  refine g.cl (vf := v46) rfl rfl ?_
  obtain ⟨v, e, ver, hb, ho⟩ := w.out
  have hlt := w.lt
  simp +contextual (maxSteps := 2000000) only [v46, RW, RX, VOp.fresh, bxC, bsC, un, most, callsOf, seval, Int.reducePow, ↓reduceIte, Nat.reduceEqDiff, reduceCtorEq]
  refine EvD.lk (fun f args h => (.str (numB x n), h)) ?_
  have hc : ∀ h, OK P 89 [.int .i64 x, .int .i64 n] h (.str (numB x n)) h := fun h => hp.exact rfl
  have hne : ¬ b = h.next := by omega
  rcases ho with ⟨rfl, rfl⟩ | ⟨c, e', ver', rfl, h3, h4, h5, h6⟩
  · have ha : ∀ h, appendV h 1 1 5 .nils (.str (numB x n)) = _ := fun h => app_nils (bs := numB x n) (by rw [numB_len]; omega) (by rw [numB_len]; simp at hl; omega)
    simp +contextual (maxSteps := 2000000) only [RW, hc, hb, ha, hne, RX, VOp.fresh, bxC, bsC, un, most, callsOf, seval, Int.reducePow, ↓reduceIte, Nat.reduceEqDiff, reduceCtorEq]
    refine ⟨⟨⟨?_, trivial⟩, trivial⟩, q _ _ (w.next rfl fun _ _ => rfl)⟩
    · show Lk _ _ _ _
      simp +contextual (maxSteps := 2000000) only [Lk, wanted, hb, RX, VOp.fresh, bxC, bsC, un, most, callsOf, seval, Int.reducePow, ↓reduceIte, Nat.reduceEqDiff, reduceCtorEq]
  · have ha := app_sl (bs := numB x n) h6 (by rw [numB_len]; omega) (by rw [numB_len]; omega)
    have h4' : ¬ b = c := fun e => h4 e.symm
    simp +contextual (maxSteps := 2000000) only [RW, hc, hb, ha, hne, h4', RX, VOp.fresh, bxC, bsC, un, most, callsOf, seval, Int.reducePow, ↓reduceIte, Nat.reduceEqDiff, reduceCtorEq]
    refine ⟨⟨⟨?_, trivial⟩, trivial⟩, q _ _ (w.next (h0 := h.put c .dead) rfl fun p hp => by rw [Heap.get_put, if_neg (h5 p hp)])⟩
    · show Lk _ _ _ _
      simp +contextual (maxSteps := 2000000) only [Lk, wanted, hb, RX, VOp.fresh, bxC, bsC, un, most, callsOf, seval, Int.reducePow, ↓reduceIte, Nat.reduceEqDiff, reduceCtorEq]
end
end Go.Proofs.Ytinonmcnofjeeaa.VM
namespace Go.Proofs.Ytinonmcnofjeeaa.VM
attribute [local irreducible] Af Nx EvO Ev Un Gd Cd EvR EvQ EvC Nc Gc Lp EvM NxM AfM GdM EvMR EvMQ EvMD EvMC Nm Gm
def ptB (p : Pt) : List Nat := numB p.x 4 ++ numB p.y 4
def ringB (r : List Pt) : List Nat := numB r.length 1 ++ (r.map ptB).flatten
def featB (f : Feat) : List Nat := numB f.id 2 ++ (numB f.shape 1 ++ (numB f.rings.length 1 ++ (f.rings.map ringB).flatten))
def mpB (m : Mp) : List Nat := numB m.epoch 2 ++ (numB m.starts.length 1 ++ ((m.starts.map (numB · 4)).flatten ++ (m.owners.map (numB · 1)).flatten))
def opB (o : Op) : List Nat := numB o.kind 1 ++ (if o.kind = 0 then featB o.f else if o.kind = 1 then numB o.id 2 else mpB o.m)
def opsB (l : List Op) : List Nat := numB l.length 1 ++ (l.map opB).flatten
def txB (a b : Int) : List Nat := numB a 1 ++ numB b 2
def bitB (b : Bool) : List Nat := numB (if b then 1 else 0) 1
theorem flat_take {α : Type} (F : α → List Nat) (l : List α) (i : Nat) (hi : i < l.length) : ((l.take i).map F).flatten ++ F l[i] = ((l.take (i + 1)).map F).flatten := by
  rw [List.take_add_one, List.getElem?_eq_getElem hi, List.map_append, List.flatten_append]; simp
theorem getD_int {l : List Int} {i : Nat} (hi : i < l.length) : l.getD i 0 = l[i] := by simp [List.getD_eq_getElem?_getD, List.getElem?_eq_getElem hi]
theorem flatB_len {α : Type} {F : α → List Nat} {B : Nat} : ∀ {l : List α}, (∀ x ∈ l, (F x).length ≤ B) → (l.map F).flatten.length ≤ l.length * B
  | [], _ => by simp
  | a :: l, h => by
    have h1 := flatB_len (F := F) (B := B) (l := l) fun x hx => h x (List.mem_cons_of_mem _ hx)
    have h2 := h a (by simp)
    rw [List.map_cons, List.flatten_cons, List.length_append, List.length_cons, Nat.add_mul]; omega
theorem flat_lenT {α : Type} {F : α → List Nat} {B : Nat} {l : List α} (h : ∀ x ∈ l, (F x).length ≤ B) (i : Nat) : ((l.take i).map F).flatten.length ≤ l.length * B := by
  have h1 := flatB_len (F := F) (B := B) (l := l.take i) fun x hx => h x (List.mem_of_mem_take hx)
  have h2 : (l.take i).length ≤ l.length := by rw [List.length_take]; omega
  exact Nat.le_trans h1 (Nat.mul_le_mul_right _ h2)
theorem getD_pt {l : List Pt} {i : Nat} (hi : i < l.length) : l.getD i ⟨0, 0⟩ = l[i] := by simp [List.getD_eq_getElem?_getD, List.getElem?_eq_getElem hi]
theorem getD_ring {l : List (List Pt)} {i : Nat} (hi : i < l.length) : l.getD i [] = l[i] := by simp [List.getD_eq_getElem?_getD, List.getElem?_eq_getElem hi]
theorem getD_op {l : List Op} {i : Nat} (hi : i < l.length) : l.getD i op0 = l[i] := by simp [List.getD_eq_getElem?_getD, List.getElem?_eq_getElem hi]
theorem ptB_len (p : Pt) : (ptB p).length = 8 := by rw [ptB, List.length_append, numB_len, numB_len]
theorem ringB_len {r : List Pt} (h : r.length ≤ 1000) : (ringB r).length ≤ 8001 := by
  have := flatB_len (F := ptB) (B := 8) (l := r) fun x _ => by rw [ptB_len]; omega
  rw [ringB, List.length_append, numB_len]; omega
section
variable {P : Program}
def featSmall (f : Feat) : Prop := f.rings.length ≤ 1000 ∧ ∀ r ∈ f.rings, r.length ≤ 1000
theorem featB_len {f : Feat} (h : featSmall f) : (featB f).length ≤ 9000000 := by
  have h1 := h.1
  have := flatB_len (F := ringB) (B := 8001) (l := f.rings) (fun x hx => ringB_len (h.2 x hx))
  rw [featB, List.length_append, List.length_append, List.length_append, numB_len, numB_len, numB_len]; omega
theorem mpB_len {m : Mp} (h : m.starts.length ≤ 1000) (h' : m.owners.length ≤ 1000) : (mpB m).length ≤ 6000 := by
  have h1 := flatB_len (F := (numB · 4)) (B := 4) (l := m.starts) (fun x _ => by simp only [numB_len]; omega)
  have h2 := flatB_len (F := (numB · 1)) (B := 1) (l := m.owners) (fun x _ => by simp only [numB_len]; omega)
  rw [mpB, List.length_append, List.length_append, List.length_append, numB_len, numB_len]; omega
end
def opSmall (o : Op) : Prop := featSmall o.f ∧ o.m.starts.length ≤ 1000 ∧ o.m.owners.length ≤ 1000
theorem featOk_small {f : Feat} (h : featOk f) : featSmall f := by
  obtain ⟨_, _, h1, h2, h3⟩ := h
  refine ⟨by omega, fun r hr => ?_⟩
  obtain ⟨i, hi, rfl⟩ := List.mem_iff_getElem.1 hr
  rw [← getD_ring hi]
  rcases h3 with ⟨_, a, b, _⟩ | ⟨_, a, _, b, _⟩ | ⟨_, a⟩
  · have : i = 0 := by omega
    subst this; omega
  · have : i = 0 := by omega
    subst this; omega
  · have := (a i hi).2.1
    omega
theorem ftZero_small {f : Feat} (h : ftZero f) : featSmall f := by
  obtain ⟨_, _, h⟩ := h
  exact ⟨by rw [h]; simp, fun r hr => by rw [h] at hr; simp at hr⟩
theorem opOk_small {o : Op} (h : opOk 8 o) : opSmall o := by
  rcases h with ⟨_, h1, _, _, h2, h3⟩ | ⟨_, _, _, h1, _, h2, h3⟩ | ⟨_, h2, _, h1⟩
  · exact ⟨featOk_small h1, by rw [h2]; simp, by rw [h3]; simp⟩
  · exact ⟨ftZero_small h1, by rw [h2]; simp, by rw [h3]; simp⟩
  · obtain ⟨_, _, _, _, _, a, b, _⟩ := h2
    exact ⟨ftZero_small h1, by omega, by omega⟩
theorem opB_len {o : Op} (h : opSmall o) : (opB o).length ≤ 9000001 := by
  have h1 := featB_len h.1
  have h2 := mpB_len h.2.1 h.2.2
  rw [opB, List.length_append, numB_len]
  split
  · omega
  · split
    · rw [numB_len]; omega
    · omega
end Go.Proofs.Ytinonmcnofjeeaa.VM
namespace Go.Proofs.Ytinonmcnofjeeaa.VM
attribute [local irreducible] Af Nx EvO Ev Un Gd Cd EvR EvQ EvC Nc Gc Lp EvM NxM AfM GdM EvMR EvMQ EvMD EvMC Nm Gm
section
variable {P : Program}
theorem wname (g : Pg P tab) {x y : Int} {k : List (Nat × Blk)} {h : Heap} {b : Nat} {s : List Nat} (w : WR k h b s)
    (hl : s.length + 3 ≤ 140737488355328) {Q : AV → Heap → Prop} (q : ∀ v h', WR k h' b (s ++ txB x y) → Q v h') : Cl P 48 [.ptr b 0, .agg [.int .i64 x, .int .i64 y]] h Q := by
  refine g.cl (vf := v48) rfl rfl ?_
  simp only [v48, RX, VOp.fresh, bxC, bsC, un, most, callsOf, seval, Int.reducePow, ↓reduceIte, Nat.reduceEqDiff, reduceCtorEq]
  refine wnum (n := 1) g (num1_pu g x) (by decide) (w.add _) (by omega) fun v h1 w1 => ?_
  have hk := (w1.keep _ List.mem_cons_self).2.2
  simp only at hk
  simp only [hk, RX, VOp.fresh, bxC, bsC, un, most, callsOf, seval, Int.reducePow, ↓reduceIte, Nat.reduceEqDiff, reduceCtorEq]
  refine wnum (n := 2) g (num2_pu g y) (by decide) w1 (by rw [List.length_append, numB_len]; omega) fun v h2 w2 => ?_
  simp only [RX, VOp.fresh, bxC, bsC, un, most, callsOf, seval, Int.reducePow, ↓reduceIte, Nat.reduceEqDiff, reduceCtorEq]
  exact q _ _ (by rw [txB, ← List.append_assoc]; exact w2.less)
theorem wbool (g : Pg P tab) {t : Bool} {k : List (Nat × Blk)} {h : Heap} {b : Nat} {s : List Nat} (w : WR k h b s)
    (hl : s.length + 1 ≤ 140737488355328) {Q : AV → Heap → Prop} (q : ∀ v h', WR k h' b (s ++ bitB t) → Q v h') : Cl P 50 [.ptr b 0, .bool t] h Q := by
  refine g.cl (vf := v50) rfl rfl ?_
  cases t
  · simp only [v50, RX, VOp.fresh, bxC, bsC, un, most, callsOf, seval, Int.reducePow, ↓reduceIte, Nat.reduceEqDiff, reduceCtorEq]
    refine wnum (n := 1) g (num1_pu g 0) (by decide) w (by omega) fun v h1 w1 => ?_
    simp only [RX, VOp.fresh, bxC, bsC, un, most, callsOf, seval, Int.reducePow, ↓reduceIte, Nat.reduceEqDiff, reduceCtorEq]
    exact q _ _ w1
  · simp only [v50, RX, VOp.fresh, bxC, bsC, un, most, callsOf, seval, Int.reducePow, ↓reduceIte, Nat.reduceEqDiff, reduceCtorEq]
    refine wnum (n := 1) g (num1_pu g 1) (by decide) w (by omega) fun v h1 w1 => ?_
    simp only [RX, VOp.fresh, bxC, bsC, un, most, callsOf, seval, Int.reducePow, ↓reduceIte, Nat.reduceEqDiff, reduceCtorEq]
    exact q _ _ w1
theorem wstarts (g : Pg P tab) {l : List Int} {a : AV} (ha : IsL 8 RInt a l) {K : List (Nat × Blk)} {b : Nat} {p : AV} (acc : List Nat) (hacc : acc.length + l.length * 4 ≤ 140737488000000) (n : Nat) :
    ∀ (i : Nat) (s : T AV) (h : Heap) (k : List Fr) (Q : Ex → T AV → Heap → Prop), i + n = l.length → WR K h b (acc ++ ((l.take i).map (numB · 4)).flatten) → sg s 0 = .ptr b 0 → sg s 1 = p → sg s 24 = a → sg s 25 = .int .i64 l.length → sg s 26 = .int .i64 i →
      (∀ s' h', WR K h' b (acc ++ (l.map (numB · 4)).flatten) → sg s' 0 = .ptr b 0 → sg s' 1 = p → Un P k Q (.exit 0) s' h') → Lp P b47_0 s h (Un P k Q) := by
  have hb := ha.bound (by decide)
  induction n with
  | zero =>
    intro i s h k Q hi w h0 h1 h24 h25 h26 hK
    refine g.lpe b47_0.eq_1 ?_
    have c1 : ¬ ((i : Int) < (l.length : Int)) := by omega
    simp only [h0, h1, h24, h25, h26, c1, RX, VOp.fresh, bxC, bsC, un, most, callsOf, seval, Int.reducePow, ↓reduceIte, Nat.reduceEqDiff, reduceCtorEq]
    have : l.take i = l := List.take_of_length_le (by omega)
    rw [this] at w
    refine hK _ _ w ?_ ?_
    · simp only [h0, sg_set, Nat.reduceEqDiff, ↓reduceIte]
    · simp only [h1, sg_set, Nat.reduceEqDiff, ↓reduceIte]
  | succ n ih =>
    intro i s h k Q hi w h0 h1 h24 h25 h26 hK
    refine g.lpe b47_0.eq_1 ?_
    have c1 : (i : Int) < (l.length : Int) := by omega
    obtain ⟨r1, _, g1⟩ := getInt ha i (by omega)
    have w1 : IntKind.i64.wrap ((i : Int) + 1) = ((i + 1 : Nat) : Int) := by rw [w64 (by omega) (by omega)]; push_cast; rfl
    have hlt : (acc ++ ((l.take i).map (numB · 4)).flatten).length + 4 ≤ 140737488355328 := by
      have := flat_lenT (F := (numB · 4)) (B := 4) (l := l) (fun x _ => by simp only [numB_len]; omega) i
      rw [List.length_append]; omega
    simp only [h0, h1, h24, h25, h26, c1, g1, RX, VOp.fresh, bxC, bsC, un, most, callsOf, seval, Int.reducePow, ↓reduceIte, Nat.reduceEqDiff, reduceCtorEq]
    refine wnum (n := 4) g (num4_pu g _) (by decide) w hlt fun v h' w' => ?_
    simp only [h0, h1, h24, h25, h26, w1, RX, VOp.fresh, bxC, bsC, un, most, callsOf, seval, Int.reducePow, ↓reduceIte, Nat.reduceEqDiff, reduceCtorEq]
    rw [List.append_assoc, getD_int (by omega), flat_take (numB · 4) l i (by omega)] at w'
    refine ih (i + 1) _ h' k Q (by omega) w' ?_ ?_ ?_ ?_ ?_ hK
    · simp only [h0, sg_set, Nat.reduceEqDiff, ↓reduceIte]
    · simp only [h1, sg_set, Nat.reduceEqDiff, ↓reduceIte]
    · simp only [h24, sg_set, Nat.reduceEqDiff, ↓reduceIte]
    · simp only [h25, sg_set, Nat.reduceEqDiff, ↓reduceIte]
    · simp only [sg_set, Nat.reduceEqDiff, ↓reduceIte]
theorem wowners (g : Pg P tab) {l : List Int} {a : AV} (ha : IsL 8 RInt a l) {K : List (Nat × Blk)} {b : Nat} (acc : List Nat) (hacc : acc.length + l.length * 1 ≤ 140737488000000) (n : Nat) :
    ∀ (i : Nat) (s : T AV) (h : Heap) (k : List Fr) (Q : Ex → T AV → Heap → Prop), i + n = l.length → WR K h b (acc ++ ((l.take i).map (numB · 1)).flatten) → sg s 0 = .ptr b 0 → sg s 37 = a → sg s 38 = .int .i64 l.length → sg s 39 = .int .i64 i →
      (∀ s' h', WR K h' b (acc ++ (l.map (numB · 1)).flatten) → sg s' 0 = .ptr b 0 → Un P k Q (.exit 2) s' h') → Lp P b47_1 s h (Un P k Q) := by
  have hb := ha.bound (by decide)
  induction n with
  | zero =>
    intro i s h k Q hi w h0 h24 h25 h26 hK
    refine g.lpe b47_1.eq_1 ?_
    have c1 : ¬ ((i : Int) < (l.length : Int)) := by omega
    simp only [h0, h24, h25, h26, c1, RX, VOp.fresh, bxC, bsC, un, most, callsOf, seval, Int.reducePow, ↓reduceIte, Nat.reduceEqDiff, reduceCtorEq]
    have : l.take i = l := List.take_of_length_le (by omega)
    rw [this] at w
    refine hK _ _ w ?_
    · simp only [h0, sg_set, Nat.reduceEqDiff, ↓reduceIte]
  | succ n ih =>
    intro i s h k Q hi w h0 h24 h25 h26 hK
    refine g.lpe b47_1.eq_1 ?_
    have c1 : (i : Int) < (l.length : Int) := by omega
    obtain ⟨r1, _, g1⟩ := getInt ha i (by omega)
    have w1 : IntKind.i64.wrap ((i : Int) + 1) = ((i + 1 : Nat) : Int) := by rw [w64 (by omega) (by omega)]; push_cast; rfl
    have hlt : (acc ++ ((l.take i).map (numB · 1)).flatten).length + 1 ≤ 140737488355328 := by
      have := flat_lenT (F := (numB · 1)) (B := 1) (l := l) (fun x _ => by simp only [numB_len]; omega) i
      rw [List.length_append]; omega
    simp only [h0, h24, h25, h26, c1, g1, RX, VOp.fresh, bxC, bsC, un, most, callsOf, seval, Int.reducePow, ↓reduceIte, Nat.reduceEqDiff, reduceCtorEq]
    refine wnum (n := 1) g (num1_pu g _) (by decide) w hlt fun v h' w' => ?_
    simp only [h0, h24, h25, h26, w1, RX, VOp.fresh, bxC, bsC, un, most, callsOf, seval, Int.reducePow, ↓reduceIte, Nat.reduceEqDiff, reduceCtorEq]
    rw [List.append_assoc, getD_int (by omega), flat_take (numB · 1) l i (by omega)] at w'
    refine ih (i + 1) _ h' k Q (by omega) w' ?_ ?_ ?_ ?_ hK
    · simp only [h0, sg_set, Nat.reduceEqDiff, ↓reduceIte]
    · simp only [h24, sg_set, Nat.reduceEqDiff, ↓reduceIte]
    · simp only [h25, sg_set, Nat.reduceEqDiff, ↓reduceIte]
    · simp only [sg_set, Nat.reduceEqDiff, ↓reduceIte]
def mapArg (K : List (Nat × Blk)) (m : Mp) (a u p : AV) : Prop := (∃ r, p = .rp (.int .i64 m.epoch :: a :: u :: r)) ∨ ∃ c0 c1 c2 c3 c4 r e ver, p = .ptr 0 5 ∧ ((0, .cells (c0 :: c1 :: c2 :: c3 :: c4 :: .int .i64 m.epoch :: a :: u :: r) e ver) : Nat × Blk) ∈ K
theorem wmap (g : Pg P tab) {m : Mp} {a u p : AV} (ha : IsL 8 RInt a m.starts) (hu : IsL 8 RInt u m.owners) (hs : m.starts.length ≤ 1000) (ho : m.owners.length ≤ 1000) {K : List (Nat × Blk)} (hp : mapArg K m a u p) {h : Heap} {b : Nat} {s : List Nat} (w : WR K h b s)
    (hl : s.length ≤ 100000000000) {Q : AV → Heap → Prop} (q : ∀ v h', WR K h' b (s ++ mpB m) → Q v h') : Cl P 47 [.ptr b 0, p] h Q := by
  refine g.cl (vf := v47) rfl rfl ?_
  rcases hp with ⟨r, rfl⟩ | ⟨c0, c1, c2, c3, c4, r, e, ver, rfl, hm⟩
  · skip
    simp only [v47, RX, VOp.fresh, bxC, bsC, un, most, callsOf, seval, Int.reducePow, ↓reduceIte, Nat.reduceEqDiff, reduceCtorEq]
    refine wnum (n := 2) g (num2_pu g _) (by decide) w (by omega) fun v h1 w1 => ?_
    simp only [ha.len, RX, VOp.fresh, bxC, bsC, un, most, callsOf, seval, Int.reducePow, ↓reduceIte, Nat.reduceEqDiff, reduceCtorEq]
    refine wnum (n := 1) g (num1_pu g _) (by decide) w1 (by rw [List.length_append, numB_len]; omega) fun v h2 w2 => ?_
    simp only [ha.len, RX, VOp.fresh, bxC, bsC, un, most, callsOf, seval, Int.reducePow, ↓reduceIte, Nat.reduceEqDiff, reduceCtorEq]
    refine wstarts g ha (p := .rp (.int .i64 m.epoch :: a :: u :: r)) (s ++ numB m.epoch 2 ++ numB m.starts.length 1) (by rw [List.length_append, List.length_append, numB_len, numB_len]; omega) m.starts.length 0 _ _ _ _ (by omega) (by simpa using w2) ?_ ?_ ?_ ?_ ?_ ?_
    · simp only [sg_set, Nat.reduceEqDiff, ↓reduceIte]
    · simp only [sg_set, Nat.reduceEqDiff, ↓reduceIte]
    · simp only [sg_set, Nat.reduceEqDiff, ↓reduceIte]
    · simp only [sg_set, Nat.reduceEqDiff, ↓reduceIte]
    · simp only [sg_set, Nat.reduceEqDiff, ↓reduceIte]
      rfl
    · intro s' h3 w3 a0 a1
      simp only [a0, a1, hu.len, RX, VOp.fresh, bxC, bsC, un, most, callsOf, seval, Int.reducePow, ↓reduceIte, Nat.reduceEqDiff, reduceCtorEq]
      refine wowners g hu (s ++ numB m.epoch 2 ++ numB m.starts.length 1 ++ (m.starts.map (numB · 4)).flatten) ?_ m.owners.length 0 _ _ _ _ (by omega) (by simpa using w3) ?_ ?_ ?_ ?_ ?_
      · have := flatB_len (F := (numB · 4)) (B := 4) (l := m.starts) (fun x _ => by simp only [numB_len]; omega)
        rw [List.length_append, List.length_append, List.length_append, numB_len, numB_len]; omega
      · simp only [a0, sg_set, Nat.reduceEqDiff, ↓reduceIte]
      · simp only [sg_set, Nat.reduceEqDiff, ↓reduceIte]
      · simp only [sg_set, Nat.reduceEqDiff, ↓reduceIte]
      · simp only [sg_set, Nat.reduceEqDiff, ↓reduceIte]
        rfl
      · intro s' h4 w4 a0
        simp only [RX, VOp.fresh, bxC, bsC, un, most, callsOf, seval, Int.reducePow, ↓reduceIte, Nat.reduceEqDiff, reduceCtorEq]
        refine q _ _ ?_
        simpa only [mpB, List.append_assoc] using w4
  · skip
    have k0 := (w.keep _ hm).2.2
    simp only at k0
    simp only [v47, k0, RX, VOp.fresh, bxC, bsC, un, most, callsOf, seval, Int.reducePow, ↓reduceIte, Nat.reduceEqDiff, reduceCtorEq]
    refine wnum (n := 2) g (num2_pu g _) (by decide) w (by omega) fun v h1 w1 => ?_
    have k1 := (w1.keep _ hm).2.2
    simp only at k1
    simp only [k1, ha.len, RX, VOp.fresh, bxC, bsC, un, most, callsOf, seval, Int.reducePow, ↓reduceIte, Nat.reduceEqDiff, reduceCtorEq]
    refine wnum (n := 1) g (num1_pu g _) (by decide) w1 (by rw [List.length_append, numB_len]; omega) fun v h2 w2 => ?_
    have k2 := (w2.keep _ hm).2.2
    simp only at k2
    simp only [k2, ha.len, RX, VOp.fresh, bxC, bsC, un, most, callsOf, seval, Int.reducePow, ↓reduceIte, Nat.reduceEqDiff, reduceCtorEq]
    refine wstarts g ha (p := .ptr 0 5) (s ++ numB m.epoch 2 ++ numB m.starts.length 1) (by rw [List.length_append, List.length_append, numB_len, numB_len]; omega) m.starts.length 0 _ _ _ _ (by omega) (by simpa using w2) ?_ ?_ ?_ ?_ ?_ ?_
    · simp only [sg_set, Nat.reduceEqDiff, ↓reduceIte]
    · simp only [sg_set, Nat.reduceEqDiff, ↓reduceIte]
    · simp only [sg_set, Nat.reduceEqDiff, ↓reduceIte]
    · simp only [sg_set, Nat.reduceEqDiff, ↓reduceIte]
    · simp only [sg_set, Nat.reduceEqDiff, ↓reduceIte]
      rfl
    · intro s' h3 w3 a0 a1
      have k3 := (w3.keep _ hm).2.2
      simp only at k3
      simp only [a0, a1, k3, hu.len, RX, VOp.fresh, bxC, bsC, un, most, callsOf, seval, Int.reducePow, ↓reduceIte, Nat.reduceEqDiff, reduceCtorEq]
      refine wowners g hu (s ++ numB m.epoch 2 ++ numB m.starts.length 1 ++ (m.starts.map (numB · 4)).flatten) ?_ m.owners.length 0 _ _ _ _ (by omega) (by simpa using w3) ?_ ?_ ?_ ?_ ?_
      · have := flatB_len (F := (numB · 4)) (B := 4) (l := m.starts) (fun x _ => by simp only [numB_len]; omega)
        rw [List.length_append, List.length_append, List.length_append, numB_len, numB_len]; omega
      · simp only [a0, sg_set, Nat.reduceEqDiff, ↓reduceIte]
      · simp only [sg_set, Nat.reduceEqDiff, ↓reduceIte]
      · simp only [sg_set, Nat.reduceEqDiff, ↓reduceIte]
      · simp only [sg_set, Nat.reduceEqDiff, ↓reduceIte]
        rfl
      · intro s' h4 w4 a0
        simp only [RX, VOp.fresh, bxC, bsC, un, most, callsOf, seval, Int.reducePow, ↓reduceIte, Nat.reduceEqDiff, reduceCtorEq]
        refine q _ _ ?_
        simpa only [mpB, List.append_assoc] using w4
end
section
variable {P : Program}
theorem wpts (g : Pg P tab) {l : List Pt} {a : AV} (ha : IsL 16 RPt a l) {K : List (Nat × Blk)} {b : Nat} {x30 x31 x32 : AV} (acc : List Nat) (hacc : acc.length + l.length * 8 ≤ 140737488000000) (n : Nat) :
    ∀ (i : Nat) (s : T AV) (h : Heap) (k : List Fr) (Q : Ex → T AV → Heap → Prop), i + n = l.length → WR K h b (acc ++ ((l.take i).map ptB).flatten) → sg s 0 = .ptr b 0 → sg s 30 = x30 → sg s 31 = x31 → sg s 32 = x32 → sg s 40 = a → sg s 41 = .int .i64 l.length → sg s 42 = .int .i64 i →
      (∀ s' h', WR K h' b (acc ++ (l.map ptB).flatten) → sg s' 0 = .ptr b 0 → sg s' 30 = x30 → sg s' 31 = x31 → sg s' 32 = x32 → Un P k Q (.exit 2) s' h') → Lp P b73_0 s h (Un P k Q) := by
  have hb := ha.bound (by decide)
  induction n with
  | zero =>
    intro i s h k Q hi w h0 h30 h31 h32 h40 h41 h42 hK
    refine g.lpe b73_0.eq_1 ?_
    have c1 : ¬ ((i : Int) < (l.length : Int)) := by omega
    simp only [h0, h30, h31, h32, h40, h41, h42, c1, RX, VOp.fresh, bxC, bsC, un, most, callsOf, seval, Int.reducePow, ↓reduceIte, Nat.reduceEqDiff, reduceCtorEq]
    have : l.take i = l := List.take_of_length_le (by omega)
    rw [this] at w
    refine hK _ _ w ?_ ?_ ?_ ?_
    · simp only [h0, sg_set, Nat.reduceEqDiff, ↓reduceIte]
    · simp only [h30, sg_set, Nat.reduceEqDiff, ↓reduceIte]
    · simp only [h31, sg_set, Nat.reduceEqDiff, ↓reduceIte]
    · simp only [h32, sg_set, Nat.reduceEqDiff, ↓reduceIte]
  | succ n ih =>
    intro i s h k Q hi w h0 h30 h31 h32 h40 h41 h42 hK
    refine g.lpe b73_0.eq_1 ?_
    have c1 : (i : Int) < (l.length : Int) := by omega
    obtain ⟨r1, _, g1⟩ := getPt ha i (by omega)
    have w1 : IntKind.i64.wrap ((i : Int) + 1) = ((i + 1 : Nat) : Int) := by rw [w64 (by omega) (by omega)]; push_cast; rfl
    have hA0 : (acc ++ ((l.take i).map ptB).flatten).length + 8 ≤ 140737488355328 := by
      have := flat_lenT (F := ptB) (B := 8) (l := l) (fun x _ => by rw [ptB_len]; omega) i
      rw [List.length_append]; omega
    have hA1 : acc ++ ((l.take i).map ptB).flatten ++ ptB (l.getD i ⟨0, 0⟩) = acc ++ ((l.take (i + 1)).map ptB).flatten := by
      rw [getD_pt (by omega), List.append_assoc, flat_take ptB l i (by omega)]
    generalize acc ++ ((l.take i).map ptB).flatten = A at *
    generalize l.getD i ⟨0, 0⟩ = pt at *
    simp only [RW, h0, h30, h31, h32, h40, h41, h42, c1, g1, RX, VOp.fresh, bxC, bsC, un, most, callsOf, seval, Int.reducePow, ↓reduceIte, Nat.reduceEqDiff, reduceCtorEq]
    refine wnum (n := 4) g (num4_pu g _) (by decide) ((w.add _).upd w.fresh _) (by omega) fun v h1 w2 => ?_
    have hk := (w2.keep _ List.mem_cons_self).2.2
    simp only at hk
    simp only [h0, h30, h31, h32, h40, h41, h42, hk, RX, VOp.fresh, bxC, bsC, un, most, callsOf, seval, Int.reducePow, ↓reduceIte, Nat.reduceEqDiff, reduceCtorEq]
    refine wnum (n := 4) g (num4_pu g _) (by decide) w2 (by rw [List.length_append, numB_len]; omega) fun v h1 w3 => ?_
    simp only [h0, h30, h31, h32, h40, h41, h42, w1, RX, VOp.fresh, bxC, bsC, un, most, callsOf, seval, Int.reducePow, ↓reduceIte, Nat.reduceEqDiff, reduceCtorEq]
    have w4 := w3.less
    rw [List.append_assoc, ← ptB, hA1] at w4
    refine ih (i + 1) _ _ k Q (by omega) w4 ?_ ?_ ?_ ?_ ?_ ?_ ?_ hK
    · simp only [h0, sg_set, Nat.reduceEqDiff, ↓reduceIte]
    · simp only [h30, sg_set, Nat.reduceEqDiff, ↓reduceIte]
    · simp only [h31, sg_set, Nat.reduceEqDiff, ↓reduceIte]
    · simp only [h32, sg_set, Nat.reduceEqDiff, ↓reduceIte]
    · simp only [h40, sg_set, Nat.reduceEqDiff, ↓reduceIte]
    · simp only [h41, sg_set, Nat.reduceEqDiff, ↓reduceIte]
    · simp only [sg_set, Nat.reduceEqDiff, ↓reduceIte]
theorem wrings (g : Pg P tab) {l : List (List Pt)} {a : AV} (ha : IsL 24 RRing a l) (hl2 : ∀ r ∈ l, r.length ≤ 1000) {K : List (Nat × Blk)} {b : Nat} (acc : List Nat) (hacc : acc.length + l.length * 8001 ≤ 140737400000000) (n : Nat) :
    ∀ (i : Nat) (s : T AV) (h : Heap) (k : List Fr) (Q : Ex → T AV → Heap → Prop), i + n = l.length → WR K h b (acc ++ ((l.take i).map ringB).flatten) → sg s 0 = .ptr b 0 → sg s 30 = a → sg s 31 = .int .i64 l.length → sg s 32 = .int .i64 i →
      (∀ s' h', WR K h' b (acc ++ (l.map ringB).flatten) → Un P k Q (.exit 0) s' h') → Lp P b73_1 s h (Un P k Q) := by
  have hb := ha.bound (by decide)
  induction n with
  | zero =>
    intro i s h k Q hi w h0 h30 h31 h32 hK
    refine g.lpe b73_1.eq_1 ?_
    have c1 : ¬ ((i : Int) < (l.length : Int)) := by omega
    simp only [h0, h30, h31, h32, c1, RX, VOp.fresh, bxC, bsC, un, most, callsOf, seval, Int.reducePow, ↓reduceIte, Nat.reduceEqDiff, reduceCtorEq]
    have : l.take i = l := List.take_of_length_le (by omega)
    rw [this] at w
    exact hK _ _ w
  | succ n ih =>
    intro i s h k Q hi w h0 h30 h31 h32 hK
    refine g.lpe b73_1.eq_1 ?_
    have c1 : (i : Int) < (l.length : Int) := by omega
    obtain ⟨rv, r1, hrv, _, g1⟩ := getRing ha i (by omega)
    have hrl : (l.getD i []).length ≤ 1000 := by rw [getD_ring (by omega)]; exact hl2 _ (List.getElem_mem _)
    have w1 : IntKind.i64.wrap ((i : Int) + 1) = ((i + 1 : Nat) : Int) := by rw [w64 (by omega) (by omega)]; push_cast; rfl
    have hA0 : (acc ++ ((l.take i).map ringB).flatten).length ≤ 140737400000000 := by
      have := flat_lenT (F := ringB) (B := 8001) (l := l) (fun x hx => ringB_len (hl2 x hx)) i
      rw [List.length_append]; omega
    have hA1 : acc ++ ((l.take i).map ringB).flatten ++ ringB (l.getD i []) = acc ++ ((l.take (i + 1)).map ringB).flatten := by
      rw [getD_ring (by omega), List.append_assoc, flat_take ringB l i (by omega)]
    generalize acc ++ ((l.take i).map ringB).flatten = A at *
    generalize l.getD i [] = ring at *
    simp only [h0, h30, h31, h32, c1, g1, hrv.len, RX, VOp.fresh, bxC, bsC, un, most, callsOf, seval, Int.reducePow, ↓reduceIte, Nat.reduceEqDiff, reduceCtorEq]
    refine wnum (n := 1) g (num1_pu g _) (by decide) w (by omega) fun v h1 w2 => ?_
    simp only [h0, h30, h31, h32, hrv.len, RX, VOp.fresh, bxC, bsC, un, most, callsOf, seval, Int.reducePow, ↓reduceIte, Nat.reduceEqDiff, reduceCtorEq]
    refine wpts g hrv (x30 := a) (x31 := .int .i64 l.length) (x32 := .int .i64 i) (A ++ numB ring.length 1) (by rw [List.length_append, numB_len]; omega) ring.length 0 _ _ _ _ (by omega) (by simpa using w2) ?_ ?_ ?_ ?_ ?_ ?_ ?_ ?_
    · simp only [h0, sg_set, Nat.reduceEqDiff, ↓reduceIte]
    · simp only [h30, sg_set, Nat.reduceEqDiff, ↓reduceIte]
    · simp only [h31, sg_set, Nat.reduceEqDiff, ↓reduceIte]
    · simp only [h32, sg_set, Nat.reduceEqDiff, ↓reduceIte]
    · simp only [sg_set, Nat.reduceEqDiff, ↓reduceIte]
    · simp only [sg_set, Nat.reduceEqDiff, ↓reduceIte]
    · simp only [sg_set, Nat.reduceEqDiff, ↓reduceIte]
      rfl
    · intro s' h' w3 a0 a30 a31 a32
      simp only [a0, a30, a31, a32, w1, RX, VOp.fresh, bxC, bsC, un, most, callsOf, seval, Int.reducePow, ↓reduceIte, Nat.reduceEqDiff, reduceCtorEq]
      rw [List.append_assoc, ← ringB, hA1] at w3
      refine ih (i + 1) _ _ k Q (by omega) w3 ?_ ?_ ?_ ?_ hK
      · simp only [a0, sg_set, Nat.reduceEqDiff, ↓reduceIte]
      · simp only [a30, sg_set, Nat.reduceEqDiff, ↓reduceIte]
      · simp only [a31, sg_set, Nat.reduceEqDiff, ↓reduceIte]
      · simp only [sg_set, Nat.reduceEqDiff, ↓reduceIte]
theorem wfeat (g : Pg P tab) {f : Feat} {v : AV} (hv : IsL 24 RRing v f.rings) (hs : featSmall f) {r : List AV} {K : List (Nat × Blk)} {h : Heap} {b : Nat} {s : List Nat} (w : WR K h b s)
    (hl : s.length ≤ 100000000000) {Q : AV → Heap → Prop} (q : ∀ v h', WR K h' b (s ++ featB f) → Q v h') : Cl P 73 [.ptr b 0, .rp (.int .i64 f.id :: .int .i64 f.shape :: v :: r)] h Q := by
  refine g.cl (vf := v73) rfl rfl ?_
  simp only [v73, RX, VOp.fresh, bxC, bsC, un, most, callsOf, seval, Int.reducePow, ↓reduceIte, Nat.reduceEqDiff, reduceCtorEq]
  refine wnum (n := 2) g (num2_pu g _) (by decide) w (by omega) fun _ h1 w1 => ?_
  simp only [RX, VOp.fresh, bxC, bsC, un, most, callsOf, seval, Int.reducePow, ↓reduceIte, Nat.reduceEqDiff, reduceCtorEq]
  refine wnum (n := 1) g (num1_pu g _) (by decide) w1 (by rw [List.length_append, numB_len]; omega) fun _ h2 w2 => ?_
  simp only [hv.len, RX, VOp.fresh, bxC, bsC, un, most, callsOf, seval, Int.reducePow, ↓reduceIte, Nat.reduceEqDiff, reduceCtorEq]
  refine wnum (n := 1) g (num1_pu g _) (by decide) w2 (by rw [List.length_append, List.length_append, numB_len, numB_len]; omega) fun _ h3 w3 => ?_
  simp only [hv.len, RX, VOp.fresh, bxC, bsC, un, most, callsOf, seval, Int.reducePow, ↓reduceIte, Nat.reduceEqDiff, reduceCtorEq]
  refine wrings g hv hs.2 (s ++ numB f.id 2 ++ numB f.shape 1 ++ numB f.rings.length 1) ?_ f.rings.length 0 _ _ _ _ (by omega) (by simpa using w3) ?_ ?_ ?_ ?_ ?_
  · have := hs.1
    simp only [List.length_append, numB_len]; omega
  · simp only [sg_set, Nat.reduceEqDiff, ↓reduceIte]
  · simp only [sg_set, Nat.reduceEqDiff, ↓reduceIte]
  · simp only [sg_set, Nat.reduceEqDiff, ↓reduceIte]
  · simp only [sg_set, Nat.reduceEqDiff, ↓reduceIte]
    rfl
  · intro s' h4 w4
    simp only [RX, VOp.fresh, bxC, bsC, un, most, callsOf, seval, Int.reducePow, ↓reduceIte, Nat.reduceEqDiff, reduceCtorEq]
    refine q _ _ ?_
    simpa only [featB, List.append_assoc] using w4
end
section
variable {P : Program}
theorem wopsl (g : Pg P tab) {l : List Op} {a : AV} (ha : IsL 112 ROp a l) (hl : l.length ≤ 1000) (hs : ∀ o ∈ l, opSmall o) {K : List (Nat × Blk)} {b : Nat} (acc : List Nat) (hacc : acc.length ≤ 10000) (n : Nat) :
    ∀ (i : Nat) (s : T AV) (h : Heap) (k : List Fr) (Q : Ex → T AV → Heap → Prop), i + n = l.length → WR K h b (acc ++ ((l.take i).map opB).flatten) → sg s 0 = .ptr b 0 → sg s 2 = a → sg s 17 = .int .i64 l.length → sg s 18 = .int .i64 i →
      (∀ s' h', WR K h' b (acc ++ (l.map opB).flatten) → Un P k Q (.exit 0) s' h') → Lp P b49_0 s h (Un P k Q) := by
  have hb := ha.bound (by decide)
  induction n with
  | zero =>
    intro i s h k Q hi w h0 h2 h17 h18 hK
    refine g.lpe b49_0.eq_1 ?_
    have c1 : ¬ ((i : Int) < (l.length : Int)) := by omega
    simp only [h0, h2, h17, h18, c1, RX, VOp.fresh, bxC, bsC, un, most, callsOf, seval, Int.reducePow, ↓reduceIte, Nat.reduceEqDiff, reduceCtorEq]
    have : l.take i = l := List.take_of_length_le (by omega)
    rw [this] at w
    exact hK _ _ w
  | succ n ih =>
    intro i s h k Q hi w h0 h2 h17 h18 hK
    refine g.lpe b49_0.eq_1 ?_
    have c1 : (i : Int) < (l.length : Int) := by omega
    obtain ⟨c, r, hc, tc, tr, g1⟩ := getOp ha i (by omega)
    have hos : opSmall (l.getD i op0) := by rw [getD_op (by omega)]; exact hs _ (List.getElem_mem _)
    have w1 : IntKind.i64.wrap ((i : Int) + 1) = ((i + 1 : Nat) : Int) := by rw [w64 (by omega) (by omega)]; push_cast; rfl
    have hA0 : (acc ++ ((l.take i).map opB).flatten).length ≤ 10000000000 := by
      have := flat_lenT (F := opB) (B := 9000001) (l := l) (fun x hx => opB_len (hs x hx)) i
      rw [List.length_append]; omega
    have hA1 : acc ++ ((l.take i).map opB).flatten ++ opB (l.getD i op0) = acc ++ ((l.take (i + 1)).map opB).flatten := by
      rw [getD_op (by omega), List.append_assoc, flat_take opB l i (by omega)]
    generalize acc ++ ((l.take i).map opB).flatten = A at *
    generalize l.getD i op0 = o at *
    obtain ⟨fv, sv, uv, rfl, _, _, _, hfv, _, _, hsv, huv⟩ := hc
    simp only [h0, h2, h17, h18, c1, g1, List.cons_append, List.nil_append, RX, VOp.fresh, bxC, bsC, un, most, callsOf, seval, Int.reducePow, ↓reduceIte, Nat.reduceEqDiff, reduceCtorEq]
    refine wnum (n := 1) g (num1_pu g _) (by decide) w (by omega) fun _ h1 w2 => ?_
    have next : ∀ s' h', WR K h' b (A ++ opB o) → sg s' 0 = .ptr b 0 → sg s' 2 = a → sg s' 17 = .int .i64 l.length → sg s' 18 = .int .i64 ((i + 1 : Nat) : Int) → Lp P b49_0 s' h' (Un P k Q) := by
      intro s' h' w' a1 a2 a3 a4
      exact ih (i + 1) s' h' k Q (by omega) (by rw [← hA1]; exact w') a1 a2 a3 a4 hK
    by_cases e0 : o.kind = 0
    · simp only [h0, h2, h17, h18, e0, RX, VOp.fresh, bxC, bsC, un, most, callsOf, seval, Int.reducePow, ↓reduceIte, Nat.reduceEqDiff, reduceCtorEq]
      refine wfeat g hfv hos.1 w2 (by rw [List.length_append, numB_len]; omega) fun _ h3 w3 => ?_
      simp only [h0, h2, h17, h18, w1, RX, VOp.fresh, bxC, bsC, un, most, callsOf, seval, Int.reducePow, ↓reduceIte, Nat.reduceEqDiff, reduceCtorEq]
      refine next _ _ ?_ ?_ ?_ ?_ ?_
      · rw [opB, e0, if_pos rfl, ← List.append_assoc, ← e0]; exact w3
      · simp only [h0, sg_set, Nat.reduceEqDiff, ↓reduceIte]
      · simp only [h2, sg_set, Nat.reduceEqDiff, ↓reduceIte]
      · simp only [h17, sg_set, Nat.reduceEqDiff, ↓reduceIte]
      · simp only [sg_set, Nat.reduceEqDiff, ↓reduceIte]
    · by_cases e1 : o.kind = 1
      · simp only [h0, h2, h17, h18, e1, RX, VOp.fresh, bxC, bsC, un, most, callsOf, seval, Int.reducePow, ↓reduceIte, Nat.reduceEqDiff, reduceCtorEq]
        refine wnum (n := 2) g (num2_pu g _) (by decide) w2 (by rw [List.length_append, numB_len]; omega) fun _ h3 w3 => ?_
        simp only [h0, h2, h17, h18, w1, RX, VOp.fresh, bxC, bsC, un, most, callsOf, seval, Int.reducePow, ↓reduceIte, Nat.reduceEqDiff, reduceCtorEq]
        refine next _ _ ?_ ?_ ?_ ?_ ?_
        · rw [opB, if_neg e0, if_pos e1, ← List.append_assoc]; exact w3
        · simp only [h0, sg_set, Nat.reduceEqDiff, ↓reduceIte]
        · simp only [h2, sg_set, Nat.reduceEqDiff, ↓reduceIte]
        · simp only [h17, sg_set, Nat.reduceEqDiff, ↓reduceIte]
        · simp only [sg_set, Nat.reduceEqDiff, ↓reduceIte]
      · simp only [h0, h2, h17, h18, e0, e1, RX, VOp.fresh, bxC, bsC, un, most, callsOf, seval, Int.reducePow, ↓reduceIte, Nat.reduceEqDiff, reduceCtorEq]
        refine wmap g hsv huv hos.2.1 hos.2.2 (.inl ⟨_, rfl⟩) w2 (by rw [List.length_append, numB_len]; omega) fun _ h3 w3 => ?_
        simp only [h0, h2, h17, h18, w1, RX, VOp.fresh, bxC, bsC, un, most, callsOf, seval, Int.reducePow, ↓reduceIte, Nat.reduceEqDiff, reduceCtorEq]
        refine next _ _ ?_ ?_ ?_ ?_ ?_
        · rw [opB, if_neg e0, if_neg e1, ← List.append_assoc]; exact w3
        · simp only [h0, sg_set, Nat.reduceEqDiff, ↓reduceIte]
        · simp only [h2, sg_set, Nat.reduceEqDiff, ↓reduceIte]
        · simp only [h17, sg_set, Nat.reduceEqDiff, ↓reduceIte]
        · simp only [sg_set, Nat.reduceEqDiff, ↓reduceIte]
theorem wops (g : Pg P tab) {l : List Op} {a : AV} (ha : IsL 112 ROp a l) (hl : l.length ≤ 1000) (hs : ∀ o ∈ l, opSmall o) {base : Int} (hb1 : -100000 ≤ base) (hb2 : base ≤ 100000) {K : List (Nat × Blk)} {h : Heap} {b : Nat} {s : List Nat} (w : WR K h b s)
    (hsl : s.length ≤ 1000) {Q : AV → Heap → Prop} (q : ∀ v h', WR K h' b (s ++ (numB (base + 1) 4 ++ opsB l)) → Q v h') : Cl P 49 [.ptr b 0, .int .i64 base, a] h Q := by
  refine g.cl (vf := v49) rfl rfl ?_
  have w0 : IntKind.i64.wrap (base + 1) = base + 1 := w64 (by omega) (by omega)
  simp only [v49, w0, RX, VOp.fresh, bxC, bsC, un, most, callsOf, seval, Int.reducePow, ↓reduceIte, Nat.reduceEqDiff, reduceCtorEq]
  refine wnum (n := 4) g (num4_pu g _) (by decide) w (by omega) fun _ h1 w1 => ?_
  simp only [ha.len, RX, VOp.fresh, bxC, bsC, un, most, callsOf, seval, Int.reducePow, ↓reduceIte, Nat.reduceEqDiff, reduceCtorEq]
  refine wnum (n := 1) g (num1_pu g _) (by decide) w1 (by rw [List.length_append, numB_len]; omega) fun _ h2 w2 => ?_
  simp only [ha.len, RX, VOp.fresh, bxC, bsC, un, most, callsOf, seval, Int.reducePow, ↓reduceIte, Nat.reduceEqDiff, reduceCtorEq]
  refine wopsl g ha hl hs (s ++ numB (base + 1) 4 ++ numB l.length 1) ?_ l.length 0 _ _ _ _ (by omega) (by simpa using w2) ?_ ?_ ?_ ?_ ?_
  · simp only [List.length_append, numB_len]; omega
  · simp only [sg_set, Nat.reduceEqDiff, ↓reduceIte]
  · simp only [sg_set, Nat.reduceEqDiff, ↓reduceIte]
  · simp only [sg_set, Nat.reduceEqDiff, ↓reduceIte]
  · simp only [sg_set, Nat.reduceEqDiff, ↓reduceIte]
    rfl
  · intro s' h4 w4
    simp only [RX, VOp.fresh, bxC, bsC, un, most, callsOf, seval, Int.reducePow, ↓reduceIte, Nat.reduceEqDiff, reduceCtorEq]
    refine q _ _ ?_
    simpa only [opsB, List.append_assoc] using w4
def By (l : List Nat) : Prop := ∀ n ∈ l, n < 256
theorem By.app {l k : List Nat} (a : By l) (b : By k) : By (l ++ k) := fun n h => (List.mem_append.1 h).elim (a n) (b n)
theorem By.nil : By [] := fun n h => by simp at h
theorem By.flat {α : Type} {F : α → List Nat} {l : List α} (h : ∀ x, By (F x)) : By (l.map F).flatten := by
  intro n hn
  obtain ⟨x, hx, hn⟩ := List.mem_flatten.1 hn
  obtain ⟨a, _, rfl⟩ := List.mem_map.1 hx
  exact h a n hn
theorem By.num (x : Int) : ∀ n, By (numB x n)
  | 0 => By.nil
  | n + 1 => by
    intro k hk
    rw [numB] at hk
    rcases List.mem_cons.1 hk with rfl | hk
    · have h1 := Int.emod_lt_of_pos (x / (256 ^ n : Nat)) (show (0 : Int) < 256 by decide)
      have h2 := Int.emod_nonneg (x / (256 ^ n : Nat)) (show (256 : Int) ≠ 0 by decide)
      omega
    · exact By.num x n k hk
theorem By.mp (m : Mp) : By (mpB m) := (By.num _ _).app ((By.num _ _).app ((By.flat fun x => By.num x 4).app (By.flat fun x => By.num x 1)))
theorem By.pt (p : Pt) : By (ptB p) := (By.num _ _).app (By.num _ _)
theorem By.ring (p : List Pt) : By (ringB p) := (By.num _ _).app (By.flat By.pt)
theorem By.feat (f : Feat) : By (featB f) := (By.num _ _).app ((By.num _ _).app ((By.num _ _).app (By.flat By.ring)))
theorem By.op (o : Op) : By (opB o) := (By.num _ _).app (by split; exact By.feat _; split; exact By.num _ _; exact By.mp _)
theorem By.ops (l : List Op) : By (opsB l) := (By.num _ _).app (By.flat By.op)
theorem mb_bytes : ∀ {l : List Nat}, By l → (l.map byteV).mapM AV.byte = some l
  | [], _ => rfl
  | n :: l, h => by
    have h1 : n < 256 := h n (by simp)
    have h2 : AV.byte (byteV n) = some n := by
      simp only [byteV, AV.byte]
      rw [if_pos ⟨by omega, by omega⟩]
      rfl
    rw [List.map_cons, List.mapM_cons, h2, mb_bytes fun k hk => h k (List.mem_cons_of_mem _ hk)]
    rfl
end
end Go.Proofs.Ytinonmcnofjeeaa.VM
namespace Go.Proofs.Ytinonmcnofjeeaa.VM
attribute [local irreducible] Af Nx EvO Ev Un Gd Cd EvR EvQ EvC Nc Gc Lp EvM NxM AfM GdM EvMR EvMQ EvMD EvMC Nm Gm
theorem By.drop {s : List Nat} (h : By s) (n : Nat) : By (s.drop n) := fun x hx => h x (List.mem_of_mem_drop hx)
theorem By.take {s : List Nat} (h : By s) (n : Nat) : By (s.take n) := fun x hx => h x (List.mem_of_mem_take hx)
end Go.Proofs.Ytinonmcnofjeeaa.VM
namespace Go.Proofs.Ytinonmcnofjeeaa.VM
attribute [local irreducible] Af Nx EvO Ev Un Gd Cd EvR EvQ EvC Nc Gc Lp EvM NxM AfM GdM EvMR EvMQ EvMD EvMC Nm Gm
section
variable {P : Program}
theorem ExtX.le {x : Nat} {a b : Heap} (p : ExtX x a b) : a.next ≤ b.next := p.1
end
end Go.Proofs.Ytinonmcnofjeeaa.VM
namespace Go.Proofs.Ytinonmcnofjeeaa.VM
attribute [local irreducible] Af Nx EvO Ev Un Gd Cd EvR EvQ EvC Nc Gc Lp EvM NxM AfM GdM EvMR EvMQ EvMD EvMC Nm Gm
def Plain {α : Type} (R : α → List AV → Prop) (sz : Nat) : Prop := ∀ a c, R a c → c.length = sz ∧ c.all AV.one = true ∧ AV.tolds c = true ∧ AV.bares c = true
theorem Plain.cat {α : Type} {R : α → List AV → Prop} {sz : Nat} (p : Plain R sz) : ∀ {l : List α} {c : List AV}, Cat R l c → c.length = l.length * sz ∧ c.all AV.one = true ∧ AV.tolds c = true ∧ AV.bares c = true
  | _, _, .nil => ⟨by simp, rfl, rfl, rfl⟩
  | _, _, .cons h t => by
    obtain ⟨a1, a2, a3, a4⟩ := p _ _ h
    obtain ⟨b1, b2, b3, b4⟩ := p.cat t
    exact ⟨by rw [List.length_append, a1, b1, List.length_cons, Nat.add_mul]; omega, by rw [List.all_append, a2, b2]; rfl, by rw [Cat.told.tolds_append, a3, b3]; rfl, by rw [bares_app, a4, b4]; rfl⟩
section
variable {P : Program}
theorem Cat.take {α : Type} {R : α → List AV → Prop} {l : List α} {c d : List AV} {i : Nat} (hi : i < l.length) (h : Cat R (l.take i) c) (h' : R l[i] d) : Cat R (l.take (i + 1)) (c ++ d) := by
  rw [List.take_succ_eq_append_getElem hi]
  have := h.append (Cat.cons h' .nil)
  rwa [List.append_nil] at this
end
end Go.Proofs.Ytinonmcnofjeeaa.VM
