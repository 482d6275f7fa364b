/- Part of a proof: what stands for the program, and its walk. No condition. -/
import Derived.Below
import Derived.ChangeArms
import Derived.ChangeMaps5
import Derived.Laws.Cells
import Derived.Laws.IdiomCopy
import Derived.MapKept
import Derived.Orders
import Derived.SizedLaws
import Derived.WalkKit
import Derived.WalkLawsBesides
import GoSem.Claim
import Derived.Test.YtinonmcnofjeeaaL16Msgb
set_option linter.unusedSimpArgs false
set_option linter.unusedVariables false
set_option linter.defProp false
set_option maxHeartbeats 1000000
namespace Go.Proofs.Ytinonmcnofjeeaa.VM
open Go.RowKit
/-- The shape of a cell; of a slice: an element's bytes, its cells. -/
inductive Sh where
  | int (k : IntKind)
  | bool
  | str
  | sl (bytes : Nat) (l : List Sh)
section
variable (P : Program)
def shFs (rec : TypeId → Option (List Sh)) : List Field → Nat → Option (List Sh)
  | [], _ => some []
  | f :: fs, n => if f.offset = n then (match rec f.type with
    | some l => if P.cellsOf f.type = l.length then (shFs rec fs (n + l.length)).map (l ++ ·) else none
    | none => none) else none
def shOf : Nat → TypeId → Option (List Sh)
  | 0, _ => none
  | d + 1, t => match P.underlying t with
    | some (.int k) => some [.int k]
    | some .bool => some [.bool]
    | some .string => some [.str]
    | some (.slice e) => match shOf d e with
      | some l => if l.length = P.cellsOf e ∧ 0 < l.length then some [.sl (P.bytesOf e) l] else none
      | none => none
    | some (.struct fs) => match shFs P (shOf d) fs.toList 0 with
      | some l => if l.length = P.cellsOf t then some l else none
      | none => none
    | _ => none
end
mutual
/-- cells of a shape -/
inductive W : Sh → AV → Prop
  | int (k : IntKind) (n : Int) (h : (Lit.int k n).wf = true) : W (.int k) (.int k n)
  | bool (b : Bool) : W .bool (.bool b)
  | str (s : ByteArray) (h : s.size ≤ reachBytes) : W .str (.str (s.data.toList.map fun c => c.toNat))
  | nils (b : Nat) (l : List Sh) : W (.sl b l) .nils
  | rs {b len : Nat} {l : List Sh} {c : List AV} (h : Wn l len c) (hb : len * b ≤ reachBytes) : W (.sl b l) (.rs c len)
inductive Ws : List Sh → List AV → Prop
  | nil : Ws [] []
  | cons {s : Sh} {x : AV} {l : List Sh} {k : List AV} (h : W s x) (t : Ws l k) : Ws (s :: l) (x :: k)
inductive Wn : List Sh → Nat → List AV → Prop
  | nil (l : List Sh) : Wn l 0 []
  | cons {l : List Sh} {c k : List AV} {n : Nat} (h : Ws l c) (t : Wn l n k) : Wn l (n + 1) (c ++ k)
end
theorem Ws.append : ∀ {l l' : List Sh} {k k' : List AV}, Ws l k → Ws l' k' → Ws (l ++ l') (k ++ k')
  | _, _, _, _, .nil, h => h
  | _, _, _, _, .cons h t, h' => .cons h (t.append h')
theorem Ws.length : ∀ {l : List Sh} {k : List AV}, Ws l k → l.length = k.length
  | _, _, .nil => rfl
  | _, _, .cons _ t => by simp [t.length]
theorem VRm.append {φ : Env} {w : World} {B : Nat} : ∀ {l k : List AV} {off : Nat}, VRm φ w l B off → VRm φ w k B (off + l.length) → VRm φ w (l ++ k) B off
  | _, _, _, .nil, h => h
  | _, k, off, .cons (l := l) hc h t, h' => .cons hc h (t.append (by rw [List.length_cons] at h'; rwa [show off + (l.length + 1) = off + 1 + l.length by omega] at h'))
theorem VRs.mem {φ : Env} {w : World} {B : Nat} : ∀ {l : List AV} {vs : List Value} {off : Nat}, VRs φ w l vs → (∀ j u, vs[j]? = some u → w.cell? ⟨B, off + j, none⟩ = some u) → VRm φ w l B off
  | _, _, _, .nil, _ => .nil
  | _, _, off, .cons (u := u) h t, hc => .cons (by simpa using hc 0 u rfl) h (t.mem fun j v hj => by rw [show off + 1 + j = off + (j + 1) by omega]; exact hc (j + 1) v hj)
theorem mapM_get {α β : Type} {f : α → Option β} : ∀ {l : List α} {r : List β}, l.mapM f = some r → r.length = l.length ∧ ∀ (j : Nat) (x : α) (y : β), l[j]? = some x → r[j]? = some y → f x = some y
  | [], r, h => by
    simp at h; subst h
    exact ⟨rfl, fun j x y h => by simp at h⟩
  | a :: l, r, h => by
    simp only [List.mapM_cons, Option.bind_eq_bind, Option.bind_eq_some_iff, Option.pure_def, Option.some.injEq] at h
    obtain ⟨b, h1, r', h2, rfl⟩ := h
    obtain ⟨e1, e2⟩ := mapM_get h2
    refine ⟨by simp [e1], fun j x y hx hy => ?_⟩
    cases j with
    | zero => simp at hx hy; subst hx hy; exact h1
    | succ j => exact e2 j x y (by simpa using hx) (by simpa using hy)
section
variable {H : Type} {enc : TypeId × Value → H} {P : Program} {w : World} {base : Nat} {spare : Nat → Bool} {held : Bool}
def OpenAt (enc : TypeId × Value → H) (P : Program) (w : World) (base : Nat) (spare : Nat → Bool) (held : Bool) (fuel : Nat) : Prop :=
  ∀ (n : Nat) (t : TypeId) (cs : List Value) (x : DataW H × List MemPlace) (shs : List Sh), shOf P n t = some shs → DataW.trod enc P w base spare held fuel t cs = some x → (x.1.weights P t).all (· ≤ reachBytes) = true → ∃ avs, VRs none0 w avs cs ∧ Ws shs avs
theorem open_fs {fuel d : Nat} (ih : OpenAt enc P w base spare held fuel) {cs : List Value} : ∀ (fs : List Field) (n : Nat) (xs : List (DataW H × List MemPlace)) (shs : List Sh), shFs P (shOf P d) fs n = some shs → xs.length = fs.length →
    (∀ (i : Nat) (f : Field), fs[i]? = some f → DataW.trod enc P w base spare held fuel f.type ((cs.drop f.offset).take (P.cellsOf f.type)) = xs[i]?) → (DataW.weightsEach P (fs.map (·.type)) (xs.map (·.1))).all (· ≤ reachBytes) = true →
    ∃ avs, VRs none0 w avs ((cs.drop n).take shs.length) ∧ Ws shs avs
  | [], n, xs, shs, h, _, _, _ => by cases h; exact ⟨[], by simpa using VRs.nil, .nil⟩
  | f :: fs, n, [], shs, h, hl, _, _ => by simp at hl
  | f :: fs, n, x :: xs, shs, h, hl, ht, hw => by
    unfold shFs at h
    split at h
    · rename_i ho
      split at h
      · rename_i l hr
        split at h
        · rename_i hc
          obtain ⟨k, hk, rfl⟩ := Option.map_eq_some_iff.1 h
          simp only [List.map_cons, DataW.weightsEach, List.all_append, Bool.and_eq_true] at hw
          obtain ⟨a1, v1, w1⟩ := ih d f.type _ x l hr (ht 0 f rfl) hw.1
          obtain ⟨a2, v2, w2⟩ := open_fs ih fs (n + l.length) xs k hk (by simpa using hl) (fun i g hg => by simpa using ht (i + 1) g (by simpa using hg)) hw.2
          refine ⟨a1 ++ a2, ?_, w1.append w2⟩
          rw [List.length_append, List.take_add, List.drop_drop]
          rw [ho, hc] at v1
          exact v1.append v2
        · cases h
      · cases h
    · cases h
theorem open_all : ∀ fuel : Nat, OpenAt enc P w base spare held fuel
  | 0 => by intro n t cs x shs _ h _; simp [DataW.trod] at h
  | fuel + 1 => by
    intro n t cs x shs hs h hw
    have ih := open_all fuel
    cases n with
    | zero => cases hs
    | succ d =>
      unfold shOf at hs
      split at hs
      · rename_i k hu
        cases hs
        obtain ⟨n, rfl, rfl, hwf⟩ := DataW.trod_int hu h
        exact ⟨[.int k n], .cons (.int k n) .nil, .cons (.int k n hwf) .nil⟩
      · rename_i hu
        cases hs
        unfold DataW.trod at h
        rw [hu] at h
        split at h <;> simp_all
        rename_i b
        exact ⟨[.bool b], .cons (.bool b) .nil, .cons (.bool b) .nil⟩
      · rename_i hu
        cases hs
        obtain ⟨s, rfl, rfl, hs⟩ := DataW.trod_string hu h
        simp only [DataW.weights, List.all_cons, List.all_nil, Bool.and_true, decide_eq_true_eq] at hw
        exact ⟨[.str (s.data.toList.map fun c => c.toNat)], .cons (.str s) .nil, .cons (.str s (by simpa using hw)) .nil⟩
      · rename_i e hu
        split at hs
        · rename_i l hl
          split at hs
          · rename_i hc
            cases hs
            rcases DataW.trod_slice hu h with ⟨rfl, rfl⟩ | ⟨a, len, cap, elems, rest, m, hm, rfl, rfl, hb, hlc, _, hlen, hel, _, _⟩
            · exact ⟨[.nils], .cons .nils .nil, .cons (.nils _ _) .nil⟩
            · cases hm
              simp only [DataW.weights, hu, List.all_cons, List.all_append, Bool.and_eq_true, decide_eq_true_eq, List.length_map] at hw
              obtain ⟨hw1, hw2, _⟩ := hw
              have hbytes : len * P.bytesOf e ≤ reachBytes := Nat.le_trans (Nat.mul_le_mul_right _ (by omega)) hw1
              cases len with
              | zero => exact ⟨[.rs [] 0], .cons (.rs0 a cap) .nil, .cons (.rs (.nil _) hbytes) .nil⟩
              | succ len' =>
                generalize hL : len' + 1 = len at *
                have hwe : ∀ (i : Nat) (y : DataW H × List MemPlace), elems[i]? = some y → (y.1.weights P e).all (· ≤ reachBytes) = true := by
                  clear hel hlen h hw1 hbytes
                  induction elems with
                  | nil => intro i y hy; simp at hy
                  | cons z zs ihz =>
                    simp only [List.map_cons, DataW.weightsAll, List.all_append, Bool.and_eq_true] at hw2
                    intro i y hy
                    cases i with
                    | zero => simp at hy; subst hy; exact hw2.1
                    | succ i => exact ihz hw2.2 i y (by simpa using hy)
                have each : ∀ i, i < len → ∃ ecs avs, w.cells? base (a.add (i * P.cellsOf e)) (P.cellsOf e) = some ecs ∧ VRs none0 w avs ecs ∧ Ws l avs := by
                  intro i hi
                  have h1 := hel i hi
                  have h2 : elems[i]? = some elems[i] := List.getElem?_eq_getElem (by omega)
                  rw [h2] at h1
                  obtain ⟨ecs, h3, h4⟩ := Option.bind_eq_some_iff.1 h1
                  obtain ⟨avs, h5, h6⟩ := ih d e ecs _ l hl h4 (hwe i _ h2)
                  exact ⟨ecs, avs, h3, h5, h6⟩
                have cellsAt : ∀ {c : Addr} {k : Nat} {ecs : List Value}, w.cells? base c k = some ecs → ecs.length = k ∧ ∀ j u, ecs[j]? = some u → w.cell? (c.add j) = some u := by
                  intro c k ecs hk
                  unfold World.cells? at hk
                  split at hk
                  · obtain ⟨e1, e2⟩ := mapM_get hk
                    rw [List.length_range] at e1
                    refine ⟨e1, fun j u hj => e2 j j u ?_ hj⟩
                    have hjl : j < ecs.length := by
                      rcases Nat.lt_or_ge j ecs.length with h | h
                      · exact h
                      · rw [List.getElem?_eq_none h] at hj; cases hj
                    rw [List.getElem?_range (by omega)]
                  · cases hk
                obtain ⟨B, off, spot⟩ := a
                have hspot : spot = none ∧ B < w.heap.size := by
                  obtain ⟨ecs, avs, h1, h2, h3⟩ := each 0 (by omega)
                  obtain ⟨q1, q2⟩ := cellsAt h1
                  have h0 : 0 < ecs.length := by omega
                  have := q2 0 ecs[0] (List.getElem?_eq_getElem h0)
                  have ha : ((⟨B, off, spot⟩ : Addr).add (0 * P.cellsOf e)).add 0 = ⟨B, off, spot⟩ := by simp [Addr.add]
                  rw [ha] at this
                  unfold World.cell? at this
                  split at this
                  · rename_i c _ _ hh
                    split at this
                    · cases this
                    · rename_i hn
                      refine ⟨by simpa using hn, ?_⟩
                      rcases Nat.lt_or_ge B w.heap.size with h | h
                      · exact h
                      · rw [Array.getElem?_eq_none h] at hh; cases hh
                  · cases this
                obtain ⟨rfl, hB⟩ := hspot
                have all : ∀ k i, i + k = len → ∃ c, Wn l k c ∧ VRm none0 w c B (off + i * P.cellsOf e) := by
                  intro k
                  induction k with
                  | zero => intro i _; exact ⟨[], .nil _, .nil⟩
                  | succ k ihk =>
                    intro i hi
                    obtain ⟨c, c1, c2⟩ := ihk (i + 1) (by omega)
                    obtain ⟨ecs, avs, h1, h2, h3⟩ := each i (by omega)
                    obtain ⟨q1, q2⟩ := cellsAt h1
                    have hal : avs.length = P.cellsOf e := by rw [← h3.length]; exact hc.1
                    refine ⟨avs ++ c, .cons h3 c1, VRm.append (h2.mem fun j u hj => ?_) ?_⟩
                    · have := q2 j u hj
                      rw [add_none, add_none] at this
                      exact this
                    · rw [hal]
                      rw [Nat.add_mul, Nat.one_mul, ← Nat.add_assoc] at c2
                      exact c2
                obtain ⟨c, c1, c2⟩ := all len 0 (by omega)
                rw [Nat.zero_mul, Nat.add_zero] at c2
                exact ⟨[.rs c len], .cons (.rs hlc (fun b p hb => by cases hb) hB c2) .nil, .cons (.rs c1 hbytes) .nil⟩
          · cases hs
        · cases hs
      · rename_i fs hu
        split at hs
        · rename_i l hl
          split at hs
          · rename_i hc
            cases hs
            obtain ⟨xs, m, hm, rfl, hcl, hxl, hx⟩ := DataW.trod_struct hu h
            cases hm
            simp only [DataW.weights, hu] at hw
            obtain ⟨avs, v1, v2⟩ := open_fs ih fs.toList 0 xs _ hl (by simpa using hxl) (fun i f hf => hx i f (by simpa using hf)) hw
            refine ⟨avs, ?_, v2⟩
            rw [List.drop_zero, List.take_of_length_le (by omega)] at v1
            exact v1
          · cases hs
        · cases hs
      · cases hs
/-- an argument, opened -/
theorem open_arg {t : TypeId} {v : Value} {d : DataW H} {ps : List MemPlace} {n : Nat} {shs : List Sh} (hs : shOf P n t = some shs) (h : DataW.Trod enc P w base spare held t v d ps) (hw : (d.weights P t).all (· ≤ reachBytes) = true) :
    ∃ avs, VRs none0 w avs v.cells.toList ∧ Ws shs avs :=
  let ⟨fuel, hf⟩ := h
  open_all fuel n t _ _ shs hs hf hw
end
def I64 (n : Int) : Prop := -9223372036854775808 ≤ n ∧ n ≤ 9223372036854775807
theorem i64_wf {n : Int} (h : (Lit.int .i64 n).wf = true) : I64 n := by
  simp only [Lit.wf, Bool.and_eq_true, decide_eq_true_eq] at h
  exact ⟨h.1, h.2⟩
section
variable {α : Type}
/-- cells of things, one behind the other -/
inductive Cat (R : α → List AV → Prop) : List α → List AV → Prop
  | nil : Cat R [] []
  | cons {a : α} {l : List α} {c k : List AV} (h : R a c) (t : Cat R l k) : Cat R (a :: l) (c ++ k)
/-- a slice of things, each of so many bytes -/
def IsL (b : Nat) (R : α → List AV → Prop) (v : AV) (l : List α) : Prop := l.length * b ≤ reachBytes ∧ ((v = .nils ∧ l = []) ∨ ∃ c, v = .rs c l.length ∧ Cat R l c)
variable {R : α → List AV → Prop} {z b : Nat}
theorem Cat.append : ∀ {l l' : List α} {c c' : List AV}, Cat R l c → Cat R l' c' → Cat R (l ++ l') (c ++ c')
  | _, _, _, _, .nil, h => h
  | _, _, _, _, .cons (c := c) (k := k) h t, h' => by rw [List.append_assoc]; exact .cons h (t.append h')
theorem Cat.at (hz : ∀ a c, R a c → c.length = z) : ∀ {l : List α} {c : List AV}, Cat R l c → ∀ (i : Nat) (hi : i < l.length), ∃ ci r, c.drop (i * z) = ci ++ r ∧ R l[i] ci
  | _, _, .nil, i, hi => by simp at hi
  | _, _, .cons (c := c) (k := k) h t, 0, _ => ⟨c, k, by simp, h⟩
  | _, _, .cons (c := c) (k := k) h t, i + 1, hi => by
    obtain ⟨ci, r, e, hr⟩ := t.at hz i (by simpa using hi)
    refine ⟨ci, r, ?_, hr⟩
    rw [Nat.add_mul, Nat.one_mul, Nat.add_comm, ← List.drop_drop, ← hz _ _ h, List.drop_left]
    rw [hz _ _ h]; exact e
theorem Cat.told (ht : ∀ a c, R a c → AV.tolds c = true) : ∀ {l : List α} {c : List AV}, Cat R l c → AV.tolds c = true
  | _, _, .nil => rfl
  | _, _, .cons h t => by rw [tolds_append, ht _ _ h, t.told ht]; rfl
where tolds_append : ∀ {l k : List AV}, AV.tolds (l ++ k) = (AV.tolds l && AV.tolds k)
  | [], _ => by simp [AV.tolds]
  | x :: l, k => by rw [List.cons_append, AV.tolds, AV.tolds, tolds_append, Bool.and_assoc]
theorem IsL.told (ht : ∀ a c, R a c → AV.tolds c = true) {v : AV} {l : List α} (h : IsL b R v l) : v.told = true := by
  rcases h.2 with ⟨rfl, _⟩ | ⟨c, rfl, hc⟩
  · rfl
  · exact hc.told ht
theorem IsL.len {v : AV} {l : List α} (h : IsL b R v l) (hh : Heap) : lnV hh v = .val (.int .i64 l.length) hh := by
  rcases h.2 with ⟨rfl, rfl⟩ | ⟨c, rfl, _⟩ <;> rfl
theorem IsL.bound {v : AV} {l : List α} (h : IsL b R v l) (hb : 0 < b) : (l.length : Int) ≤ 140737488351232 := by
  have := h.1
  have h2 : l.length ≤ l.length * b := Nat.le_mul_of_pos_right _ hb
  have : l.length ≤ reachBytes := Nat.le_trans h2 this
  have e : reachBytes = 140737488351232 := rfl
  rw [e] at this
  omega
theorem IsL.at {v : AV} {l : List α} (h : IsL b R v l) (hz : ∀ a c, R a c → c.length = z) (i : Nat) (hi : i < l.length) :
    ∃ ci r, R l[i] ci ∧ ∀ (hh : Heap) (kk : IntKind), iaV hh z none v (.int kk (i : Int)) = .val (.rp (ci ++ r)) hh := by
  rcases h.2 with ⟨rfl, rfl⟩ | ⟨c, rfl, hc⟩
  · simp at hi
  · obtain ⟨ci, r, e, hr⟩ := hc.at hz i hi
    refine ⟨ci, r, hr, fun hh kk => ?_⟩
    rw [iaV_rs, if_pos ⟨by omega, by omega⟩]
    rw [Int.toNat_natCast, e]
theorem tolds_drop : ∀ {l : List AV} (i : Nat), AV.tolds l = true → AV.tolds (l.drop i) = true
  | _, 0, h => h
  | [], _ + 1, _ => rfl
  | _ :: l, i + 1, h => by
    simp only [AV.tolds, Bool.and_eq_true] at h
    exact tolds_drop i h.2
theorem IsL.get {v : AV} {l : List α} (h : IsL b R v l) (hz : ∀ a c, R a c → c.length = z) (ht : ∀ a c, R a c → AV.tolds c = true) (i : Nat) (hi : i < l.length) :
    ∃ ci r, R l[i] ci ∧ AV.tolds (ci ++ r) = true ∧ ∀ (hh : Heap) (kk : IntKind), iaV hh z none v (.int kk (i : Int)) = .val (.rp (ci ++ r)) hh := by
  rcases h.2 with ⟨rfl, rfl⟩ | ⟨c, rfl, hc⟩
  · simp at hi
  · obtain ⟨ci, r, e, hr⟩ := hc.at hz i hi
    refine ⟨ci, r, hr, by rw [← e]; exact tolds_drop _ (hc.told ht), fun hh kk => ?_⟩
    rw [iaV_rs, if_pos ⟨by omega, by omega⟩]
    rw [Int.toNat_natCast, e]
theorem isL_nil (b : Nat) (R : α → List AV → Prop) : IsL b R .nils [] := ⟨by simp, .inl ⟨rfl, rfl⟩⟩
theorem isL_rs {b : Nat} {R : α → List AV → Prop} {l : List α} {c : List AV} (h : Cat R l c) (hb : l.length * b ≤ reachBytes) : IsL b R (.rs c l.length) l := ⟨hb, .inr ⟨c, rfl, h⟩⟩
/-- out of what a law is handed -/
theorem Wn.cat {ss : List Sh} (hR : ∀ c, Ws ss c → ∃ a, R a c) : ∀ {n : Nat} {c : List AV}, Wn ss n c → ∃ l : List α, l.length = n ∧ Cat R l c
  | _, _, .nil _ => ⟨[], rfl, .nil⟩
  | _, _, .cons h t => by
    obtain ⟨a, ha⟩ := hR _ h
    obtain ⟨l, e, hl⟩ := Wn.cat hR t
    exact ⟨a :: l, by simp [e], .cons ha hl⟩
theorem W.isL {ss : List Sh} (hR : ∀ c, Ws ss c → ∃ a, R a c) {v : AV} (h : W (.sl b ss) v) : ∃ l, IsL b R v l := by
  cases h with
  | nils => exact ⟨[], isL_nil _ _⟩
  | rs h hb =>
    obtain ⟨l, e, hl⟩ := h.cat hR
    exact ⟨l, by rw [e]; exact hb, .inr ⟨_, by rw [e], hl⟩⟩
end
structure Pt where
  x : Int
  y : Int
structure Feat where
  id : Int
  shape : Int
  rings : List (List Pt)
structure Mp where
  epoch : Int
  starts : List Int
  owners : List Int
structure Op where
  kind : Int
  f : Feat
  id : Int
  m : Mp
instance : DecidableEq Pt := fun a b => if h : a.x = b.x ∧ a.y = b.y then isTrue (by cases a; cases b; simp_all) else isFalse (by rintro rfl; simp at h)
def RInt (n : Int) (c : List AV) : Prop := c = [.int .i64 n] ∧ I64 n
def RPt (p : Pt) (c : List AV) : Prop := c = [.int .i64 p.x, .int .i64 p.y] ∧ I64 p.x ∧ I64 p.y
def RRing (r : List Pt) (c : List AV) : Prop := ∃ v, c = [v] ∧ IsL 16 RPt v r
def RFeat (f : Feat) (c : List AV) : Prop := ∃ v, c = [.int .i64 f.id, .int .i64 f.shape, v] ∧ I64 f.id ∧ I64 f.shape ∧ IsL 24 RRing v f.rings
def RMp (m : Mp) (c : List AV) : Prop := ∃ v u, c = [.int .i64 m.epoch, v, u] ∧ I64 m.epoch ∧ IsL 8 RInt v m.starts ∧ IsL 8 RInt u m.owners
def ROp (o : Op) (c : List AV) : Prop := ∃ v a u, c = [.int .i64 o.kind, .int .i64 o.f.id, .int .i64 o.f.shape, v, .int .i64 o.id, .int .i64 o.m.epoch, a, u] ∧
  I64 o.kind ∧ I64 o.f.id ∧ I64 o.f.shape ∧ IsL 24 RRing v o.f.rings ∧ I64 o.id ∧ I64 o.m.epoch ∧ IsL 8 RInt a o.m.starts ∧ IsL 8 RInt u o.m.owners
theorem zInt (a : Int) (c : List AV) (h : RInt a c) : c.length = 1 := by rw [h.1]; rfl
theorem zPt (a : Pt) (c : List AV) (h : RPt a c) : c.length = 2 := by rw [h.1]; rfl
theorem zRing (a : List Pt) (c : List AV) (h : RRing a c) : c.length = 1 := by obtain ⟨v, rfl, _⟩ := h; rfl
theorem zOp (a : Op) (c : List AV) (h : ROp a c) : c.length = 8 := by obtain ⟨v, b, u, rfl, _⟩ := h; rfl
theorem tInt (a : Int) (c : List AV) (h : RInt a c) : AV.tolds c = true := by rw [h.1]; rfl
theorem tPt (a : Pt) (c : List AV) (h : RPt a c) : AV.tolds c = true := by rw [h.1]; rfl
theorem tRing (a : List Pt) (c : List AV) (h : RRing a c) : AV.tolds c = true := by
  obtain ⟨v, rfl, h⟩ := h
  simp [AV.tolds, h.told tPt]
theorem tFeat (a : Feat) (c : List AV) (h : RFeat a c) : AV.tolds c = true := by
  obtain ⟨v, rfl, _, _, h⟩ := h
  simp [AV.tolds, AV.told, h.told tRing]
theorem tOp (a : Op) (c : List AV) (h : ROp a c) : AV.tolds c = true := by
  obtain ⟨v, x, u, rfl, _, _, _, h, _, _, h1, h2⟩ := h
  simp [AV.tolds, AV.told, h.told tRing, h1.told tInt, h2.told tInt]
theorem wInt (c : List AV) (h : Ws [.int .i64] c) : ∃ a, RInt a c := by
  cases h with | cons h t => cases t; cases h with | int k n hw => exact ⟨n, rfl, i64_wf hw⟩
theorem wPt (c : List AV) (h : Ws [.int .i64, .int .i64] c) : ∃ a, RPt a c := by
  cases h with | cons h t => cases t with | cons h' t => cases t; cases h with | int k n hw => cases h' with | int k m hw' => exact ⟨⟨n, m⟩, rfl, i64_wf hw, i64_wf hw'⟩
abbrev shRing : Sh := .sl 16 [.int .i64, .int .i64]
theorem wRing (c : List AV) (h : Ws [shRing] c) : ∃ a, RRing a c := by
  cases h with | cons h t => cases t; obtain ⟨l, hl⟩ := h.isL wPt; exact ⟨l, _, rfl, hl⟩
abbrev shFeat : List Sh := [.int .i64, .int .i64, .sl 24 [shRing]]
abbrev shOp : List Sh := [.int .i64, .int .i64, .int .i64, .sl 24 [shRing], .int .i64, .int .i64, .sl 8 [.int .i64], .sl 8 [.int .i64]]
theorem wFeat (c : List AV) (h : Ws shFeat c) : ∃ a, RFeat a c := by
  cases h with | cons h1 t => cases t with | cons h2 t => cases t with | cons h3 t =>
    cases t; cases h1 with | int k n hw => cases h2 with | int k m hw' =>
      obtain ⟨l, hl⟩ := h3.isL wRing
      exact ⟨⟨n, m, l⟩, _, rfl, i64_wf hw, i64_wf hw', hl⟩
theorem wOp (c : List AV) (h : Ws shOp c) : ∃ a, ROp a c := by
  cases h with | cons h1 t => cases t with | cons h2 t => cases t with | cons h3 t => cases t with | cons h4 t => cases t with | cons h5 t => cases t with | cons h6 t => cases t with | cons h7 t => cases t with | cons h8 t =>
    cases t; cases h1 with | int _ n1 w1 => cases h2 with | int _ n2 w2 => cases h3 with | int _ n3 w3 => cases h5 with | int _ n5 w5 => cases h6 with | int _ n6 w6 =>
      obtain ⟨l4, e4⟩ := h4.isL wRing
      obtain ⟨l7, e7⟩ := h7.isL wInt
      obtain ⟨l8, e8⟩ := h8.isL wInt
      exact ⟨⟨n1, ⟨n2, n3, l4⟩, n5, ⟨n6, l7, l8⟩⟩, _, _, _, rfl, i64_wf w1, i64_wf w2, i64_wf w3, e4, i64_wf w5, i64_wf w6, e7, e8⟩
end Go.Proofs.Ytinonmcnofjeeaa.VM
namespace Go.Proofs.Ytinonmcnofjeeaa.VM
open Go.RowKit
/-- nothing of what was there is changed -/
def Ext (h h' : Heap) : Prop := h.next ≤ h'.next ∧ ∀ b, b < h.next → h'.get b = h.get b
theorem Ext.refl (h : Heap) : Ext h h := ⟨Nat.le_refl _, fun _ _ => rfl⟩
theorem Ext.trans {a b c : Heap} (x : Ext a b) (y : Ext b c) : Ext a c := ⟨Nat.le_trans x.1 y.1, fun n hn => (y.2 n (Nat.lt_of_lt_of_le hn x.1)).trans (x.2 n hn)⟩
theorem Ext.mk {h : Heap} (x : Blk) : Ext h (h.mk' h.next x) := ⟨by rw [mk_next]; omega, fun b hb => by rw [Heap.get_mk, if_neg (by omega)]⟩
mutual
/-- A live value, told; the blocks that it reaches, in their row. -/
inductive Fd (h : Heap) : AV → AV → List Nat → Prop
  | told {x : AV} (hx : x.told = true) : Fd h x x []
  | sl {b off len cap sz : Nat} {l cs cs' : List AV} {e : TypeId} {ver : Nat} {D : List Nat} (hl : 0 < len) (hn : b < h.next) (hg : h.get b = some (.cells l e ver)) (hc : cut l off (len * sz) = some cs) (t : Fds h cs cs' D) : Fd h (.sl b off len cap sz) (.rs cs' len) (b :: D)
  | sl0 {b off cap sz : Nat} : Fd h (.sl b off 0 cap sz) (.rs [] 0) []
  | ptr {b off : Nat} {l cs' : List AV} {e : TypeId} {ver : Nat} {D : List Nat} (hn : b < h.next) (hg : h.get b = some (.cells l e ver)) (t : Fds h (l.drop off) cs' D) : Fd h (.ptr b off) (.rp cs') (b :: D)
  | agg {l l' : List AV} {D : List Nat} (t : Fds h l l' D) : Fd h (.agg l) (.agg l') D
  | tup {l l' : List AV} {D : List Nat} (t : Fds h l l' D) : Fd h (.tup l) (.tup l') D
inductive Fds (h : Heap) : List AV → List AV → List Nat → Prop
  | nil : Fds h [] [] []
  | cons {x y : AV} {l k : List AV} {D E : List Nat} (f : Fd h x y D) (t : Fds h l k E) : Fds h (x :: l) (y :: k) (D ++ E)
end
section
variable {h h' : Heap}
theorem Fds.tolds : ∀ {l : List AV}, AV.tolds l = true → Fds h l l []
  | [], _ => .nil
  | x :: l, e => by
    simp only [AV.tolds, Bool.and_eq_true] at e
    exact .cons (D := []) (.told e.1) (Fds.tolds e.2)
theorem Fds.app : ∀ {l l' k k' : List AV} {D E : List Nat}, Fds h l k D → Fds h l' k' E → Fds h (l ++ l') (k ++ k') (D ++ E)
  | _, _, _, _, _, _, .nil, t => t
  | _, _, _, _, _, _, .cons f t, t' => by rw [List.append_assoc]; exact .cons f (t.app t')
theorem Fds.length : ∀ {l k : List AV} {D : List Nat}, Fds h l k D → k.length = l.length
  | _, _, _, .nil => rfl
  | _, _, _, .cons _ t => by simp [t.length]
theorem Fd.cast {l k : AV} {D E : List Nat} (t : Fd h l k D) (e : D = E) : Fd h l k E := e ▸ t
mutual
theorem Fd.fz : ∀ {x y : AV} {D : List Nat}, Fd h x y D → Fz true h x y
  | _, _, _, .told hx => Fz.refl hx
  | _, _, _, .sl hl _ hg hc t => .sl hl hg hc t.fzs
  | _, _, _, .sl0 => .sl0
  | _, _, _, .ptr _ hg t => .ptr hg t.fzs
  | _, _, _, .agg t => .agg t.fzs
  | _, _, _, .tup t => .tup t.fzs
theorem Fds.fzs : ∀ {x y : List AV} {D : List Nat}, Fds h x y D → Fzs true h x y
  | _, _, _, .nil => .nil
  | _, _, _, .cons f t => .cons f.fz t.fzs
end
mutual
theorem Fd.frame (hn : h.next ≤ h'.next) : ∀ {x y : AV} {D : List Nat}, Fd h x y D → (∀ b ∈ D, h'.get b = h.get b) → Fd h' x y D
  | _, _, _, .told hx, _ => .told hx
  | _, _, _, .sl hl hb hg hc t, k => .sl hl (Nat.lt_of_lt_of_le hb hn) ((k _ List.mem_cons_self).trans hg) hc (t.frame hn fun b hb => k b (List.mem_cons_of_mem _ hb))
  | _, _, _, .sl0, _ => .sl0
  | _, _, _, .ptr hb hg t, k => .ptr (Nat.lt_of_lt_of_le hb hn) ((k _ List.mem_cons_self).trans hg) (t.frame hn fun b hb => k b (List.mem_cons_of_mem _ hb))
  | _, _, _, .agg t, k => .agg (t.frame hn k)
  | _, _, _, .tup t, k => .tup (t.frame hn k)
theorem Fds.frame (hn : h.next ≤ h'.next) : ∀ {x y : List AV} {D : List Nat}, Fds h x y D → (∀ b ∈ D, h'.get b = h.get b) → Fds h' x y D
  | _, _, _, .nil, _ => .nil
  | _, _, _, .cons f t, k => .cons (f.frame hn fun b hb => k b (List.mem_append_left _ hb)) (t.frame hn fun b hb => k b (List.mem_append_right _ hb))
end
mutual
theorem Fd.lt : ∀ {x y : AV} {D : List Nat}, Fd h x y D → ∀ b ∈ D, b < h.next
  | _, _, _, .told hx => fun b hb => by simp at hb
  | _, _, _, .sl hl hb hg hc t => fun b h => by rcases List.mem_cons.1 h with rfl | h; exact hb; exact t.lt b h
  | _, _, _, .sl0 => fun b hb => by simp at hb
  | _, _, _, .ptr hb hg t => fun b h => by rcases List.mem_cons.1 h with rfl | h; exact hb; exact t.lt b h
  | _, _, _, .agg t => t.lt
  | _, _, _, .tup t => t.lt
theorem Fds.lt : ∀ {x y : List AV} {D : List Nat}, Fds h x y D → ∀ b ∈ D, b < h.next
  | _, _, _, .nil => fun b hb => by simp at hb
  | _, _, _, .cons f t => fun b h => by rcases List.mem_append.1 h with h | h; exact f.lt b h; exact t.lt b h
end
end
mutual
/-- numbers, truths, texts, slices and structs of them: nothing told, no functions, no maps -/
def AV.bare : AV → Bool
  | .undef | .bool _ | .int .. | .str _ | .nilp | .nils | .nilm | .nilf | .ptr .. | .sl .. => true
  | .agg l | .tup l => AV.bares l
  | _ => false
def AV.bares : List AV → Bool
  | [] => true
  | x :: l => x.bare && AV.bares l
end
theorem bares_app : ∀ {l k : List AV}, AV.bares (l ++ k) = (AV.bares l && AV.bares k)
  | [], _ => by simp [AV.bares]
  | x :: l, k => by rw [List.cons_append, AV.bares, AV.bares, bares_app, Bool.and_assoc]
/-- all that is reached is bare, block by block -/
def Own (h : Heap) (D : List Nat) : Prop := ∀ b ∈ D, ∃ l e ver, h.get b = some (.cells l e ver) ∧ AV.bares l = true
mutual
def sh (n : Nat) : AV → AV
  | .ptr b off => .ptr (n + b) off
  | .sl b off len cap sz => .sl (n + b) off len cap sz
  | .agg l => .agg (shs n l)
  | .tup l => .tup (shs n l)
  | x => x
def shs (n : Nat) : List AV → List AV
  | [] => []
  | x :: l => sh n x :: shs n l
end
def blkOf : AV → List Nat
  | .sl b .. => [b]
  | _ => []
/-- a slice over the whole of its block, or none -/
def Row (h : Heap) (v : AV) (sz : Nat) (cs : List AV) (n : Nat) : Prop :=
  (v = .nils ∧ n = 0 ∧ cs = []) ∨ ∃ b e ver, v = .sl b 0 n n sz ∧ 0 < n ∧ b < h.next ∧ cs.length = n * sz ∧ h.get b = some (.cells cs e ver)
theorem Row.nil (h : Heap) (sz : Nat) : Row h .nils sz [] 0 := .inl ⟨rfl, rfl, rfl⟩
theorem Row.one {h : Heap} {v : AV} {sz n : Nat} {cs : List AV} (r : Row h v sz cs n) : v.one = true := by
  rcases r with ⟨rfl, rfl, rfl⟩ | ⟨b, e, ver, rfl, _⟩ <;> rfl
theorem Row.bare {h : Heap} {v : AV} {sz n : Nat} {cs : List AV} (r : Row h v sz cs n) : v.bare = true := by
  rcases r with ⟨rfl, rfl, rfl⟩ | ⟨b, e, ver, rfl, _⟩ <;> rfl
theorem Row.lt {h : Heap} {v : AV} {sz n : Nat} {cs : List AV} (r : Row h v sz cs n) : ∀ b ∈ blkOf v, b < h.next := by
  rcases r with ⟨rfl, rfl, rfl⟩ | ⟨b, e, ver, rfl, _, h1, _⟩
  · intro b hb; simp [blkOf] at hb
  · intro c hc; simp [blkOf] at hc; omega
theorem Row.frame {h h' : Heap} {v : AV} {sz n : Nat} {cs : List AV} (r : Row h v sz cs n) (hn : h.next ≤ h'.next) (hg : ∀ b ∈ blkOf v, h'.get b = h.get b) : Row h' v sz cs n := by
  rcases r with ⟨rfl, rfl, rfl⟩ | ⟨b, e, ver, rfl, h0, h1, h2, h3⟩
  · exact .nil _ _
  · exact .inr ⟨b, e, ver, rfl, h0, by omega, h2, (hg b (by simp [blkOf])).trans h3⟩
theorem cells_of {h : Heap} {b n sz : Nat} {c : List AV} {e : TypeId} {ver : Nat} (hg : h.get b = some (.cells c e ver)) (hl : c.length = n * sz) (cap : Nat) : cellsOf h sz n (.sl b 0 n cap sz) = some c := by
  simp only [cellsOf, Nat.le_refl, if_true, hg, cut_eq, List.drop_zero, ← hl, List.take_length]
/-- elements are put behind -/
theorem Row.append {h : Heap} {v x : AV} {sz n m : Nat} {cs c : List AV} (r : Row h v sz cs n) (hx : cellsOf h sz m x = some c) (hlx : lenV x = some m) (hm : 0 < m) (hl : c.length = m * sz) (ho : c.all AV.one = true) {bytes : Nat} (hb : (n + m) * bytes ≤ most2) (e : TypeId) :
    ∃ h', appendV h sz bytes e v x = some (.sl h.next 0 (n + m) (n + m) sz, h') ∧ Row h' (.sl h.next 0 (n + m) (n + m) sz) sz (cs ++ c) (n + m) ∧ h'.next = h.next + 1 ∧ ∀ b, b ∉ blkOf v → b ≠ h.next → h'.get b = h.get b := by
  rcases r with ⟨rfl, rfl, rfl⟩ | ⟨b, e0, ver, rfl, h0, h1, h2, h3⟩
  · refine ⟨h.mk' h.next (.cells c e 0), ?_, .inr ⟨h.next, e, 0, rfl, by omega, by rw [mk_next]; omega, by rw [List.nil_append, hl, Nat.zero_add], by rw [Heap.get_mk, if_pos rfl, List.nil_append]⟩, by rw [mk_next]; omega, fun b _ hb => by rw [Heap.get_mk, if_neg hb]⟩
    simp only [appendV, hlx, hx, hl, ho, and_self, if_true]
    rw [if_neg (by omega), if_pos (by rwa [Nat.zero_add] at hb), Nat.zero_add]
  · refine ⟨(h.put b .dead).mk' h.next (.cells (cs ++ c) e 0), ?_, .inr ⟨h.next, e, 0, rfl, by omega, ?_, ?_, by rw [Heap.get_mk, if_pos rfl]⟩, ?_, fun b' hb' hb => ?_⟩
    · have hbq : Nat.beq sz sz = true := by rw [Nat.beq_eq]
      simp only [appendV, hlx, hx, hl, ho, and_self, if_true, hbq, cond_true, cells_of h3 h2]
      rw [if_neg (by omega), if_pos hb]
    · rw [mk_next, put_next]; omega
    · rw [List.length_append, h2, hl, Nat.add_mul]
    · rw [mk_next, put_next]; omega
    · rw [Heap.get_mk, if_neg hb, Heap.get_put, if_neg (by simpa [blkOf] using hb')]
/-- one element of a literal -/
theorem Row.push {h : Heap} {v : AV} {sz n nb : Nat} {cs c : List AV} (r : Row h v sz cs n) {eb : TypeId} {vb : Nat} (hg : h.get nb = some (.cells c eb vb)) (hl : c.length = sz) (ho : c.all AV.one = true) {bytes : Nat} (hb : (n + 1) * bytes ≤ most2) (e : TypeId) :
    ∃ h', appendV h sz bytes e v (.sl nb 0 1 1 sz) = some (.sl h.next 0 (n + 1) (n + 1) sz, h') ∧ Row h' (.sl h.next 0 (n + 1) (n + 1) sz) sz (cs ++ c) (n + 1) ∧ h'.next = h.next + 1 ∧ ∀ b, b ∉ blkOf v → b ≠ h.next → h'.get b = h.get b :=
  r.append (cells_of hg (by rw [hl, Nat.one_mul]) 1) rfl (by decide) (by rw [hl, Nat.one_mul]) ho hb e
/-- its cells told -/
theorem Row.fd {h : Heap} {v : AV} {sz n : Nat} {cs cs' : List AV} {D : List Nat} (r : Row h v sz cs n) (t : Fds h cs cs' D) : ∃ v', Fd h v v' (blkOf v ++ D) ∧ ((v' = .nils ∧ n = 0) ∨ v' = .rs cs' n) := by
  rcases r with ⟨rfl, rfl, rfl⟩ | ⟨b, e0, ver, rfl, h0, h1, h2, h3⟩
  · cases t
    exact ⟨_, .told rfl, .inl ⟨rfl, rfl⟩⟩
  · refine ⟨_, .sl h0 h1 h3 (cs := cs) ?_ t, .inr rfl⟩
    rw [cut_eq, List.drop_zero, ← h2, List.take_length, if_pos rfl]
end Go.Proofs.Ytinonmcnofjeeaa.VM
namespace Go.Proofs.Ytinonmcnofjeeaa.VM
theorem Own.frame {h h' : Heap} {D : List Nat} (o : Own h D) (k : ∀ b ∈ D, h'.get b = h.get b) : Own h' D := fun b hb => by
  obtain ⟨l, e, ver, h1, h2⟩ := o b hb
  exact ⟨l, e, ver, (k b hb).trans h1, h2⟩
theorem Own.app {h : Heap} {D E : List Nat} (o : Own h D) (p : Own h E) : Own h (D ++ E) := fun b hb => (List.mem_append.1 hb).elim (o b) (p b)
theorem Own.nil {h : Heap} : Own h [] := fun b hb => by simp at hb
/-- cells, told; all that they reach is bare and lies in B -/
def Lvs (h : Heap) (B : Nat → Prop) (l l' : List AV) : Prop := ∃ D, Fds h l l' D ∧ AV.bares l = true ∧ Own h D ∧ ∀ b ∈ D, B b
def Lv (h : Heap) (B : Nat → Prop) (x y : AV) : Prop := ∃ D, Fd h x y D ∧ x.bare = true ∧ Own h D ∧ ∀ b ∈ D, B b
section
variable {h h' : Heap} {B B' : Nat → Prop}
theorem Lv.frame {x y : AV} (l : Lv h B x y) (hn : h.next ≤ h'.next) (k : ∀ b, B b → b < h.next → h'.get b = h.get b) : Lv h' B x y := by
  obtain ⟨D, f, a, o, i⟩ := l
  exact ⟨D, f.frame hn fun b hb => k b (i b hb) (f.lt b hb), a, o.frame fun b hb => k b (i b hb) (f.lt b hb), i⟩
theorem Lvs.frame {x y : List AV} (l : Lvs h B x y) (hn : h.next ≤ h'.next) (k : ∀ b, B b → b < h.next → h'.get b = h.get b) : Lvs h' B x y := by
  obtain ⟨D, f, a, o, i⟩ := l
  exact ⟨D, f.frame hn fun b hb => k b (i b hb) (f.lt b hb), a, o.frame fun b hb => k b (i b hb) (f.lt b hb), i⟩
theorem Lv.weak {x y : AV} (l : Lv h B x y) (k : ∀ b, B b → b < h.next → B' b) : Lv h B' x y := by
  obtain ⟨D, f, a, o, i⟩ := l
  exact ⟨D, f, a, o, fun b hb => k b (i b hb) (f.lt b hb)⟩
theorem Lvs.weak {x y : List AV} (l : Lvs h B x y) (k : ∀ b, B b → b < h.next → B' b) : Lvs h B' x y := by
  obtain ⟨D, f, a, o, i⟩ := l
  exact ⟨D, f, a, o, fun b hb => k b (i b hb) (f.lt b hb)⟩
theorem Lvs.nil : Lvs h B [] [] := ⟨[], .nil, rfl, Own.nil, fun b hb => by simp at hb⟩
theorem Lvs.cons {x y : AV} {l k : List AV} (a : Lv h B x y) (t : Lvs h B l k) : Lvs h B (x :: l) (y :: k) := by
  obtain ⟨D, f, b, o, i⟩ := a
  obtain ⟨E, f', b', o', i'⟩ := t
  exact ⟨D ++ E, .cons f f', by simp [AV.bares, b, b'], o.app o', fun c hc => (List.mem_append.1 hc).elim (i c) (i' c)⟩
theorem Lvs.app {l k l' k' : List AV} (a : Lvs h B l k) (t : Lvs h B l' k') : Lvs h B (l ++ l') (k ++ k') := by
  obtain ⟨D, f, b, o, i⟩ := a
  obtain ⟨E, f', b', o', i'⟩ := t
  exact ⟨D ++ E, f.app f', by rw [bares_app, b, b']; rfl, o.app o', fun c hc => (List.mem_append.1 hc).elim (i c) (i' c)⟩
theorem Lv.told {x : AV} (a : x.told = true) (b : x.bare = true) : Lv h B x x := ⟨[], .told a, b, Own.nil, fun c hc => by simp at hc⟩
theorem Lvs.tolds {x : List AV} (a : AV.tolds x = true) (b : AV.bares x = true) : Lvs h B x x := ⟨[], Fds.tolds a, b, Own.nil, fun c hc => by simp at hc⟩
theorem Lv.int {k : IntKind} {n : Int} : Lv h B (.int k n) (.int k n) := .told rfl rfl
theorem Lv.bool {n : Bool} : Lv h B (.bool n) (.bool n) := .told rfl rfl
theorem Lv.nils : Lv h B .nils .nils := .told rfl rfl
theorem Lv.fz {x y : AV} (l : Lv h B x y) : Fz true h x y := let ⟨_, f, _⟩ := l; f.fz
theorem Lvs.fzs {x y : List AV} (l : Lvs h B x y) : Fzs true h x y := let ⟨_, f, _⟩ := l; f.fzs
/-- a row's slice, told -/
def cRow (l : List AV) (n : Nat) : AV := if n = 0 then .nils else .rs l n
theorem cRow_s (l : List AV) {n : Nat} (h : 0 < n) : cRow l n = .rs l n := if_neg (by omega)
/-- a row of one's own -/
def LR (h : Heap) (B : Nat → Prop) (v : AV) (sz : Nat) (told : List AV) (n : Nat) : Prop :=
  ∃ cs, Row h v sz cs n ∧ Lvs h (fun b => B b ∧ b ∉ blkOf v) cs told ∧ ∀ b ∈ blkOf v, B b
theorem LR.nil (h : Heap) (B : Nat → Prop) (sz : Nat) : LR h B .nils sz [] 0 := ⟨[], .nil _ _, .nil, fun b hb => by simp [blkOf] at hb⟩
theorem LR.one {v : AV} {sz n : Nat} {t : List AV} (r : LR h B v sz t n) : v.one = true := let ⟨_, r, _⟩ := r; r.one
theorem LR.cells {v : AV} {sz n : Nat} {t : List AV} (r : LR h B v sz t n) : v.cells = some [v] := by
  obtain ⟨_, r, _⟩ := r
  rcases r with ⟨rfl, rfl, rfl⟩ | ⟨b, e, ver, rfl, _⟩ <;> rfl
theorem LR.frame {v : AV} {sz n : Nat} {t : List AV} (r : LR h B v sz t n) (hn : h.next ≤ h'.next) (k : ∀ b, B b → b < h.next → h'.get b = h.get b) : LR h' B v sz t n := by
  obtain ⟨cs, r, l, i⟩ := r
  exact ⟨cs, r.frame hn fun b hb => k b (i b hb) (r.lt b hb), l.frame hn fun b hb => k b hb.1, i⟩
theorem LR.weak {v : AV} {sz n : Nat} {t : List AV} (r : LR h B v sz t n) (k : ∀ b, B b → b < h.next → B' b) : LR h B' v sz t n := by
  obtain ⟨cs, r, l, i⟩ := r
  exact ⟨cs, r, l.weak fun b hb hl => ⟨k b hb.1 hl, hb.2⟩, fun b hb => k b (i b hb) (r.lt b hb)⟩
theorem LR.lv {v : AV} {sz n : Nat} {t : List AV} (r : LR h B v sz t n) : Lv h B v (cRow t n) := by
  obtain ⟨cs, r, ⟨D, f, hb0, o, i⟩, j⟩ := r
  obtain ⟨v', f', hv⟩ := r.fd f
  refine ⟨_, ?_, r.bare, ?_, fun b hb => (List.mem_append.1 hb).elim (j b) fun c => (i b c).1⟩
  · rcases hv with ⟨rfl, rfl⟩ | rfl
    · exact f'
    · rcases r with ⟨rfl, rfl, rfl⟩ | ⟨b, e0, ver, rfl, h0, _⟩
      · cases f'
      · rw [cRow_s _ h0]; exact f'
  · refine Own.app (fun b hb => ?_) o
    rcases r with ⟨rfl, rfl, rfl⟩ | ⟨b', e0, ver, rfl, h0, h1, h2, h3⟩
    · simp [blkOf] at hb
    · simp only [blkOf, List.mem_singleton] at hb
      subst hb
      exact ⟨_, _, _, h3, hb0⟩
/-- one more -/
theorem LR.push {v : AV} {sz n : Nat} {t : List AV} (r : LR h B v sz t n) {nb eb vb : Nat} {c t1 : List AV} (hg : h.get nb = some (.cells c eb vb)) (hl : c.length = sz) (ho : c.all AV.one = true) (l : Lvs h (fun b => B b ∧ b ∉ blkOf v) c t1) (hB : B h.next)
    {bytes : Nat} (hb : (n + 1) * bytes ≤ most2) (e : TypeId) :
    ∃ h', appendV h sz bytes e v (.sl nb 0 1 1 sz) = some (.sl h.next 0 (n + 1) (n + 1) sz, h') ∧ LR h' B (.sl h.next 0 (n + 1) (n + 1) sz) sz (t ++ t1) (n + 1) ∧ h'.next = h.next + 1 ∧ ∀ b, b ∉ blkOf v → b ≠ h.next → h'.get b = h.get b := by
  obtain ⟨cs, r, l0, i⟩ := r
  obtain ⟨h', e1, r', hn, k⟩ := r.push hg hl ho hb e
  have key : ∀ {x y : List AV}, Lvs h (fun b => B b ∧ b ∉ blkOf v) x y → Lvs h' (fun b => B b ∧ b ∉ blkOf (.sl h.next 0 (n + 1) (n + 1) sz)) x y := fun q =>
    (q.weak (B' := fun b => (B b ∧ b ∉ blkOf v) ∧ b ≠ h.next) fun b hb hlt => ⟨hb, by omega⟩).frame (by omega) (fun b hb _ => k b hb.1.2 hb.2) |>.weak fun b hb _ => ⟨hb.1.1, by simpa [blkOf] using hb.2⟩
  exact ⟨h', e1, ⟨_, r', (key l0).app (key l), fun b hb => by simp only [blkOf, List.mem_singleton] at hb; rw [hb]; exact hB⟩, hn, k⟩
theorem LR.lt {v : AV} {sz n : Nat} {t : List AV} (r : LR h B v sz t n) : ∀ b ∈ blkOf v, b < h.next := let ⟨_, r, _⟩ := r; r.lt
theorem LR.inB {v : AV} {sz n : Nat} {t : List AV} (r : LR h B v sz t n) : ∀ b ∈ blkOf v, B b := let ⟨_, _, _, i⟩ := r; i
end
/-- all but one block stays -/
def ExtX (x : Nat) (h h' : Heap) : Prop := h.next ≤ h'.next ∧ ∀ b, b < h.next → b ≠ x → h'.get b = h.get b
theorem ExtX.refl {x : Nat} {h : Heap} : ExtX x h h := ⟨Nat.le_refl _, fun _ _ _ => rfl⟩
theorem ExtX.trans {x : Nat} {a b c : Heap} (p : ExtX x a b) (q : ExtX x b c) : ExtX x a c := ⟨Nat.le_trans p.1 q.1, fun n hn hx => (q.2 n (Nat.lt_of_lt_of_le hn p.1) hx).trans (p.2 n hn hx)⟩
theorem ExtX.put {x : Nat} {h : Heap} (o : Blk) : ExtX x h (h.put x o) := ⟨Nat.le_refl _, fun b _ hx => by rw [Heap.get_put, if_neg hx]⟩
theorem Ext.x {x : Nat} {h h' : Heap} (p : Ext h h') : ExtX x h h' := ⟨p.1, fun b hb _ => p.2 b hb⟩
/-- a block of one's own is written -/
theorem ExtX.put' {x : Nat} {h h' : Heap} (p : ExtX x h h') {b : Nat} (hb : h.next ≤ b) (o : Blk) : ExtX x h (h'.put b o) := ⟨p.1, fun c hc hx => by rw [Heap.get_put, if_neg (by omega)]; exact p.2 c hc hx⟩
end Go.Proofs.Ytinonmcnofjeeaa.VM
namespace Go.Proofs.Ytinonmcnofjeeaa.VM
theorem hn_l (n k : Nat) : (n = n + k) = (k = 0) := by rw [eq_iff_iff]; omega
theorem hn_r (n k : Nat) : (n + k = n) = (k = 0) := by rw [eq_iff_iff]; omega
def HN := And.intro @hn_l (And.intro @hn_r @Nat.add_assoc)
theorem Ext.putn {h h' : Heap} (x : Ext h h') {b : Nat} (hb : h.next ≤ b) (o : Blk) : Ext h (h'.put b o) := ⟨x.1, fun c hc => by rw [Heap.get_put, if_neg (by omega)]; exact x.2 c hc⟩
theorem Ext.mkn {h h' : Heap} (x : Ext h h') {b : Nat} (hb : h.next ≤ b) (o : Blk) : Ext h (h'.mk' b o) := ⟨by rw [mk_next]; have := x.1; omega, fun c hc => by rw [Heap.get_mk, if_neg (by omega)]; exact x.2 c hc⟩
/-- blocks that stand, with their cells -/
def Has (h : Heap) (L : List (Nat × List AV)) : Prop := ∀ p ∈ L, p.1 < h.next ∧ ∃ e ver, h.get p.1 = some (.cells p.2 e ver)
section
variable {h h' : Heap} {L : List (Nat × List AV)} {b e v : Nat} {l l' : List AV}
theorem Has.nil : Has h [] := fun p hp => by simp at hp
theorem Has.get (H : Has h L) (hm : (b, l) ∈ L) : ∃ e ver, h.get b = some (.cells l e ver) := (H _ hm).2
theorem Has.lt (H : Has h L) (hm : (b, l) ∈ L) : b < h.next := (H _ hm).1
theorem Has.ext (H : Has h L) (x : Ext h h') : Has h' L := fun p hp => ⟨Nat.lt_of_lt_of_le (H p hp).1 x.1, let ⟨e, ver, g⟩ := (H p hp).2; ⟨e, ver, (x.2 _ (H p hp).1).trans g⟩⟩
theorem Has.mk (H : Has h L) (hb : h.next ≤ b) : Has (h.mk' b (.cells l e v)) ((b, l) :: L) := fun p hp => by
  rcases List.mem_cons.1 hp with rfl | hp
  · exact ⟨by rw [mk_next]; simp only; omega, e, v, by rw [Heap.get_mk, if_pos rfl]⟩
  · have := (H p hp).1
    exact ⟨by rw [mk_next]; omega, let ⟨e, ver, g⟩ := (H p hp).2; ⟨e, ver, by rw [Heap.get_mk, if_neg (by omega)]; exact g⟩⟩
theorem Has.put (H : Has h ((b, l) :: L)) (hb : ∀ p ∈ L, p.1 ≠ b) : Has (h.put b (.cells l' e v)) ((b, l') :: L) := fun p hp => by
  rcases List.mem_cons.1 hp with rfl | hp
  · exact ⟨by rw [put_next]; exact (H _ (.head _)).1, e, v, by rw [Heap.get_put, if_pos rfl]⟩
  · exact ⟨by rw [put_next]; exact (H p (.tail _ hp)).1, let ⟨e, ver, g⟩ := (H p (.tail _ hp)).2; ⟨e, ver, by rw [Heap.get_put, if_neg (hb p hp)]; exact g⟩⟩
theorem Has.new {o : Blk} (H : Has h L) : Has ((h.mk' h.next o).put h.next (.cells l e v)) ((h.next, l) :: L) := fun p hp => by
  rcases List.mem_cons.1 hp with rfl | hp
  · exact ⟨by rw [put_next, mk_next]; simp only; omega, e, v, by rw [Heap.get_put, if_pos rfl]⟩
  · have := (H p hp).1
    exact ⟨by rw [put_next, mk_next]; omega, let ⟨e, ver, g⟩ := (H p hp).2; ⟨e, ver, by rw [Heap.get_put, if_neg (by omega), Heap.get_mk, if_neg (by omega)]; exact g⟩⟩
theorem Has.sub {M : List (Nat × List AV)} (H : Has h L) (k : ∀ p ∈ M, p ∈ L) : Has h M := fun p hp => H p (k p hp)
theorem Ext.new {h : Heap} {o o' : Blk} : Ext h ((h.mk' h.next o).put h.next o') := (Ext.mk o).putn (Nat.le_refl _) _
theorem new_next {h : Heap} {o o' : Blk} : ((h.mk' h.next o).put h.next o').next = h.next + 1 := by rw [put_next, mk_next]; omega
end
def blk : Nat → VCode → VCode
  | 0, .seq a _ => a
  | n + 1, .seq _ b => blk n b
  | _, x => x
def rst : Nat → VCode → VCode
  | 0, x => x
  | n + 1, .seq _ b => rst n b
  | _, x => x
end Go.Proofs.Ytinonmcnofjeeaa.VM
namespace Go.Proofs.Ytinonmcnofjeeaa.VM
/-- furlong/furlonglaw16.Messages -/
def v6 : VFun := ⟨2, [(.tmp 4)], (.seq (.ops [⟨(some 2), none, .box 63 (.t 0)⟩, ⟨(some 4), none, .mov (.c (.bool false))⟩])
 (.seq (.ops [⟨(some 16), none, .load true 16 (.t 2)⟩, ⟨(some 5), none, .alloc [(.int .i64 0), (.int .i64 0), (.int .i64 0), (.int .i64 0), (.int .i64 0), (.int .i64 0), (.bool false), (.int .i64 0), (.int .i64 0), (.bool false), (.int .i64 0), (.int .i64 0), (.int .i64 0), (.int .i64 0), .nils, .nils] 63⟩, ⟨none, none, .store 16 (.t 5) (.t 16)⟩])
 (.seq (.ops [⟨(some 17), none, .faddr 14 (.t 2)⟩, ⟨(some 18), none, .load false 1 (.t 17)⟩, ⟨(some 19), none, .call 13 [(.t 18)]⟩, ⟨(some 20), none, .faddr 14 (.t 5)⟩, ⟨none, none, .store 1 (.t 20) (.t 19)⟩])
 (.seq (.ops [⟨(some 21), none, .faddr 15 (.t 2)⟩, ⟨(some 22), none, .load false 1 (.t 21)⟩, ⟨(some 23), none, .call 24 [(.t 22)]⟩, ⟨(some 24), none, .faddr 15 (.t 5)⟩, ⟨none, none, .store 1 (.t 24) (.t 23)⟩])
 (.seq (.ops [⟨(some 26), none, .load true 16 (.t 5)⟩, ⟨(some 27), none, .call 25 [(.t 26)]⟩, ⟨(some 25), none, .mov (.t 27)⟩, ⟨(some 28), none, .extract (.t 25) 0⟩, ⟨(some 29), none, .extract (.t 25) 1⟩, ⟨(some 6), none, .mov (.t 28)⟩, ⟨(some 7), none, .mov (.t 29)⟩])
 (.seq (.ops [⟨(some 31), none, .load true 16 (.t 2)⟩, ⟨(some 32), none, .call 26 [(.t 31)]⟩, ⟨(some 30), none, .mov (.t 32)⟩, ⟨(some 33), none, .extract (.t 30) 0⟩, ⟨(some 34), none, .extract (.t 30) 1⟩, ⟨(some 8), none, .mov (.t 33)⟩, ⟨(some 9), none, .mov (.t 34)⟩])
 (.seq (.ops [⟨(some 36), none, .mov (.t 1)⟩, ⟨(some 37), none, .call 27 [(.t 36)]⟩, ⟨(some 35), none, .mov (.t 37)⟩, ⟨(some 38), none, .extract (.t 35) 0⟩, ⟨(some 39), none, .extract (.t 35) 1⟩, ⟨(some 10), none, .alloc [(.int .i64 0), (.int .i64 0), (.int .i64 0), (.int .i64 0), (.int .i64 0), (.int .i64 0), (.bool false), (.int .i64 0), (.int .i64 0), (.bool false), (.int .i64 0), (.int .i64 0), (.int .i64 0), (.int .i64 0), .nils, .nils] 63⟩, ⟨none, none, .store 16 (.t 10) (.t 38)⟩, ⟨(some 11), none, .mov (.t 39)⟩])
 (.seq (.ops [⟨(some 41), none, .mov (.t 1)⟩, ⟨(some 42), none, .call 28 [(.t 41)]⟩, ⟨(some 40), none, .mov (.t 42)⟩, ⟨(some 43), none, .extract (.t 40) 0⟩, ⟨(some 44), none, .extract (.t 40) 1⟩, ⟨(some 12), none, .alloc [(.int .i64 0), (.int .i64 0), (.int .i64 0), (.int .i64 0), (.int .i64 0), (.int .i64 0), (.bool false), (.int .i64 0), (.int .i64 0), (.bool false), (.int .i64 0), (.int .i64 0), (.int .i64 0), (.int .i64 0), .nils, .nils] 63⟩, ⟨none, none, .store 16 (.t 12) (.t 43)⟩, ⟨(some 13), none, .mov (.t 44)⟩])
 (.seq (.seq (.ops [⟨(some 45), none, .mov (.t 6)⟩, ⟨(some 46), none, .mov (.t 8)⟩, ⟨(some 47), none, .bin .neq (.t 45) (.t 46)⟩, ⟨(some 48), none, .mov (.t 47)⟩, ⟨(some 49), (some (48, false)), .mov (.t 7)⟩, ⟨(some 50), (some (48, false)), .call 19 [(.t 49)]⟩, ⟨(some 51), (some (48, false)), .mov (.t 9)⟩, ⟨(some 52), (some (48, false)), .bin .neq (.t 50) (.t 51)⟩, ⟨(some 53), none, .pick (.t 48) (.c (.bool true)) (.t 52)⟩, ⟨(some 54), none, .mov (.t 53)⟩, ⟨(some 55), (some (54, false)), .load true 16 (.t 10)⟩, ⟨(some 56), (some (54, false)), .load true 16 (.t 12)⟩, ⟨(some 57), (some (54, false)), .call 29 [(.t 55), (.t 56)]⟩, ⟨(some 58), (some (54, false)), .un .not (.t 57)⟩, ⟨(some 59), none, .pick (.t 54) (.c (.bool true)) (.t 58)⟩, ⟨(some 60), none, .mov (.t 59)⟩, ⟨(some 61), (some (60, false)), .mov (.t 11)⟩, ⟨(some 62), (some (60, false)), .call 19 [(.t 61)]⟩, ⟨(some 63), (some (60, false)), .mov (.t 13)⟩, ⟨(some 64), (some (60, false)), .bin .neq (.t 62) (.t 63)⟩, ⟨(some 65), none, .pick (.t 60) (.c (.bool true)) (.t 64)⟩, ⟨(some 66), none, .mov (.t 65)⟩, ⟨(some 67), (some (66, false)), .load true 16 (.t 5)⟩, ⟨(some 68), (some (66, false)), .load true 16 (.t 2)⟩, ⟨(some 69), (some (66, false)), .call 29 [(.t 67), (.t 68)]⟩, ⟨(some 70), (some (66, false)), .un .not (.t 69)⟩, ⟨(some 71), none, .pick (.t 66) (.c (.bool true)) (.t 70)⟩])
 (.cond (.t 71) (.seq (.ops [⟨(some 4), none, .mov (.c (.bool false))⟩])
 .ret) .skip))
 (.seq (.ops [⟨(some 72), none, .load true 16 (.t 10)⟩, ⟨(some 73), none, .bslice [(.int .i64 0), (.int .i64 0), (.int .i64 0), (.int .i64 0), (.int .i64 0), (.int .i64 0), (.bool false), (.int .i64 0), (.int .i64 0), (.bool false), (.int .i64 0), (.int .i64 0), (.int .i64 0), (.int .i64 0), .nils, .nils] 63 1 [(0, 16, (.t 72))]⟩, ⟨(some 74), none, .call 30 [(.t 73)]⟩])
 (.seq (.ops [⟨(some 76), none, .mov (.t 1)⟩, ⟨(some 77), none, .call 27 [(.t 76)]⟩, ⟨(some 75), none, .mov (.t 77)⟩, ⟨(some 78), none, .extract (.t 75) 0⟩, ⟨(some 79), none, .extract (.t 75) 1⟩, ⟨(some 14), none, .alloc [(.int .i64 0), (.int .i64 0), (.int .i64 0), (.int .i64 0), (.int .i64 0), (.int .i64 0), (.bool false), (.int .i64 0), (.int .i64 0), (.bool false), (.int .i64 0), (.int .i64 0), (.int .i64 0), (.int .i64 0), .nils, .nils] 63⟩, ⟨none, none, .store 16 (.t 14) (.t 78)⟩, ⟨(some 15), none, .mov (.t 79)⟩])
 (.seq (.ops [⟨(some 80), none, .load true 16 (.t 14)⟩, ⟨(some 81), none, .load true 16 (.t 12)⟩, ⟨(some 82), none, .call 29 [(.t 80), (.t 81)]⟩, ⟨(some 83), none, .mov (.t 82)⟩, ⟨(some 84), (some (83, true)), .call 31 []⟩, ⟨(some 85), none, .pick (.t 83) (.t 84) (.c (.bool false))⟩, ⟨(some 4), none, .mov (.t 85)⟩])
 .ret))))))))))))⟩
def b13_0 : VCode := (.seq (.seq (.ops [⟨(some 5), none, .mov (.t 4)⟩, ⟨(some 6), none, .mov (.t 0)⟩, ⟨(some 7), none, .bi (.len 1) [(.t 6)]⟩, ⟨(some 8), none, .bin .lss (.t 5) (.t 7)⟩])
 (.cond (.t 8) .skip (.exit 0)))
 (.seq (.block 1 (.drawn [⟨(some 11), none, .mov (.t 3)⟩, ⟨(some 12), none, .mov (.t 0)⟩, ⟨(some 13), none, .mov (.t 4)⟩, ⟨(some 14), none, .iaddr 8 none (.t 12) (.t 13)⟩, ⟨(some 15), none, .faddr 0 (.t 14)⟩, ⟨(some 16), none, .load false 1 (.t 15)⟩, ⟨(some 17), none, .mov (.t 0)⟩, ⟨(some 18), none, .mov (.t 4)⟩, ⟨(some 19), none, .iaddr 8 none (.t 17) (.t 18)⟩, ⟨(some 20), none, .faddr 4 (.t 19)⟩, ⟨(some 21), none, .load false 1 (.t 20)⟩, ⟨(some 22), none, .mov (.t 0)⟩, ⟨(some 23), none, .mov (.t 4)⟩, ⟨(some 24), none, .iaddr 8 none (.t 22) (.t 23)⟩, ⟨(some 25), none, .faddr 1 (.t 24)⟩, ⟨(some 26), none, .load true 3 (.t 25)⟩, ⟨(some 27), none, .call 44 [(.t 26)]⟩, ⟨(some 28), none, .mov (.t 0)⟩, ⟨(some 29), none, .mov (.t 4)⟩, ⟨(some 30), none, .iaddr 8 none (.t 28) (.t 29)⟩, ⟨(some 31), none, .faddr 5 (.t 30)⟩, ⟨(some 32), none, .load true 3 (.t 31)⟩, ⟨(some 33), none, .call 14 [(.t 32)]⟩, ⟨(some 34), none, .build [(.int .i64 0), (.int .i64 0), (.int .i64 0), .nils, (.int .i64 0), (.int .i64 0), .nils, .nils] [(0, 1, (.t 16)), (4, 1, (.t 21)), (1, 3, (.t 27)), (5, 3, (.t 33))]⟩, ⟨(some 35), none, .bslice [(.int .i64 0), (.int .i64 0), (.int .i64 0), .nils, (.int .i64 0), (.int .i64 0), .nils, .nils] 54 1 [(0, 8, (.t 34))]⟩, ⟨(some 36), none, .bi (.append 8 112 54) [(.t 11), (.t 35)]⟩, ⟨(some 3), none, .mov (.t 36)⟩] [(5, [17, 23]), (10, [17, 23]), (21, [0])]))
 (.ops [⟨(some 9), none, .mov (.t 4)⟩, ⟨(some 10), none, .bin .add (.t 9) (.c (.int .i64 1))⟩, ⟨(some 4), none, .mov (.t 10)⟩])))
/-- furlong/furlonglaw0.CopyOps -/
def v13 : VFun := ⟨1, [(.tmp 2)], (.seq (.ops [⟨(some 2), none, .mov (.c .nils)⟩])
 (.seq (.ops [⟨(some 3), none, .mov (.c .nils)⟩])
 (.seq (.seq (.ops [⟨(some 4), none, .mov (.c (.int .i64 0))⟩])
 (.block 0 (.loop b13_0)))
 (.seq (.ops [⟨(some 37), none, .mov (.t 3)⟩, ⟨(some 2), none, .mov (.t 37)⟩])
 .ret))))⟩
/-- furlong/furlonglaw0.CopyMap -/
def v14 : VFun := ⟨1, [(.cell 2 true 3)], (.seq (.ops [⟨(some 1), none, .box 26 (.t 0)⟩, ⟨(some 2), none, .alloc [(.int .i64 0), .nils, .nils] 26⟩])
 (.seq (.mixed [⟨(some 3), none, .faddr 0 (.t 1)⟩, ⟨(some 4), none, .load false 1 (.t 3)⟩, ⟨(some 5), none, .bslice [(.int .i64 0)] 3 0 []⟩, ⟨(some 6), none, .faddr 1 (.t 1)⟩, ⟨(some 7), none, .load false 1 (.t 6)⟩, ⟨(some 8), none, .bi (.append 1 8 3) [(.t 5), (.t 7)]⟩, ⟨(some 9), none, .bslice [(.int .i64 0)] 3 0 []⟩, ⟨(some 10), none, .faddr 2 (.t 1)⟩, ⟨(some 11), none, .load false 1 (.t 10)⟩, ⟨(some 12), none, .bi (.append 1 8 3) [(.t 9), (.t 11)]⟩, ⟨(some 13), none, .build [(.int .i64 0), .nils, .nils] [(0, 1, (.t 4)), (1, 1, (.t 8)), (2, 1, (.t 12))]⟩, ⟨none, none, .store 3 (.t 2) (.t 13)⟩] [(1, [3, 6, 7, 10]), (4, [0]), (8, [0, 3, 6])])
 .ret))⟩
/-- furlong/furlonglaw0.Num -/
def v19 : VFun := ⟨1, [(.tmp 2)], (.seq (.ops [⟨(some 2), none, .mov (.c (.int .i64 0))⟩])
 (.seq (.ops [⟨(some 3), none, .mov (.t 0)⟩, ⟨(some 2), none, .mov (.t 3)⟩])
 .ret))⟩
def b21_0 : VCode := (.seq (.seq (.ops [⟨(some 3), none, .mov (.t 2)⟩, ⟨(some 4), none, .mov (.t 0)⟩, ⟨(some 5), none, .bi (.len 1) [(.t 4)]⟩, ⟨(some 6), none, .bin .lss (.t 3) (.t 5)⟩])
 (.cond (.t 6) .skip (.exit 0)))
 (.seq (.block 1 (.seq (.ops [⟨(some 9), none, .mov (.t 0)⟩, ⟨(some 10), none, .mov (.t 2)⟩, ⟨(some 11), none, .iaddr 8 none (.t 9) (.t 10)⟩, ⟨(some 12), none, .faddr 1 (.t 11)⟩, ⟨(some 13), none, .load true 3 (.t 12)⟩, ⟨(some 14), none, .bslice [(.int .i64 0), (.int .i64 0), .nils] 52 1 [(0, 3, (.t 13))]⟩, ⟨(some 15), none, .call 69 [(.t 14)]⟩])
 (.seq (.ops [⟨(some 16), none, .mov (.t 0)⟩, ⟨(some 17), none, .mov (.t 2)⟩, ⟨(some 18), none, .iaddr 8 none (.t 16) (.t 17)⟩, ⟨(some 19), none, .faddr 5 (.t 18)⟩, ⟨(some 20), none, .load true 3 (.t 19)⟩, ⟨(some 21), none, .call 22 [(.t 20)]⟩])
 (.ops [⟨(some 22), none, .mov (.t 0)⟩, ⟨(some 23), none, .mov (.t 2)⟩, ⟨(some 24), none, .mov (.t 0)⟩, ⟨(some 25), none, .mov (.t 2)⟩, ⟨(some 26), none, .iaddr 8 none (.t 24) (.t 25)⟩, ⟨(some 27), none, .faddr 4 (.t 26)⟩, ⟨(some 28), none, .load false 1 (.t 27)⟩, ⟨(some 29), none, .bin .xor (.t 28) (.c (.int .i64 90))⟩, ⟨(some 30), none, .iaddr 8 none (.t 22) (.t 23)⟩, ⟨(some 31), none, .faddr 4 (.t 30)⟩, ⟨none, none, .store 1 (.t 31) (.t 29)⟩]))))
 (.ops [⟨(some 7), none, .mov (.t 2)⟩, ⟨(some 8), none, .bin .add (.t 7) (.c (.int .i64 1))⟩, ⟨(some 2), none, .mov (.t 8)⟩])))
/-- furlong/furlonglaw0.SpoilOps -/
def v21 : VFun := ⟨1, [], (.seq (.ops [⟨(some 2), none, .mov (.c (.int .i64 0))⟩])
 (.block 0 (.loop b21_0)))⟩
/-- furlong/furlonglaw0.SpoilMap -/
def v22 : VFun := ⟨1, [], (.seq (.ops [⟨(some 1), none, .box 26 (.t 0)⟩])
 (.seq (.ops [⟨(some 2), none, .faddr 1 (.t 1)⟩, ⟨(some 3), none, .load false 1 (.t 2)⟩, ⟨(some 4), none, .call 70 [(.t 3)]⟩])
 (.ops [⟨(some 5), none, .faddr 2 (.t 1)⟩, ⟨(some 6), none, .load false 1 (.t 5)⟩, ⟨(some 7), none, .call 70 [(.t 6)]⟩])))⟩
def b24_0 : VCode := (.seq (.seq (.ops [⟨(some 5), none, .mov (.t 4)⟩, ⟨(some 6), none, .mov (.t 0)⟩, ⟨(some 7), none, .bi (.len 1) [(.t 6)]⟩, ⟨(some 8), none, .bin .lss (.t 5) (.t 7)⟩])
 (.cond (.t 8) .skip (.exit 0)))
 (.seq (.block 1 (.ops [⟨(some 11), none, .mov (.t 3)⟩, ⟨(some 12), none, .mov (.t 0)⟩, ⟨(some 13), none, .mov (.t 4)⟩, ⟨(some 14), none, .iaddr 3 none (.t 12) (.t 13)⟩, ⟨(some 15), none, .load true 3 (.t 14)⟩, ⟨(some 16), none, .call 44 [(.t 15)]⟩, ⟨(some 17), none, .bslice [(.int .i64 0), (.int .i64 0), .nils] 52 1 [(0, 3, (.t 16))]⟩, ⟨(some 18), none, .bi (.append 3 40 52) [(.t 11), (.t 17)]⟩, ⟨(some 3), none, .mov (.t 18)⟩]))
 (.ops [⟨(some 9), none, .mov (.t 4)⟩, ⟨(some 10), none, .bin .add (.t 9) (.c (.int .i64 1))⟩, ⟨(some 4), none, .mov (.t 10)⟩])))
/-- furlong/furlonglaw0.CopyFeatures -/
def v24 : VFun := ⟨1, [(.tmp 2)], (.seq (.ops [⟨(some 2), none, .mov (.c .nils)⟩])
 (.seq (.ops [⟨(some 3), none, .mov (.c .nils)⟩])
 (.seq (.seq (.ops [⟨(some 4), none, .mov (.c (.int .i64 0))⟩])
 (.block 0 (.loop b24_0)))
 (.seq (.ops [⟨(some 19), none, .mov (.t 3)⟩, ⟨(some 2), none, .mov (.t 19)⟩])
 .ret))))⟩
def b25_0 : VCode := (.seq (.ops [⟨(some 28), none, .bin .lss (.t 27) (.c (.int .i64 3))⟩])
 (.seq (.cond (.t 28) .skip (.exit 0))
 (.seq (.block 1 (.seq (.ops [⟨(some 29), none, .index false 1 3 (.t 26) (.t 27)⟩, ⟨(some 8), none, .mov (.t 29)⟩])
 (.ops [⟨(some 30), none, .mov (.t 6)⟩, ⟨(some 31), none, .mov (.t 8)⟩, ⟨(some 32), none, .call 46 [(.t 30), (.t 31), (.c (.int .i64 1))]⟩])))
 (.ops [⟨(some 33), none, .bin .add (.t 27) (.c (.int .i64 1))⟩, ⟨(some 27), none, .mov (.t 33)⟩]))))
def b25_1 : VCode := (.seq (.ops [⟨(some 83), none, .bin .lss (.t 82) (.t 81)⟩])
 (.seq (.cond (.t 83) .skip (.exit 2))
 (.seq (.block 3 (.seq (.ops [⟨(some 84), none, .mov (.t 82)⟩, ⟨(some 9), none, .mov (.t 84)⟩])
 (.ops [⟨(some 85), none, .mov (.t 6)⟩, ⟨(some 86), none, .faddr 15 (.t 1)⟩, ⟨(some 87), none, .load false 1 (.t 86)⟩, ⟨(some 88), none, .mov (.t 9)⟩, ⟨(some 89), none, .iaddr 3 none (.t 87) (.t 88)⟩, ⟨(some 90), none, .call 73 [(.t 85), (.t 89)]⟩])))
 (.ops [⟨(some 91), none, .bin .add (.t 82) (.c (.int .i64 1))⟩, ⟨(some 82), none, .mov (.t 91)⟩]))))
/-- furlong/msg.Put -/
def v25 : VFun := ⟨1, [(.tmp 2), (.tmp 3)], (.seq (.ops [⟨(some 1), none, .box 63 (.t 0)⟩, ⟨(some 2), none, .mov (.c (.str []))⟩, ⟨(some 3), none, .mov (.c (.int .i64 0))⟩])
 (.seq (.ops [⟨(some 11), none, .call 71 [(.t 1)]⟩, ⟨(some 10), none, .mov (.t 11)⟩, ⟨(some 12), none, .extract (.t 10) 0⟩, ⟨(some 13), none, .extract (.t 10) 1⟩, ⟨(some 4), none, .alloc [(.bool false), (.bool false), (.bool false), (.bool false), (.bool false)] 132⟩, ⟨none, none, .store 5 (.t 4) (.t 12)⟩, ⟨(some 5), none, .mov (.t 13)⟩])
 (.seq (.seq (.ops [⟨(some 14), none, .mov (.t 5)⟩, ⟨(some 15), none, .un .not (.t 14)⟩])
 (.cond (.t 15) (.seq (.ops [⟨(some 2), none, .mov (.c (.str []))⟩, ⟨(some 3), none, .mov (.c (.int .i64 1600))⟩])
 .ret) .skip))
 (.seq (.ops [⟨(some 16), none, .bslice [(.int .u8 0)] 5 2 [(0, 1, (.c (.int .u8 77))), (1, 1, (.c (.int .u8 83)))]⟩, ⟨(some 17), none, .conv .mark (.t 16)⟩, ⟨(some 18), none, .build [.nils] [(0, 1, (.t 17))]⟩, ⟨(some 19), none, .box 103 (.t 18)⟩, ⟨(some 6), none, .mov (.t 19)⟩])
 (.seq (.seq (.ops [⟨(some 20), none, .faddr 0 (.t 1)⟩, ⟨(some 21), none, .load false 1 (.t 20)⟩, ⟨(some 22), none, .faddr 1 (.t 1)⟩, ⟨(some 23), none, .load false 1 (.t 22)⟩, ⟨(some 24), none, .faddr 2 (.t 1)⟩, ⟨(some 25), none, .load false 1 (.t 24)⟩, ⟨(some 26), none, .build [(.int .i64 0), (.int .i64 0), (.int .i64 0)] [(0, 1, (.t 21)), (1, 1, (.t 23)), (2, 1, (.t 25))]⟩, ⟨(some 27), none, .mov (.c (.int .i64 0))⟩])
 (.block 0 (.loop b25_0)))
 (.seq (.seq (.ops [⟨(some 34), none, .faddr 0 (.t 4)⟩, ⟨(some 35), none, .load false 1 (.t 34)⟩])
 (.cond (.t 35) (.ops [⟨(some 36), none, .mov (.t 6)⟩, ⟨(some 37), none, .faddr 3 (.t 1)⟩, ⟨(some 38), none, .load true 2 (.t 37)⟩, ⟨(some 39), none, .call 48 [(.t 36), (.t 38)]⟩]) .skip))
 (.seq (.seq (.ops [⟨(some 40), none, .faddr 1 (.t 4)⟩, ⟨(some 41), none, .load false 1 (.t 40)⟩])
 (.cond (.t 41) (.ops [⟨(some 42), none, .mov (.t 6)⟩, ⟨(some 43), none, .faddr 5 (.t 1)⟩, ⟨(some 44), none, .load false 1 (.t 43)⟩, ⟨(some 45), none, .faddr 14 (.t 1)⟩, ⟨(some 46), none, .load false 1 (.t 45)⟩, ⟨(some 47), none, .call 49 [(.t 42), (.t 44), (.t 46)]⟩]) .skip))
 (.seq (.seq (.ops [⟨(some 48), none, .faddr 2 (.t 4)⟩, ⟨(some 49), none, .load false 1 (.t 48)⟩])
 (.cond (.t 49) (.ops [⟨(some 50), none, .mov (.t 6)⟩, ⟨(some 51), none, .faddr 6 (.t 1)⟩, ⟨(some 52), none, .load false 1 (.t 51)⟩, ⟨(some 53), none, .call 50 [(.t 50), (.t 52)]⟩]) .skip))
 (.seq (.seq (.ops [⟨(some 54), none, .faddr 3 (.t 4)⟩, ⟨(some 55), none, .load false 1 (.t 54)⟩])
 (.cond (.t 55) (.seq (.ops [⟨(some 56), none, .mov (.t 6)⟩, ⟨(some 57), none, .faddr 7 (.t 1)⟩, ⟨(some 58), none, .load false 1 (.t 57)⟩, ⟨(some 59), none, .call 46 [(.t 56), (.t 58), (.c (.int .i64 2))]⟩])
 (.ops [⟨(some 60), none, .mov (.t 6)⟩, ⟨(some 61), none, .faddr 10 (.t 1)⟩, ⟨(some 62), none, .load true 4 (.t 61)⟩, ⟨(some 63), none, .call 72 [(.t 60), (.t 62)]⟩])) .skip))
 (.seq (.seq (.ops [⟨(some 64), none, .faddr 4 (.t 4)⟩, ⟨(some 65), none, .load false 1 (.t 64)⟩])
 (.cond (.t 65) (.seq (.ops [⟨(some 66), none, .mov (.t 6)⟩, ⟨(some 67), none, .faddr 8 (.t 1)⟩, ⟨(some 68), none, .load false 1 (.t 67)⟩, ⟨(some 69), none, .call 46 [(.t 66), (.t 68), (.c (.int .i64 4))]⟩])
 (.seq (.ops [⟨(some 70), none, .mov (.t 6)⟩, ⟨(some 71), none, .faddr 9 (.t 1)⟩, ⟨(some 72), none, .load false 1 (.t 71)⟩, ⟨(some 73), none, .call 50 [(.t 70), (.t 72)]⟩])
 (.seq (.ops [⟨(some 74), none, .mov (.t 6)⟩, ⟨(some 75), none, .faddr 15 (.t 1)⟩, ⟨(some 76), none, .load false 1 (.t 75)⟩, ⟨(some 77), none, .bi (.len 1) [(.t 76)]⟩, ⟨(some 78), none, .call 46 [(.t 74), (.t 77), (.c (.int .i64 2))]⟩])
 (.seq (.ops [⟨(some 79), none, .faddr 15 (.t 1)⟩, ⟨(some 80), none, .load false 1 (.t 79)⟩, ⟨(some 81), none, .bi (.len 1) [(.t 80)]⟩, ⟨(some 82), none, .mov (.c (.int .i64 0))⟩])
 (.block 2 (.loop b25_1)))))) .skip))
 (.seq (.seq (.ops [⟨(some 92), none, .mov (.t 6)⟩, ⟨(some 93), none, .nilck (.t 92)⟩, ⟨(some 94), none, .faddr 0 (.t 93)⟩, ⟨(some 95), none, .load false 1 (.t 94)⟩, ⟨(some 96), none, .bi (.len 1) [(.t 95)]⟩, ⟨(some 97), none, .bin .gtr (.t 96) (.c (.int .i64 16384))⟩])
 (.cond (.t 97) (.seq (.ops [⟨(some 2), none, .mov (.c (.str []))⟩, ⟨(some 3), none, .mov (.c (.int .i64 1600))⟩])
 .ret) .skip))
 (.seq (.ops [⟨(some 98), none, .mov (.t 6)⟩, ⟨(some 99), none, .nilck (.t 98)⟩, ⟨(some 100), none, .faddr 0 (.t 99)⟩, ⟨(some 101), none, .load false 1 (.t 100)⟩, ⟨(some 102), none, .conv .text (.t 101)⟩, ⟨(some 2), none, .mov (.t 102)⟩, ⟨(some 3), none, .mov (.c (.int .i64 0))⟩])
 .ret))))))))))))⟩
def b26_0 : VCode := (.seq (.seq (.ops [⟨(some 63), none, .mov (.t 5)⟩, ⟨(some 64), none, .faddr 15 (.t 1)⟩, ⟨(some 65), none, .load false 1 (.t 64)⟩, ⟨(some 66), none, .bi (.len 1) [(.t 65)]⟩, ⟨(some 67), none, .bin .lss (.t 63) (.t 66)⟩, ⟨(some 68), none, .mov (.t 67)⟩, ⟨(some 69), (some (68, true)), .mov (.t 4)⟩, ⟨(some 70), (some (68, true)), .bi (.len 0) [(.t 69)]⟩, ⟨(some 71), (some (68, true)), .bin .leq (.t 70) (.c (.int .i64 16384))⟩, ⟨(some 72), none, .pick (.t 68) (.t 71) (.c (.bool false))⟩])
 (.cond (.t 72) .skip (.exit 1)))
 (.seq (.block 2 (.ops [⟨(some 75), none, .mov (.t 4)⟩, ⟨(some 76), none, .faddr 15 (.t 1)⟩, ⟨(some 77), none, .load false 1 (.t 76)⟩, ⟨(some 78), none, .mov (.t 5)⟩, ⟨(some 79), none, .iaddr 3 none (.t 77) (.t 78)⟩, ⟨(some 80), none, .load true 3 (.t 79)⟩, ⟨(some 81), none, .call 76 [(.t 80)]⟩, ⟨(some 82), none, .bin .add (.t 75) (.t 81)⟩, ⟨(some 4), none, .mov (.t 82)⟩]))
 (.ops [⟨(some 73), none, .mov (.t 5)⟩, ⟨(some 74), none, .bin .add (.t 73) (.c (.int .i64 1))⟩, ⟨(some 5), none, .mov (.t 74)⟩])))
/-- furlong/furlongref12.PutMsg -/
def v26 : VFun := ⟨1, [(.tmp 2), (.tmp 3)], (.seq (.ops [⟨(some 1), none, .box 63 (.t 0)⟩, ⟨(some 2), none, .mov (.c (.str []))⟩, ⟨(some 3), none, .mov (.c (.int .i64 0))⟩])
 (.seq (.seq (.ops [⟨(some 6), none, .load true 16 (.t 1)⟩, ⟨(some 7), none, .call 74 [(.t 6)]⟩, ⟨(some 8), none, .un .not (.t 7)⟩])
 (.cond (.t 8) (.seq (.ops [⟨(some 2), none, .mov (.c (.str []))⟩, ⟨(some 3), none, .mov (.c (.int .i64 1600))⟩])
 .ret) .skip))
 (.seq (.drawn [⟨(some 9), none, .faddr 0 (.t 1)⟩, ⟨(some 10), none, .load false 1 (.t 9)⟩, ⟨(some 11), none, .call 52 [(.t 10), (.c (.int .i64 1))]⟩, ⟨(some 12), none, .bin .add (.c (.str [77, 83])) (.t 11)⟩, ⟨(some 13), none, .faddr 1 (.t 1)⟩, ⟨(some 14), none, .load false 1 (.t 13)⟩, ⟨(some 15), none, .call 52 [(.t 14), (.c (.int .i64 1))]⟩, ⟨(some 16), none, .bin .add (.t 12) (.t 15)⟩, ⟨(some 17), none, .faddr 2 (.t 1)⟩, ⟨(some 18), none, .load false 1 (.t 17)⟩, ⟨(some 19), none, .call 52 [(.t 18), (.c (.int .i64 1))]⟩, ⟨(some 20), none, .bin .add (.t 16) (.t 19)⟩, ⟨(some 4), none, .mov (.t 20)⟩] [(5, [0]), (9, [0, 3])])
 (.seq (.seq (.ops [⟨(some 21), none, .faddr 0 (.t 1)⟩, ⟨(some 22), none, .load false 1 (.t 21)⟩])
 (.block 0 (.seq (.ops [⟨(some 29), none, .bin .eql (.t 22) (.c (.int .i64 5))⟩, ⟨(some 28), none, .mov (.t 29)⟩])
 (.cond (.t 28) (.drawn [⟨(some 30), none, .mov (.t 4)⟩, ⟨(some 31), none, .faddr 7 (.t 1)⟩, ⟨(some 32), none, .load false 1 (.t 31)⟩, ⟨(some 33), none, .call 52 [(.t 32), (.c (.int .i64 2))]⟩, ⟨(some 34), none, .bin .add (.t 30) (.t 33)⟩, ⟨(some 35), none, .faddr 10 (.t 1)⟩, ⟨(some 36), none, .load true 4 (.t 35)⟩, ⟨(some 37), none, .call 75 [(.t 36)]⟩, ⟨(some 38), none, .bin .add (.t 34) (.t 37)⟩, ⟨(some 4), none, .mov (.t 38)⟩] [(6, [0])]) (.seq (.ops [⟨(some 40), none, .bin .eql (.t 22) (.c (.int .i64 6))⟩, ⟨(some 39), none, .mov (.t 40)⟩])
 (.cond (.t 39) (.seq (.drawn [⟨(some 41), none, .mov (.t 4)⟩, ⟨(some 42), none, .faddr 7 (.t 1)⟩, ⟨(some 43), none, .load false 1 (.t 42)⟩, ⟨(some 44), none, .call 52 [(.t 43), (.c (.int .i64 2))]⟩, ⟨(some 45), none, .bin .add (.t 41) (.t 44)⟩, ⟨(some 46), none, .faddr 10 (.t 1)⟩, ⟨(some 47), none, .load true 4 (.t 46)⟩, ⟨(some 48), none, .call 75 [(.t 47)]⟩, ⟨(some 49), none, .bin .add (.t 45) (.t 48)⟩, ⟨(some 50), none, .faddr 8 (.t 1)⟩, ⟨(some 51), none, .load false 1 (.t 50)⟩, ⟨(some 52), none, .call 52 [(.t 51), (.c (.int .i64 4))]⟩, ⟨(some 53), none, .bin .add (.t 49) (.t 52)⟩, ⟨(some 54), none, .faddr 9 (.t 1)⟩, ⟨(some 55), none, .load false 1 (.t 54)⟩, ⟨(some 56), none, .call 56 [(.t 55)]⟩, ⟨(some 57), none, .bin .add (.t 53) (.t 56)⟩, ⟨(some 58), none, .faddr 15 (.t 1)⟩, ⟨(some 59), none, .load false 1 (.t 58)⟩, ⟨(some 60), none, .bi (.len 1) [(.t 59)]⟩, ⟨(some 61), none, .call 52 [(.t 60), (.c (.int .i64 2))]⟩, ⟨(some 62), none, .bin .add (.t 57) (.t 61)⟩, ⟨(some 4), none, .mov (.t 62)⟩] [(6, [0]), (10, [0, 4]), (14, [0, 4, 8]), (18, [0, 4, 8, 12]), (19, [0, 4, 8, 12])])
 (.seq (.ops [⟨(some 5), none, .mov (.c (.int .i64 0))⟩])
 (.block 1 (.loop b26_0)))) (.seq (.ops [⟨(some 84), none, .bin .eql (.t 22) (.c (.int .i64 0))⟩, ⟨(some 83), none, .mov (.t 84)⟩])
 (.cond (.t 83) (.drawn [⟨(some 85), none, .mov (.t 4)⟩, ⟨(some 86), none, .faddr 3 (.t 1)⟩, ⟨(some 87), none, .load true 2 (.t 86)⟩, ⟨(some 88), none, .call 54 [(.t 87)]⟩, ⟨(some 89), none, .bin .add (.t 85) (.t 88)⟩, ⟨(some 90), none, .faddr 5 (.t 1)⟩, ⟨(some 91), none, .load false 1 (.t 90)⟩, ⟨(some 92), none, .bin .add (.t 91) (.c (.int .i64 1))⟩, ⟨(some 93), none, .call 52 [(.t 92), (.c (.int .i64 4))]⟩, ⟨(some 94), none, .bin .add (.t 89) (.t 93)⟩, ⟨(some 95), none, .faddr 14 (.t 1)⟩, ⟨(some 96), none, .load false 1 (.t 95)⟩, ⟨(some 97), none, .call 55 [(.t 96)]⟩, ⟨(some 98), none, .bin .add (.t 94) (.t 97)⟩, ⟨(some 4), none, .mov (.t 98)⟩] [(6, [0]), (11, [0, 4])]) (.seq (.seq (.ops [⟨(some 100), none, .bin .eql (.t 22) (.c (.int .i64 1))⟩, ⟨(some 99), none, .mov (.t 100)⟩])
 (.cond (.t 99) .skip (.ops [⟨(some 101), none, .bin .eql (.t 22) (.c (.int .i64 2))⟩, ⟨(some 99), none, .mov (.t 101)⟩])))
 (.cond (.t 99) (.drawn [⟨(some 102), none, .mov (.t 4)⟩, ⟨(some 103), none, .faddr 3 (.t 1)⟩, ⟨(some 104), none, .load true 2 (.t 103)⟩, ⟨(some 105), none, .call 54 [(.t 104)]⟩, ⟨(some 106), none, .bin .add (.t 102) (.t 105)⟩, ⟨(some 107), none, .faddr 6 (.t 1)⟩, ⟨(some 108), none, .load false 1 (.t 107)⟩, ⟨(some 109), none, .call 56 [(.t 108)]⟩, ⟨(some 110), none, .bin .add (.t 106) (.t 109)⟩, ⟨(some 4), none, .mov (.t 110)⟩] [(6, [0])]) (.ops [⟨(some 23), none, .mov (.t 4)⟩, ⟨(some 24), none, .faddr 3 (.t 1)⟩, ⟨(some 25), none, .load true 2 (.t 24)⟩, ⟨(some 26), none, .call 54 [(.t 25)]⟩, ⟨(some 27), none, .bin .add (.t 23) (.t 26)⟩, ⟨(some 4), none, .mov (.t 27)⟩])))))))))))
 (.seq (.seq (.ops [⟨(some 111), none, .mov (.t 4)⟩, ⟨(some 112), none, .bi (.len 0) [(.t 111)]⟩, ⟨(some 113), none, .bin .gtr (.t 112) (.c (.int .i64 16384))⟩])
 (.cond (.t 113) (.seq (.ops [⟨(some 2), none, .mov (.c (.str []))⟩, ⟨(some 3), none, .mov (.c (.int .i64 1600))⟩])
 .ret) .skip))
 (.seq (.ops [⟨(some 114), none, .mov (.t 4)⟩, ⟨(some 2), none, .mov (.t 114)⟩, ⟨(some 3), none, .mov (.c (.int .i64 0))⟩])
 .ret))))))⟩
/-- furlong/msg.Get -/
def v27 : VFun := ⟨1, [(.cell 2 true 16), (.tmp 3)], (.seq (.ops [⟨(some 2), none, .alloc [(.int .i64 0), (.int .i64 0), (.int .i64 0), (.int .i64 0), (.int .i64 0), (.int .i64 0), (.bool false), (.int .i64 0), (.int .i64 0), (.bool false), (.int .i64 0), (.int .i64 0), (.int .i64 0), (.int .i64 0), .nils, .nils] 63⟩, ⟨(some 3), none, .mov (.c (.int .i64 0))⟩])
 (.seq (.seq (.ops [⟨(some 10), none, .mov (.t 0)⟩, ⟨(some 11), none, .bi (.len 0) [(.t 10)]⟩, ⟨(some 12), none, .bin .lss (.t 11) (.c (.int .i64 2))⟩, ⟨(some 13), none, .mov (.t 12)⟩, ⟨(some 14), (some (13, false)), .mov (.t 0)⟩, ⟨(some 15), (some (13, false)), .bi (.len 0) [(.t 14)]⟩, ⟨(some 16), (some (13, false)), .bin .gtr (.t 15) (.c (.int .i64 16384))⟩, ⟨(some 17), none, .pick (.t 13) (.c (.bool true)) (.t 16)⟩])
 (.cond (.t 17) (.seq (.ops [⟨(some 18), none, .build [(.int .i64 0), (.int .i64 0), (.int .i64 0), (.int .i64 0), (.int .i64 0), (.int .i64 0), (.bool false), (.int .i64 0), (.int .i64 0), (.bool false), (.int .i64 0), (.int .i64 0), (.int .i64 0), (.int .i64 0), .nils, .nils] []⟩, ⟨none, none, .store 16 (.t 2) (.t 18)⟩, ⟨(some 3), none, .mov (.c (.int .i64 1600))⟩])
 .ret) .skip))
 (.seq (.ops [⟨(some 19), none, .mov (.t 0)⟩, ⟨(some 20), none, .sliceS (.t 19) (some (.c (.int .i64 2))) none⟩, ⟨(some 21), none, .build [(.str [])] [(0, 1, (.t 20))]⟩, ⟨(some 22), none, .box 118 (.t 21)⟩, ⟨(some 4), none, .mov (.t 22)⟩])
 (.seq (.ops [⟨(some 23), none, .mov (.t 4)⟩, ⟨(some 24), none, .call 57 [(.t 23), (.c (.int .i64 1))]⟩, ⟨(some 25), none, .mov (.t 4)⟩, ⟨(some 26), none, .call 57 [(.t 25), (.c (.int .i64 1))]⟩, ⟨(some 27), none, .mov (.t 4)⟩, ⟨(some 28), none, .call 57 [(.t 27), (.c (.int .i64 1))]⟩, ⟨(some 29), none, .build [(.int .i64 0), (.int .i64 0), (.int .i64 0), (.int .i64 0), (.int .i64 0), (.int .i64 0), (.bool false), (.int .i64 0), (.int .i64 0), (.bool false), (.int .i64 0), (.int .i64 0), (.int .i64 0), (.int .i64 0), .nils, .nils] [(0, 1, (.t 24)), (1, 1, (.t 26)), (2, 1, (.t 28))]⟩, ⟨(some 5), none, .alloc [(.int .i64 0), (.int .i64 0), (.int .i64 0), (.int .i64 0), (.int .i64 0), (.int .i64 0), (.bool false), (.int .i64 0), (.int .i64 0), (.bool false), (.int .i64 0), (.int .i64 0), (.int .i64 0), (.int .i64 0), .nils, .nils] 63⟩, ⟨none, none, .store 16 (.t 5) (.t 29)⟩])
 (.seq (.ops [⟨(some 31), none, .faddr 0 (.t 5)⟩, ⟨(some 32), none, .load false 1 (.t 31)⟩, ⟨(some 33), none, .call 77 [(.t 32)]⟩, ⟨(some 30), none, .mov (.t 33)⟩, ⟨(some 34), none, .extract (.t 30) 0⟩, ⟨(some 35), none, .extract (.t 30) 1⟩, ⟨(some 6), none, .alloc [(.bool false), (.bool false), (.bool false), (.bool false), (.bool false)] 132⟩, ⟨none, none, .store 5 (.t 6) (.t 34)⟩, ⟨(some 7), none, .mov (.t 35)⟩])
 (.seq (.seq (.ops [⟨(some 36), none, .faddr 0 (.t 6)⟩, ⟨(some 37), none, .load false 1 (.t 36)⟩])
 (.cond (.t 37) (.ops [⟨(some 38), none, .mov (.t 4)⟩, ⟨(some 39), none, .call 59 [(.t 38)]⟩, ⟨(some 40), none, .faddr 3 (.t 5)⟩, ⟨none, none, .store 2 (.t 40) (.t 39)⟩]) .skip))
 (.seq (.seq (.ops [⟨(some 41), none, .faddr 1 (.t 6)⟩, ⟨(some 42), none, .load false 1 (.t 41)⟩])
 (.cond (.t 42) (.ops [⟨(some 44), none, .mov (.t 4)⟩, ⟨(some 45), none, .call 60 [(.t 44)]⟩, ⟨(some 43), none, .mov (.t 45)⟩, ⟨(some 46), none, .extract (.t 43) 0⟩, ⟨(some 47), none, .extract (.t 43) 1⟩, ⟨(some 48), none, .faddr 5 (.t 5)⟩, ⟨none, none, .store 1 (.t 48) (.t 46)⟩, ⟨(some 49), none, .faddr 14 (.t 5)⟩, ⟨none, none, .store 1 (.t 49) (.t 47)⟩]) .skip))
 (.seq (.seq (.ops [⟨(some 50), none, .faddr 2 (.t 6)⟩, ⟨(some 51), none, .load false 1 (.t 50)⟩])
 (.cond (.t 51) (.ops [⟨(some 52), none, .mov (.t 4)⟩, ⟨(some 53), none, .call 61 [(.t 52)]⟩, ⟨(some 54), none, .faddr 6 (.t 5)⟩, ⟨none, none, .store 1 (.t 54) (.t 53)⟩]) .skip))
 (.seq (.seq (.ops [⟨(some 55), none, .faddr 3 (.t 6)⟩, ⟨(some 56), none, .load false 1 (.t 55)⟩])
 (.cond (.t 56) (.seq (.ops [⟨(some 57), none, .mov (.t 4)⟩, ⟨(some 58), none, .call 57 [(.t 57), (.c (.int .i64 2))]⟩, ⟨(some 59), none, .faddr 7 (.t 5)⟩, ⟨none, none, .store 1 (.t 59) (.t 58)⟩])
 (.ops [⟨(some 60), none, .mov (.t 4)⟩, ⟨(some 61), none, .call 57 [(.t 60), (.c (.int .i64 4))]⟩, ⟨(some 62), none, .mov (.t 4)⟩, ⟨(some 63), none, .call 57 [(.t 62), (.c (.int .i64 4))]⟩, ⟨(some 64), none, .mov (.t 4)⟩, ⟨(some 65), none, .call 57 [(.t 64), (.c (.int .i64 4))]⟩, ⟨(some 66), none, .mov (.t 4)⟩, ⟨(some 67), none, .call 57 [(.t 66), (.c (.int .i64 4))]⟩, ⟨(some 68), none, .build [(.int .i64 0), (.int .i64 0), (.int .i64 0), (.int .i64 0)] [(0, 1, (.t 61)), (1, 1, (.t 63)), (2, 1, (.t 65)), (3, 1, (.t 67))]⟩, ⟨(some 69), none, .faddr 10 (.t 5)⟩, ⟨none, none, .store 4 (.t 69) (.t 68)⟩])) .skip))
 (.seq (.seq (.ops [⟨(some 70), none, .faddr 4 (.t 6)⟩, ⟨(some 71), none, .load false 1 (.t 70)⟩])
 (.cond (.t 71) (.ops [⟨(some 72), none, .mov (.t 4)⟩, ⟨(some 73), none, .call 78 [(.t 72), (.t 5)]⟩]) .skip))
 (.seq (.seq (.ops [⟨(some 75), none, .load true 16 (.t 5)⟩, ⟨(some 76), none, .call 25 [(.t 75)]⟩, ⟨(some 74), none, .mov (.t 76)⟩, ⟨(some 77), none, .extract (.t 74) 0⟩, ⟨(some 78), none, .extract (.t 74) 1⟩, ⟨(some 8), none, .mov (.t 77)⟩, ⟨(some 9), none, .mov (.t 78)⟩])
 (.seq (.ops [⟨(some 79), none, .mov (.t 9)⟩, ⟨(some 80), none, .bin .neq (.t 79) (.c (.int .i64 0))⟩, ⟨(some 81), none, .mov (.t 80)⟩, ⟨(some 82), (some (81, false)), .mov (.t 8)⟩, ⟨(some 83), (some (81, false)), .mov (.t 0)⟩, ⟨(some 84), (some (81, false)), .bin .neq (.t 82) (.t 83)⟩, ⟨(some 85), none, .pick (.t 81) (.c (.bool true)) (.t 84)⟩])
 (.cond (.t 85) (.seq (.ops [⟨(some 86), none, .build [(.int .i64 0), (.int .i64 0), (.int .i64 0), (.int .i64 0), (.int .i64 0), (.int .i64 0), (.bool false), (.int .i64 0), (.int .i64 0), (.bool false), (.int .i64 0), (.int .i64 0), (.int .i64 0), (.int .i64 0), .nils, .nils] []⟩, ⟨none, none, .store 16 (.t 2) (.t 86)⟩, ⟨(some 3), none, .mov (.c (.int .i64 1600))⟩])
 .ret) .skip)))
 (.seq (.ops [⟨(some 87), none, .load true 16 (.t 5)⟩, ⟨none, none, .store 16 (.t 2) (.t 87)⟩, ⟨(some 3), none, .mov (.c (.int .i64 0))⟩])
 .ret))))))))))))⟩
def b28_0 : VCode := (.seq (.seq (.ops [⟨(some 66), none, .mov (.t 7)⟩, ⟨(some 67), none, .mov (.t 6)⟩, ⟨(some 68), none, .bin .lss (.t 66) (.t 67)⟩, ⟨(some 69), none, .mov (.t 68)⟩, ⟨(some 70), (some (69, true)), .mov (.t 4)⟩, ⟨(some 71), (some (69, true)), .nilck (.t 70)⟩, ⟨(some 72), (some (69, true)), .faddr 2 (.t 71)⟩, ⟨(some 73), (some (69, true)), .load false 1 (.t 72)⟩, ⟨(some 74), (some (69, true)), .un .not (.t 73)⟩, ⟨(some 75), none, .pick (.t 69) (.t 74) (.c (.bool false))⟩])
 (.cond (.t 75) .skip (.exit 1)))
 (.seq (.block 2 (.drawn [⟨(some 78), none, .faddr 15 (.t 5)⟩, ⟨(some 79), none, .load false 1 (.t 78)⟩, ⟨(some 80), none, .mov (.t 4)⟩, ⟨(some 81), none, .call 80 [(.t 80)]⟩, ⟨(some 82), none, .bslice [(.int .i64 0), (.int .i64 0), .nils] 52 1 [(0, 3, (.t 81))]⟩, ⟨(some 83), none, .bi (.append 3 40 52) [(.t 79), (.t 82)]⟩, ⟨(some 84), none, .faddr 15 (.t 5)⟩, ⟨none, none, .store 1 (.t 84) (.t 83)⟩] [(1, [4, 5])]))
 (.ops [⟨(some 76), none, .mov (.t 7)⟩, ⟨(some 77), none, .bin .add (.t 76) (.c (.int .i64 1))⟩, ⟨(some 7), none, .mov (.t 77)⟩])))
/-- furlong/furlongref12.GetMsg -/
def v28 : VFun := ⟨1, [(.cell 2 true 16), (.tmp 3)], (.seq (.ops [⟨(some 2), none, .alloc [(.int .i64 0), (.int .i64 0), (.int .i64 0), (.int .i64 0), (.int .i64 0), (.int .i64 0), (.bool false), (.int .i64 0), (.int .i64 0), (.bool false), (.int .i64 0), (.int .i64 0), (.int .i64 0), (.int .i64 0), .nils, .nils] 63⟩, ⟨(some 3), none, .mov (.c (.int .i64 0))⟩])
 (.seq (.seq (.ops [⟨(some 10), none, .mov (.t 0)⟩, ⟨(some 11), none, .bi (.len 0) [(.t 10)]⟩, ⟨(some 12), none, .bin .lss (.t 11) (.c (.int .i64 5))⟩, ⟨(some 13), none, .mov (.t 12)⟩, ⟨(some 14), (some (13, false)), .mov (.t 0)⟩, ⟨(some 15), (some (13, false)), .bi (.len 0) [(.t 14)]⟩, ⟨(some 16), (some (13, false)), .bin .gtr (.t 15) (.c (.int .i64 16384))⟩, ⟨(some 17), none, .pick (.t 13) (.c (.bool true)) (.t 16)⟩, ⟨(some 18), none, .mov (.t 17)⟩, ⟨(some 19), (some (18, false)), .mov (.t 0)⟩, ⟨(some 20), (some (18, false)), .sliceS (.t 19) none (some (.c (.int .i64 2)))⟩, ⟨(some 21), (some (18, false)), .bin .neq (.t 20) (.c (.str [77, 83]))⟩, ⟨(some 22), none, .pick (.t 18) (.c (.bool true)) (.t 21)⟩])
 (.cond (.t 22) (.seq (.ops [⟨(some 23), none, .build [(.int .i64 0), (.int .i64 0), (.int .i64 0), (.int .i64 0), (.int .i64 0), (.int .i64 0), (.bool false), (.int .i64 0), (.int .i64 0), (.bool false), (.int .i64 0), (.int .i64 0), (.int .i64 0), (.int .i64 0), .nils, .nils] []⟩, ⟨none, none, .store 16 (.t 2) (.t 23)⟩, ⟨(some 3), none, .mov (.c (.int .i64 1600))⟩])
 .ret) .skip))
 (.seq (.ops [⟨(some 24), none, .mov (.t 0)⟩, ⟨(some 25), none, .build [(.str []), (.int .i64 0), (.bool false)] [(0, 1, (.t 24)), (1, 1, (.c (.int .i64 5)))]⟩, ⟨(some 26), none, .box 125 (.t 25)⟩, ⟨(some 4), none, .mov (.t 26)⟩])
 (.seq (.drawn [⟨(some 27), none, .mov (.t 0)⟩, ⟨(some 28), none, .indexS (.t 27) (.c (.int .i64 2))⟩, ⟨(some 29), none, .conv (.int .i64) (.t 28)⟩, ⟨(some 30), none, .mov (.t 0)⟩, ⟨(some 31), none, .indexS (.t 30) (.c (.int .i64 3))⟩, ⟨(some 32), none, .conv (.int .i64) (.t 31)⟩, ⟨(some 33), none, .mov (.t 0)⟩, ⟨(some 34), none, .indexS (.t 33) (.c (.int .i64 4))⟩, ⟨(some 35), none, .conv (.int .i64) (.t 34)⟩, ⟨(some 36), none, .build [(.int .i64 0), (.int .i64 0), (.int .i64 0), (.int .i64 0), (.int .i64 0), (.int .i64 0), (.bool false), (.int .i64 0), (.int .i64 0), (.bool false), (.int .i64 0), (.int .i64 0), (.int .i64 0), (.int .i64 0), .nils, .nils] [(0, 1, (.t 29)), (1, 1, (.t 32)), (2, 1, (.t 35))]⟩, ⟨(some 5), none, .alloc [(.int .i64 0), (.int .i64 0), (.int .i64 0), (.int .i64 0), (.int .i64 0), (.int .i64 0), (.bool false), (.int .i64 0), (.int .i64 0), (.bool false), (.int .i64 0), (.int .i64 0), (.int .i64 0), (.int .i64 0), .nils, .nils] 63⟩, ⟨none, none, .store 16 (.t 5) (.t 36)⟩] [])
 (.seq (.seq (.ops [⟨(some 37), none, .faddr 0 (.t 5)⟩, ⟨(some 38), none, .load false 1 (.t 37)⟩])
 (.block 0 (.seq (.ops [⟨(some 43), none, .bin .eql (.t 38) (.c (.int .i64 5))⟩, ⟨(some 42), none, .mov (.t 43)⟩])
 (.cond (.t 42) (.seq (.ops [⟨(some 44), none, .mov (.t 4)⟩, ⟨(some 45), none, .call 62 [(.t 44), (.c (.int .i64 2))]⟩, ⟨(some 46), none, .faddr 7 (.t 5)⟩, ⟨none, none, .store 1 (.t 46) (.t 45)⟩])
 (.ops [⟨(some 47), none, .mov (.t 4)⟩, ⟨(some 48), none, .call 79 [(.t 47)]⟩, ⟨(some 49), none, .faddr 10 (.t 5)⟩, ⟨none, none, .store 4 (.t 49) (.t 48)⟩])) (.seq (.ops [⟨(some 51), none, .bin .eql (.t 38) (.c (.int .i64 6))⟩, ⟨(some 50), none, .mov (.t 51)⟩])
 (.cond (.t 50) (.seq (.ops [⟨(some 52), none, .mov (.t 4)⟩, ⟨(some 53), none, .call 62 [(.t 52), (.c (.int .i64 2))]⟩, ⟨(some 54), none, .faddr 7 (.t 5)⟩, ⟨none, none, .store 1 (.t 54) (.t 53)⟩])
 (.seq (.ops [⟨(some 55), none, .mov (.t 4)⟩, ⟨(some 56), none, .call 79 [(.t 55)]⟩, ⟨(some 57), none, .faddr 10 (.t 5)⟩, ⟨none, none, .store 4 (.t 57) (.t 56)⟩])
 (.seq (.ops [⟨(some 58), none, .mov (.t 4)⟩, ⟨(some 59), none, .call 62 [(.t 58), (.c (.int .i64 4))]⟩, ⟨(some 60), none, .faddr 8 (.t 5)⟩, ⟨none, none, .store 1 (.t 60) (.t 59)⟩])
 (.seq (.ops [⟨(some 61), none, .mov (.t 4)⟩, ⟨(some 62), none, .call 66 [(.t 61)]⟩, ⟨(some 63), none, .faddr 9 (.t 5)⟩, ⟨none, none, .store 1 (.t 63) (.t 62)⟩])
 (.seq (.ops [⟨(some 64), none, .mov (.t 4)⟩, ⟨(some 65), none, .call 62 [(.t 64), (.c (.int .i64 2))]⟩, ⟨(some 6), none, .mov (.t 65)⟩])
 (.seq (.ops [⟨(some 7), none, .mov (.c (.int .i64 0))⟩])
 (.block 1 (.loop b28_0)))))))) (.seq (.ops [⟨(some 86), none, .bin .eql (.t 38) (.c (.int .i64 0))⟩, ⟨(some 85), none, .mov (.t 86)⟩])
 (.cond (.t 85) (.seq (.ops [⟨(some 87), none, .mov (.t 4)⟩, ⟨(some 88), none, .call 64 [(.t 87)]⟩, ⟨(some 89), none, .faddr 3 (.t 5)⟩, ⟨none, none, .store 2 (.t 89) (.t 88)⟩])
 (.seq (.ops [⟨(some 90), none, .mov (.t 4)⟩, ⟨(some 91), none, .call 62 [(.t 90), (.c (.int .i64 4))]⟩, ⟨(some 92), none, .bin .sub (.t 91) (.c (.int .i64 1))⟩, ⟨(some 93), none, .faddr 5 (.t 5)⟩, ⟨none, none, .store 1 (.t 93) (.t 92)⟩])
 (.ops [⟨(some 94), none, .mov (.t 4)⟩, ⟨(some 95), none, .call 65 [(.t 94)]⟩, ⟨(some 96), none, .faddr 14 (.t 5)⟩, ⟨none, none, .store 1 (.t 96) (.t 95)⟩]))) (.seq (.seq (.ops [⟨(some 98), none, .bin .eql (.t 38) (.c (.int .i64 1))⟩, ⟨(some 97), none, .mov (.t 98)⟩])
 (.cond (.t 97) .skip (.ops [⟨(some 99), none, .bin .eql (.t 38) (.c (.int .i64 2))⟩, ⟨(some 97), none, .mov (.t 99)⟩])))
 (.cond (.t 97) (.seq (.ops [⟨(some 100), none, .mov (.t 4)⟩, ⟨(some 101), none, .call 64 [(.t 100)]⟩, ⟨(some 102), none, .faddr 3 (.t 5)⟩, ⟨none, none, .store 2 (.t 102) (.t 101)⟩])
 (.ops [⟨(some 103), none, .mov (.t 4)⟩, ⟨(some 104), none, .call 66 [(.t 103)]⟩, ⟨(some 105), none, .faddr 6 (.t 5)⟩, ⟨none, none, .store 1 (.t 105) (.t 104)⟩])) (.ops [⟨(some 39), none, .mov (.t 4)⟩, ⟨(some 40), none, .call 64 [(.t 39)]⟩, ⟨(some 41), none, .faddr 3 (.t 5)⟩, ⟨none, none, .store 2 (.t 41) (.t 40)⟩])))))))))))
 (.seq (.ops [⟨(some 107), none, .load true 16 (.t 5)⟩, ⟨(some 108), none, .call 26 [(.t 107)]⟩, ⟨(some 106), none, .mov (.t 108)⟩, ⟨(some 109), none, .extract (.t 106) 0⟩, ⟨(some 110), none, .extract (.t 106) 1⟩, ⟨(some 8), none, .mov (.t 109)⟩, ⟨(some 9), none, .mov (.t 110)⟩])
 (.seq (.seq (.ops [⟨(some 111), none, .mov (.t 4)⟩, ⟨(some 112), none, .nilck (.t 111)⟩, ⟨(some 113), none, .faddr 2 (.t 112)⟩, ⟨(some 114), none, .load false 1 (.t 113)⟩, ⟨(some 115), none, .mov (.t 114)⟩, ⟨(some 116), (some (115, false)), .mov (.t 4)⟩, ⟨(some 117), (some (115, false)), .nilck (.t 116)⟩, ⟨(some 118), (some (115, false)), .faddr 1 (.t 117)⟩, ⟨(some 119), (some (115, false)), .load false 1 (.t 118)⟩, ⟨(some 120), (some (115, false)), .mov (.t 0)⟩, ⟨(some 121), (some (115, false)), .bi (.len 0) [(.t 120)]⟩, ⟨(some 122), (some (115, false)), .bin .neq (.t 119) (.t 121)⟩, ⟨(some 123), none, .pick (.t 115) (.c (.bool true)) (.t 122)⟩, ⟨(some 124), none, .mov (.t 123)⟩, ⟨(some 125), (some (124, false)), .mov (.t 9)⟩, ⟨(some 126), (some (124, false)), .bin .neq (.t 125) (.c (.int .i64 0))⟩, ⟨(some 127), none, .pick (.t 124) (.c (.bool true)) (.t 126)⟩, ⟨(some 128), none, .mov (.t 127)⟩, ⟨(some 129), (some (128, false)), .mov (.t 8)⟩, ⟨(some 130), (some (128, false)), .mov (.t 0)⟩, ⟨(some 131), (some (128, false)), .bin .neq (.t 129) (.t 130)⟩, ⟨(some 132), none, .pick (.t 128) (.c (.bool true)) (.t 131)⟩])
 (.cond (.t 132) (.seq (.ops [⟨(some 133), none, .build [(.int .i64 0), (.int .i64 0), (.int .i64 0), (.int .i64 0), (.int .i64 0), (.int .i64 0), (.bool false), (.int .i64 0), (.int .i64 0), (.bool false), (.int .i64 0), (.int .i64 0), (.int .i64 0), (.int .i64 0), .nils, .nils] []⟩, ⟨none, none, .store 16 (.t 2) (.t 133)⟩, ⟨(some 3), none, .mov (.c (.int .i64 1600))⟩])
 .ret) .skip))
 (.seq (.ops [⟨(some 134), none, .load true 16 (.t 5)⟩, ⟨none, none, .store 16 (.t 2) (.t 134)⟩, ⟨(some 3), none, .mov (.c (.int .i64 0))⟩])
 .ret))))))))⟩
/-- furlong/furlonglaw0.SameMsg -/
def v29 : VFun := ⟨2, [(.tmp 4)], (.seq (.ops [⟨(some 2), none, .box 63 (.t 0)⟩, ⟨(some 3), none, .box 63 (.t 1)⟩, ⟨(some 4), none, .mov (.c (.bool false))⟩])
 (.seq (.ops [⟨(some 5), none, .faddr 0 (.t 2)⟩, ⟨(some 6), none, .load false 1 (.t 5)⟩, ⟨(some 7), none, .faddr 0 (.t 3)⟩, ⟨(some 8), none, .load false 1 (.t 7)⟩, ⟨(some 9), none, .bin .eql (.t 6) (.t 8)⟩, ⟨(some 10), none, .mov (.t 9)⟩, ⟨(some 11), (some (10, true)), .faddr 1 (.t 2)⟩, ⟨(some 12), (some (10, true)), .load false 1 (.t 11)⟩, ⟨(some 13), (some (10, true)), .faddr 1 (.t 3)⟩, ⟨(some 14), (some (10, true)), .load false 1 (.t 13)⟩, ⟨(some 15), (some (10, true)), .bin .eql (.t 12) (.t 14)⟩, ⟨(some 16), none, .pick (.t 10) (.t 15) (.c (.bool false))⟩, ⟨(some 17), none, .mov (.t 16)⟩, ⟨(some 18), (some (17, true)), .faddr 2 (.t 2)⟩, ⟨(some 19), (some (17, true)), .load false 1 (.t 18)⟩, ⟨(some 20), (some (17, true)), .faddr 2 (.t 3)⟩, ⟨(some 21), (some (17, true)), .load false 1 (.t 20)⟩, ⟨(some 22), (some (17, true)), .bin .eql (.t 19) (.t 21)⟩, ⟨(some 23), none, .pick (.t 17) (.t 22) (.c (.bool false))⟩, ⟨(some 24), none, .mov (.t 23)⟩, ⟨(some 25), (some (24, true)), .faddr 3 (.t 2)⟩, ⟨(some 26), (some (24, true)), .load true 2 (.t 25)⟩, ⟨(some 27), (some (24, true)), .faddr 3 (.t 3)⟩, ⟨(some 28), (some (24, true)), .load true 2 (.t 27)⟩, ⟨(some 29), (some (24, true)), .eqs (.flat [.int, .int]) false (.t 26) (.t 28)⟩, ⟨(some 30), none, .pick (.t 24) (.t 29) (.c (.bool false))⟩, ⟨(some 31), none, .mov (.t 30)⟩, ⟨(some 32), (some (31, true)), .faddr 5 (.t 2)⟩, ⟨(some 33), (some (31, true)), .load false 1 (.t 32)⟩, ⟨(some 34), (some (31, true)), .faddr 5 (.t 3)⟩, ⟨(some 35), (some (31, true)), .load false 1 (.t 34)⟩, ⟨(some 36), (some (31, true)), .bin .eql (.t 33) (.t 35)⟩, ⟨(some 37), none, .pick (.t 31) (.t 36) (.c (.bool false))⟩, ⟨(some 38), none, .mov (.t 37)⟩, ⟨(some 39), (some (38, true)), .faddr 6 (.t 2)⟩, ⟨(some 40), (some (38, true)), .load false 1 (.t 39)⟩, ⟨(some 41), (some (38, true)), .faddr 6 (.t 3)⟩, ⟨(some 42), (some (38, true)), .load false 1 (.t 41)⟩, ⟨(some 43), (some (38, true)), .eqs .bool false (.t 40) (.t 42)⟩, ⟨(some 44), none, .pick (.t 38) (.t 43) (.c (.bool false))⟩, ⟨(some 45), none, .mov (.t 44)⟩, ⟨(some 46), (some (45, true)), .faddr 7 (.t 2)⟩, ⟨(some 47), (some (45, true)), .load false 1 (.t 46)⟩, ⟨(some 48), (some (45, true)), .faddr 7 (.t 3)⟩, ⟨(some 49), (some (45, true)), .load false 1 (.t 48)⟩, ⟨(some 50), (some (45, true)), .bin .eql (.t 47) (.t 49)⟩, ⟨(some 51), none, .pick (.t 45) (.t 50) (.c (.bool false))⟩, ⟨(some 52), none, .mov (.t 51)⟩, ⟨(some 53), (some (52, true)), .faddr 8 (.t 2)⟩, ⟨(some 54), (some (52, true)), .load false 1 (.t 53)⟩, ⟨(some 55), (some (52, true)), .faddr 8 (.t 3)⟩, ⟨(some 56), (some (52, true)), .load false 1 (.t 55)⟩, ⟨(some 57), (some (52, true)), .bin .eql (.t 54) (.t 56)⟩, ⟨(some 58), none, .pick (.t 52) (.t 57) (.c (.bool false))⟩, ⟨(some 59), none, .mov (.t 58)⟩, ⟨(some 60), (some (59, true)), .faddr 9 (.t 2)⟩, ⟨(some 61), (some (59, true)), .load false 1 (.t 60)⟩, ⟨(some 62), (some (59, true)), .faddr 9 (.t 3)⟩, ⟨(some 63), (some (59, true)), .load false 1 (.t 62)⟩, ⟨(some 64), (some (59, true)), .eqs .bool false (.t 61) (.t 63)⟩, ⟨(some 65), none, .pick (.t 59) (.t 64) (.c (.bool false))⟩, ⟨(some 66), none, .mov (.t 65)⟩, ⟨(some 67), (some (66, true)), .faddr 10 (.t 2)⟩, ⟨(some 68), (some (66, true)), .load true 4 (.t 67)⟩, ⟨(some 69), (some (66, true)), .faddr 10 (.t 3)⟩, ⟨(some 70), (some (66, true)), .load true 4 (.t 69)⟩, ⟨(some 71), (some (66, true)), .eqs (.flat [.int, .int, .int, .int]) false (.t 68) (.t 70)⟩, ⟨(some 72), none, .pick (.t 66) (.t 71) (.c (.bool false))⟩, ⟨(some 73), none, .mov (.t 72)⟩, ⟨(some 74), (some (73, true)), .faddr 14 (.t 2)⟩, ⟨(some 75), (some (73, true)), .load false 1 (.t 74)⟩, ⟨(some 76), (some (73, true)), .faddr 14 (.t 3)⟩, ⟨(some 77), (some (73, true)), .load false 1 (.t 76)⟩, ⟨(some 78), (some (73, true)), .call 68 [(.t 75), (.t 77)]⟩, ⟨(some 79), none, .pick (.t 73) (.t 78) (.c (.bool false))⟩, ⟨(some 80), none, .mov (.t 79)⟩, ⟨(some 81), (some (80, true)), .faddr 15 (.t 2)⟩, ⟨(some 82), (some (80, true)), .load false 1 (.t 81)⟩, ⟨(some 83), (some (80, true)), .faddr 15 (.t 3)⟩, ⟨(some 84), (some (80, true)), .load false 1 (.t 83)⟩, ⟨(some 85), (some (80, true)), .call 81 [(.t 82), (.t 84)]⟩, ⟨(some 86), none, .pick (.t 80) (.t 85) (.c (.bool false))⟩, ⟨(some 4), none, .mov (.t 86)⟩])
 .ret))⟩
def b30_0 : VCode := (.seq (.seq (.ops [⟨(some 3), none, .mov (.t 2)⟩, ⟨(some 4), none, .mov (.t 0)⟩, ⟨(some 5), none, .bi (.len 1) [(.t 4)]⟩, ⟨(some 6), none, .bin .lss (.t 3) (.t 5)⟩])
 (.cond (.t 6) .skip (.exit 0)))
 (.seq (.block 1 (.seq (.ops [⟨(some 9), none, .mov (.t 0)⟩, ⟨(some 10), none, .mov (.t 2)⟩, ⟨(some 11), none, .iaddr 16 none (.t 9) (.t 10)⟩, ⟨(some 12), none, .faddr 14 (.t 11)⟩, ⟨(some 13), none, .load false 1 (.t 12)⟩, ⟨(some 14), none, .call 21 [(.t 13)]⟩])
 (.seq (.ops [⟨(some 15), none, .mov (.t 0)⟩, ⟨(some 16), none, .mov (.t 2)⟩, ⟨(some 17), none, .iaddr 16 none (.t 15) (.t 16)⟩, ⟨(some 18), none, .faddr 15 (.t 17)⟩, ⟨(some 19), none, .load false 1 (.t 18)⟩, ⟨(some 20), none, .call 69 [(.t 19)]⟩])
 (.ops [⟨(some 21), none, .mov (.t 0)⟩, ⟨(some 22), none, .mov (.t 2)⟩, ⟨(some 23), none, .mov (.t 0)⟩, ⟨(some 24), none, .mov (.t 2)⟩, ⟨(some 25), none, .iaddr 16 none (.t 23) (.t 24)⟩, ⟨(some 26), none, .faddr 2 (.t 25)⟩, ⟨(some 27), none, .load false 1 (.t 26)⟩, ⟨(some 28), none, .bin .xor (.t 27) (.c (.int .i64 90))⟩, ⟨(some 29), none, .iaddr 16 none (.t 21) (.t 22)⟩, ⟨(some 30), none, .faddr 2 (.t 29)⟩, ⟨none, none, .store 1 (.t 30) (.t 28)⟩]))))
 (.ops [⟨(some 7), none, .mov (.t 2)⟩, ⟨(some 8), none, .bin .add (.t 7) (.c (.int .i64 1))⟩, ⟨(some 2), none, .mov (.t 8)⟩])))
/-- furlong/furlonglaw0.SpoilMsgs -/
def v30 : VFun := ⟨1, [], (.seq (.ops [⟨(some 2), none, .mov (.c (.int .i64 0))⟩])
 (.block 0 (.loop b30_0)))⟩
/-- furlong/furlonglaw16.awake -/
def v31 : VFun := ⟨0, [(.tmp 0)], (.seq (.ops [⟨(some 0), none, .mov (.c (.bool false))⟩])
 (.seq (.ops [⟨(some 12), none, .build [(.int .i64 0), (.int .i64 0)] [(0, 1, (.c (.int .i64 3))), (1, 1, (.c (.int .i64 258)))]⟩, ⟨(some 13), none, .build [(.int .i64 0), (.int .i64 0), (.int .i64 0), (.int .i64 0), (.int .i64 0), (.int .i64 0), (.bool false), (.int .i64 0), (.int .i64 0), (.bool false), (.int .i64 0), (.int .i64 0), (.int .i64 0), (.int .i64 0), .nils, .nils] [(0, 1, (.c (.int .i64 1))), (1, 1, (.c (.int .i64 1))), (2, 1, (.c (.int .i64 2))), (3, 2, (.t 12)), (6, 1, (.c (.bool true)))]⟩, ⟨(some 1), none, .alloc [(.int .i64 0), (.int .i64 0), (.int .i64 0), (.int .i64 0), (.int .i64 0), (.int .i64 0), (.bool false), (.int .i64 0), (.int .i64 0), (.bool false), (.int .i64 0), (.int .i64 0), (.int .i64 0), (.int .i64 0), .nils, .nils] 63⟩, ⟨none, none, .store 16 (.t 1) (.t 13)⟩])
 (.seq (.ops [⟨(some 15), none, .load true 16 (.t 1)⟩, ⟨(some 16), none, .call 25 [(.t 15)]⟩, ⟨(some 14), none, .mov (.t 16)⟩, ⟨(some 17), none, .extract (.t 14) 0⟩, ⟨(some 18), none, .extract (.t 14) 1⟩, ⟨(some 2), none, .mov (.t 17)⟩, ⟨(some 3), none, .mov (.t 18)⟩])
 (.seq (.ops [⟨(some 20), none, .mov (.t 2)⟩, ⟨(some 21), none, .call 27 [(.t 20)]⟩, ⟨(some 19), none, .mov (.t 21)⟩, ⟨(some 22), none, .extract (.t 19) 0⟩, ⟨(some 23), none, .extract (.t 19) 1⟩, ⟨(some 4), none, .alloc [(.int .i64 0), (.int .i64 0), (.int .i64 0), (.int .i64 0), (.int .i64 0), (.int .i64 0), (.bool false), (.int .i64 0), (.int .i64 0), (.bool false), (.int .i64 0), (.int .i64 0), (.int .i64 0), (.int .i64 0), .nils, .nils] 63⟩, ⟨none, none, .store 16 (.t 4) (.t 22)⟩, ⟨(some 5), none, .mov (.t 23)⟩])
 (.seq (.ops [⟨(some 25), none, .build [(.int .i64 0), (.int .i64 0)] [(1, 1, (.c (.int .i64 1)))]⟩, ⟨(some 26), none, .build [(.int .i64 0), (.int .i64 0), (.int .i64 0), (.int .i64 0), (.int .i64 0), (.int .i64 0), (.bool false), (.int .i64 0), (.int .i64 0), (.bool false), (.int .i64 0), (.int .i64 0), (.int .i64 0), (.int .i64 0), .nils, .nils] [(0, 1, (.c (.int .i64 1))), (3, 2, (.t 25)), (7, 1, (.c (.int .i64 1)))]⟩, ⟨(some 27), none, .call 25 [(.t 26)]⟩, ⟨(some 24), none, .mov (.t 27)⟩, ⟨(some 28), none, .extract (.t 24) 0⟩, ⟨(some 29), none, .extract (.t 24) 1⟩, ⟨(some 6), none, .mov (.t 28)⟩, ⟨(some 7), none, .mov (.t 29)⟩])
 (.seq (.ops [⟨(some 31), none, .call 27 [(.c (.str [77, 83]))]⟩, ⟨(some 30), none, .mov (.t 31)⟩, ⟨(some 32), none, .extract (.t 30) 0⟩, ⟨(some 33), none, .extract (.t 30) 1⟩, ⟨(some 8), none, .alloc [(.int .i64 0), (.int .i64 0), (.int .i64 0), (.int .i64 0), (.int .i64 0), (.int .i64 0), (.bool false), (.int .i64 0), (.int .i64 0), (.bool false), (.int .i64 0), (.int .i64 0), (.int .i64 0), (.int .i64 0), .nils, .nils] 63⟩, ⟨none, none, .store 16 (.t 8) (.t 32)⟩, ⟨(some 9), none, .mov (.t 33)⟩])
 (.seq (.ops [⟨(some 35), none, .build [(.int .i64 0), (.int .i64 0), (.int .i64 0), (.int .i64 0)] [(2, 1, (.c (.int .i64 1))), (3, 1, (.c (.int .i64 2)))]⟩, ⟨(some 36), none, .build [(.int .i64 0), (.int .i64 0), (.int .i64 0), (.int .i64 0), (.int .i64 0), (.int .i64 0), (.bool false), (.int .i64 0), (.int .i64 0), (.bool false), (.int .i64 0), (.int .i64 0), (.int .i64 0), (.int .i64 0), .nils, .nils] [(0, 1, (.c (.int .i64 6))), (7, 1, (.c (.int .i64 5))), (10, 4, (.t 35)), (8, 1, (.c (.int .i64 3))), (9, 1, (.c (.bool true)))]⟩, ⟨(some 37), none, .call 25 [(.t 36)]⟩, ⟨(some 34), none, .mov (.t 37)⟩, ⟨(some 38), none, .extract (.t 34) 0⟩, ⟨(some 39), none, .extract (.t 34) 1⟩, ⟨(some 10), none, .mov (.t 38)⟩, ⟨(some 11), none, .mov (.t 39)⟩])
 (.seq (.ops [⟨(some 40), none, .mov (.t 2)⟩, ⟨(some 41), none, .bin .eql (.t 40) (.c (.str [77, 83, 1, 1, 2, 3, 1, 2, 1]))⟩, ⟨(some 42), none, .mov (.t 41)⟩, ⟨(some 43), (some (42, true)), .mov (.t 3)⟩, ⟨(some 44), (some (42, true)), .call 19 [(.t 43)]⟩, ⟨(some 45), (some (42, true)), .bin .eql (.t 44) (.c (.int .i64 0))⟩, ⟨(some 46), none, .pick (.t 42) (.t 45) (.c (.bool false))⟩, ⟨(some 47), none, .mov (.t 46)⟩, ⟨(some 48), (some (47, true)), .load true 16 (.t 4)⟩, ⟨(some 49), (some (47, true)), .load true 16 (.t 1)⟩, ⟨(some 50), (some (47, true)), .call 29 [(.t 48), (.t 49)]⟩, ⟨(some 51), none, .pick (.t 47) (.t 50) (.c (.bool false))⟩, ⟨(some 52), none, .mov (.t 51)⟩, ⟨(some 53), (some (52, true)), .mov (.t 5)⟩, ⟨(some 54), (some (52, true)), .call 19 [(.t 53)]⟩, ⟨(some 55), (some (52, true)), .bin .eql (.t 54) (.c (.int .i64 0))⟩, ⟨(some 56), none, .pick (.t 52) (.t 55) (.c (.bool false))⟩, ⟨(some 57), none, .mov (.t 56)⟩, ⟨(some 58), (some (57, true)), .mov (.t 7)⟩, ⟨(some 59), (some (57, true)), .call 19 [(.t 58)]⟩, ⟨(some 60), (some (57, true)), .bin .eql (.t 59) (.c (.int .i64 1600))⟩, ⟨(some 61), none, .pick (.t 57) (.t 60) (.c (.bool false))⟩, ⟨(some 62), none, .mov (.t 61)⟩, ⟨(some 63), (some (62, true)), .mov (.t 9)⟩, ⟨(some 64), (some (62, true)), .call 19 [(.t 63)]⟩, ⟨(some 65), (some (62, true)), .bin .eql (.t 64) (.c (.int .i64 1600))⟩, ⟨(some 66), none, .pick (.t 62) (.t 65) (.c (.bool false))⟩, ⟨(some 67), none, .mov (.t 66)⟩, ⟨(some 68), (some (67, true)), .mov (.t 10)⟩, ⟨(some 69), (some (67, true)), .bi (.len 0) [(.t 68)]⟩, ⟨(some 70), (some (67, true)), .bin .eql (.t 69) (.c (.int .i64 30))⟩, ⟨(some 71), none, .pick (.t 67) (.t 70) (.c (.bool false))⟩, ⟨(some 72), none, .mov (.t 71)⟩, ⟨(some 73), (some (72, true)), .mov (.t 11)⟩, ⟨(some 74), (some (72, true)), .call 19 [(.t 73)]⟩, ⟨(some 75), (some (72, true)), .bin .eql (.t 74) (.c (.int .i64 0))⟩, ⟨(some 76), none, .pick (.t 72) (.t 75) (.c (.bool false))⟩, ⟨(some 0), none, .mov (.t 76)⟩])
 .ret))))))))⟩
def b44_0 : VCode := (.seq (.seq (.ops [⟨(some 10), none, .mov (.t 4)⟩, ⟨(some 11), none, .faddr 2 (.t 1)⟩, ⟨(some 12), none, .load false 1 (.t 11)⟩, ⟨(some 13), none, .bi (.len 1) [(.t 12)]⟩, ⟨(some 14), none, .bin .lss (.t 10) (.t 13)⟩])
 (.cond (.t 14) .skip (.exit 0)))
 (.seq (.block 1 (.drawn [⟨(some 17), none, .faddr 2 (.t 3)⟩, ⟨(some 18), none, .load false 1 (.t 17)⟩, ⟨(some 19), none, .bslice [(.int .i64 0), (.int .i64 0)] 48 0 []⟩, ⟨(some 20), none, .faddr 2 (.t 1)⟩, ⟨(some 21), none, .load false 1 (.t 20)⟩, ⟨(some 22), none, .mov (.t 4)⟩, ⟨(some 23), none, .iaddr 1 none (.t 21) (.t 22)⟩, ⟨(some 24), none, .load false 1 (.t 23)⟩, ⟨(some 25), none, .bi (.append 2 16 48) [(.t 19), (.t 24)]⟩, ⟨(some 26), none, .bslice [.nils] 49 1 [(0, 1, (.t 25))]⟩, ⟨(some 27), none, .bi (.append 1 24 49) [(.t 18), (.t 26)]⟩, ⟨(some 28), none, .faddr 2 (.t 3)⟩, ⟨none, none, .store 1 (.t 28) (.t 27)⟩] [(1, [3, 9, 10]), (4, [0]), (7, [0])]))
 (.ops [⟨(some 15), none, .mov (.t 4)⟩, ⟨(some 16), none, .bin .add (.t 15) (.c (.int .i64 1))⟩, ⟨(some 4), none, .mov (.t 16)⟩])))
/-- furlong/furlonglaw0.CopyFeature -/
def v44 : VFun := ⟨1, [(.cell 2 true 3)], (.seq (.ops [⟨(some 1), none, .box 52 (.t 0)⟩, ⟨(some 2), none, .alloc [(.int .i64 0), (.int .i64 0), .nils] 52⟩])
 (.seq (.ops [⟨(some 5), none, .faddr 0 (.t 1)⟩, ⟨(some 6), none, .load false 1 (.t 5)⟩, ⟨(some 7), none, .faddr 1 (.t 1)⟩, ⟨(some 8), none, .load false 1 (.t 7)⟩, ⟨(some 9), none, .build [(.int .i64 0), (.int .i64 0), .nils] [(0, 1, (.t 6)), (1, 1, (.t 8))]⟩, ⟨(some 3), none, .alloc [(.int .i64 0), (.int .i64 0), .nils] 52⟩, ⟨none, none, .store 3 (.t 3) (.t 9)⟩])
 (.seq (.seq (.ops [⟨(some 4), none, .mov (.c (.int .i64 0))⟩])
 (.block 0 (.loop b44_0)))
 (.seq (.ops [⟨(some 29), none, .load true 3 (.t 3)⟩, ⟨none, none, .store 3 (.t 2) (.t 29)⟩])
 .ret))))⟩
/-- (*furlong/rec.Writer).Num -/
def v46 : VFun := ⟨3, [], (.drawn [⟨(some 6), none, .mov (.t 0)⟩, ⟨(some 7), none, .mov (.t 0)⟩, ⟨(some 8), none, .nilck (.t 7)⟩, ⟨(some 9), none, .faddr 0 (.t 8)⟩, ⟨(some 10), none, .load false 1 (.t 9)⟩, ⟨(some 11), none, .mov (.t 1)⟩, ⟨(some 12), none, .mov (.t 2)⟩, ⟨(some 13), none, .call 89 [(.t 11), (.t 12)]⟩, ⟨(some 14), none, .bi (.append 1 1 5) [(.t 10), (.t 13)]⟩, ⟨(some 15), none, .nilck (.t 6)⟩, ⟨(some 16), none, .faddr 0 (.t 15)⟩, ⟨none, none, .store 1 (.t 16) (.t 14)⟩] [(4, [8])])⟩
def b47_0 : VCode := (.seq (.ops [⟨(some 27), none, .bin .lss (.t 26) (.t 25)⟩])
 (.seq (.cond (.t 27) .skip (.exit 0))
 (.seq (.block 1 (.seq (.ops [⟨(some 28), none, .iaddr 1 none (.t 24) (.t 26)⟩, ⟨(some 29), none, .load false 1 (.t 28)⟩, ⟨(some 5), none, .mov (.t 29)⟩])
 (.ops [⟨(some 30), none, .mov (.t 0)⟩, ⟨(some 31), none, .mov (.t 5)⟩, ⟨(some 32), none, .call 46 [(.t 30), (.t 31), (.c (.int .i64 4))]⟩])))
 (.ops [⟨(some 33), none, .bin .add (.t 26) (.c (.int .i64 1))⟩, ⟨(some 26), none, .mov (.t 33)⟩]))))
def b47_1 : VCode := (.seq (.ops [⟨(some 40), none, .bin .lss (.t 39) (.t 38)⟩])
 (.seq (.cond (.t 40) .skip (.exit 2))
 (.seq (.block 3 (.seq (.ops [⟨(some 41), none, .iaddr 1 none (.t 37) (.t 39)⟩, ⟨(some 42), none, .load false 1 (.t 41)⟩, ⟨(some 7), none, .mov (.t 42)⟩])
 (.ops [⟨(some 43), none, .mov (.t 0)⟩, ⟨(some 44), none, .mov (.t 7)⟩, ⟨(some 45), none, .call 46 [(.t 43), (.t 44), (.c (.int .i64 1))]⟩])))
 (.ops [⟨(some 46), none, .bin .add (.t 39) (.c (.int .i64 1))⟩, ⟨(some 39), none, .mov (.t 46)⟩]))))
/-- (*furlong/rec.Writer).Map -/
def v47 : VFun := ⟨2, [], (.seq (.ops [⟨(some 8), none, .mov (.t 0)⟩, ⟨(some 9), none, .mov (.t 1)⟩, ⟨(some 10), none, .nilck (.t 9)⟩, ⟨(some 11), none, .faddr 0 (.t 10)⟩, ⟨(some 12), none, .load false 1 (.t 11)⟩, ⟨(some 13), none, .call 46 [(.t 8), (.t 12), (.c (.int .i64 2))]⟩])
 (.seq (.ops [⟨(some 14), none, .mov (.t 0)⟩, ⟨(some 15), none, .mov (.t 1)⟩, ⟨(some 16), none, .nilck (.t 15)⟩, ⟨(some 17), none, .faddr 1 (.t 16)⟩, ⟨(some 18), none, .load false 1 (.t 17)⟩, ⟨(some 19), none, .bi (.len 1) [(.t 18)]⟩, ⟨(some 20), none, .call 46 [(.t 14), (.t 19), (.c (.int .i64 1))]⟩])
 (.seq (.seq (.ops [⟨(some 21), none, .mov (.t 1)⟩, ⟨(some 22), none, .nilck (.t 21)⟩, ⟨(some 23), none, .faddr 1 (.t 22)⟩, ⟨(some 24), none, .load false 1 (.t 23)⟩, ⟨(some 25), none, .bi (.len 1) [(.t 24)]⟩, ⟨(some 26), none, .mov (.c (.int .i64 0))⟩])
 (.block 0 (.loop b47_0)))
 (.seq (.ops [⟨(some 34), none, .mov (.t 1)⟩, ⟨(some 35), none, .nilck (.t 34)⟩, ⟨(some 36), none, .faddr 2 (.t 35)⟩, ⟨(some 37), none, .load false 1 (.t 36)⟩, ⟨(some 38), none, .bi (.len 1) [(.t 37)]⟩, ⟨(some 39), none, .mov (.c (.int .i64 0))⟩])
 (.block 2 (.loop b47_1))))))⟩
/-- (*furlong/rec.Writer).Name -/
def v48 : VFun := ⟨2, [], (.seq (.ops [⟨(some 3), none, .box 23 (.t 1)⟩])
 (.seq (.ops [⟨(some 4), none, .mov (.t 0)⟩, ⟨(some 5), none, .faddr 0 (.t 3)⟩, ⟨(some 6), none, .load false 1 (.t 5)⟩, ⟨(some 7), none, .call 46 [(.t 4), (.t 6), (.c (.int .i64 1))]⟩])
 (.ops [⟨(some 8), none, .mov (.t 0)⟩, ⟨(some 9), none, .faddr 1 (.t 3)⟩, ⟨(some 10), none, .load false 1 (.t 9)⟩, ⟨(some 11), none, .call 46 [(.t 8), (.t 10), (.c (.int .i64 2))]⟩])))⟩
def b49_0 : VCode := (.seq (.ops [⟨(some 19), none, .bin .lss (.t 18) (.t 17)⟩])
 (.seq (.cond (.t 19) .skip (.exit 0))
 (.seq (.block 1 (.seq (.ops [⟨(some 20), none, .mov (.t 18)⟩, ⟨(some 6), none, .mov (.t 20)⟩])
 (.seq (.ops [⟨(some 21), none, .mov (.t 2)⟩, ⟨(some 22), none, .mov (.t 6)⟩, ⟨(some 23), none, .iaddr 8 none (.t 21) (.t 22)⟩, ⟨(some 7), none, .mov (.t 23)⟩])
 (.seq (.ops [⟨(some 24), none, .mov (.t 0)⟩, ⟨(some 25), none, .mov (.t 7)⟩, ⟨(some 26), none, .nilck (.t 25)⟩, ⟨(some 27), none, .faddr 0 (.t 26)⟩, ⟨(some 28), none, .load false 1 (.t 27)⟩, ⟨(some 29), none, .call 46 [(.t 24), (.t 28), (.c (.int .i64 1))]⟩])
 (.seq (.ops [⟨(some 30), none, .mov (.t 7)⟩, ⟨(some 31), none, .nilck (.t 30)⟩, ⟨(some 32), none, .faddr 0 (.t 31)⟩, ⟨(some 33), none, .load false 1 (.t 32)⟩])
 (.block 2 (.seq (.ops [⟨(some 40), none, .bin .eql (.t 33) (.c (.int .i64 0))⟩, ⟨(some 39), none, .mov (.t 40)⟩])
 (.cond (.t 39) (.ops [⟨(some 41), none, .mov (.t 0)⟩, ⟨(some 42), none, .mov (.t 7)⟩, ⟨(some 43), none, .nilck (.t 42)⟩, ⟨(some 44), none, .faddr 1 (.t 43)⟩, ⟨(some 45), none, .call 73 [(.t 41), (.t 44)]⟩]) (.seq (.ops [⟨(some 47), none, .bin .eql (.t 33) (.c (.int .i64 1))⟩, ⟨(some 46), none, .mov (.t 47)⟩])
 (.cond (.t 46) (.ops [⟨(some 48), none, .mov (.t 0)⟩, ⟨(some 49), none, .mov (.t 7)⟩, ⟨(some 50), none, .nilck (.t 49)⟩, ⟨(some 51), none, .faddr 4 (.t 50)⟩, ⟨(some 52), none, .load false 1 (.t 51)⟩, ⟨(some 53), none, .call 46 [(.t 48), (.t 52), (.c (.int .i64 2))]⟩]) (.ops [⟨(some 34), none, .mov (.t 0)⟩, ⟨(some 35), none, .mov (.t 7)⟩, ⟨(some 36), none, .nilck (.t 35)⟩, ⟨(some 37), none, .faddr 5 (.t 36)⟩, ⟨(some 38), none, .call 47 [(.t 34), (.t 37)]⟩])))))))))))
 (.ops [⟨(some 54), none, .bin .add (.t 18) (.c (.int .i64 1))⟩, ⟨(some 18), none, .mov (.t 54)⟩]))))
/-- (*furlong/rec.Writer).Ops -/
def v49 : VFun := ⟨3, [], (.seq (.ops [⟨(some 8), none, .mov (.t 0)⟩, ⟨(some 9), none, .mov (.t 1)⟩, ⟨(some 10), none, .bin .add (.t 9) (.c (.int .i64 1))⟩, ⟨(some 11), none, .call 46 [(.t 8), (.t 10), (.c (.int .i64 4))]⟩])
 (.seq (.ops [⟨(some 12), none, .mov (.t 0)⟩, ⟨(some 13), none, .mov (.t 2)⟩, ⟨(some 14), none, .bi (.len 1) [(.t 13)]⟩, ⟨(some 15), none, .call 46 [(.t 12), (.t 14), (.c (.int .i64 1))]⟩])
 (.seq (.ops [⟨(some 16), none, .mov (.t 2)⟩, ⟨(some 17), none, .bi (.len 1) [(.t 16)]⟩, ⟨(some 18), none, .mov (.c (.int .i64 0))⟩])
 (.block 0 (.loop b49_0)))))⟩
/-- (*furlong/rec.Writer).Bool -/
def v50 : VFun := ⟨2, [], (.seq (.ops [⟨(some 4), none, .mov (.t 1)⟩])
 (.cond (.t 4) (.ops [⟨(some 5), none, .mov (.t 0)⟩, ⟨(some 6), none, .call 46 [(.t 5), (.c (.int .i64 1)), (.c (.int .i64 1))]⟩]) (.ops [⟨(some 7), none, .mov (.t 0)⟩, ⟨(some 8), none, .call 46 [(.t 7), (.c (.int .i64 0)), (.c (.int .i64 1))]⟩])))⟩
def b52_0 : VCode := (.seq (.seq (.ops [⟨(some 11), none, .mov (.t 6)⟩, ⟨(some 12), none, .bin .geq (.t 11) (.c (.int .i64 0))⟩])
 (.cond (.t 12) .skip (.exit 0)))
 (.seq (.block 1 (.seq (.ops [⟨(some 15), none, .mov (.t 5)⟩, ⟨(some 16), none, .mov (.t 6)⟩, ⟨(some 17), none, .mov (.t 0)⟩, ⟨(some 18), none, .bin .and (.t 17) (.c (.int .i64 255))⟩, ⟨(some 19), none, .conv (.int .u8) (.t 18)⟩, ⟨(some 20), none, .iaddr 1 none (.t 15) (.t 16)⟩, ⟨none, none, .store 1 (.t 20) (.t 19)⟩])
 (.ops [⟨(some 21), none, .mov (.t 0)⟩, ⟨(some 22), none, .bin .shr (.t 21) (.c (.int .u64 8))⟩, ⟨(some 0), none, .mov (.t 22)⟩])))
 (.ops [⟨(some 13), none, .mov (.t 6)⟩, ⟨(some 14), none, .bin .sub (.t 13) (.c (.int .i64 1))⟩, ⟨(some 6), none, .mov (.t 14)⟩])))
/-- furlong/furlongref8.Be -/
def v52 : VFun := ⟨2, [(.tmp 4)], (.seq (.ops [⟨(some 4), none, .mov (.c (.str []))⟩])
 (.seq (.ops [⟨(some 7), none, .mov (.t 1)⟩, ⟨(some 8), none, .mkslice [(.int .u8 0)] 5 1 (.t 7) (.t 7)⟩, ⟨(some 5), none, .mov (.t 8)⟩])
 (.seq (.seq (.ops [⟨(some 9), none, .mov (.t 1)⟩, ⟨(some 10), none, .bin .sub (.t 9) (.c (.int .i64 1))⟩, ⟨(some 6), none, .mov (.t 10)⟩])
 (.block 0 (.loop b52_0)))
 (.seq (.ops [⟨(some 23), none, .mov (.t 5)⟩, ⟨(some 24), none, .conv .text (.t 23)⟩, ⟨(some 4), none, .mov (.t 24)⟩])
 .ret))))⟩
def b53_0 : VCode := (.seq (.seq (.ops [⟨(some 14), none, .mov (.t 4)⟩, ⟨(some 15), none, .faddr 1 (.t 1)⟩, ⟨(some 16), none, .load false 1 (.t 15)⟩, ⟨(some 17), none, .bi (.len 1) [(.t 16)]⟩, ⟨(some 18), none, .bin .lss (.t 14) (.t 17)⟩])
 (.cond (.t 18) .skip (.exit 0)))
 (.seq (.block 1 (.ops [⟨(some 21), none, .mov (.t 3)⟩, ⟨(some 22), none, .faddr 1 (.t 1)⟩, ⟨(some 23), none, .load false 1 (.t 22)⟩, ⟨(some 24), none, .mov (.t 4)⟩, ⟨(some 25), none, .iaddr 1 none (.t 23) (.t 24)⟩, ⟨(some 26), none, .load false 1 (.t 25)⟩, ⟨(some 27), none, .call 52 [(.t 26), (.c (.int .i64 4))]⟩, ⟨(some 28), none, .bin .add (.t 21) (.t 27)⟩, ⟨(some 3), none, .mov (.t 28)⟩]))
 (.ops [⟨(some 19), none, .mov (.t 4)⟩, ⟨(some 20), none, .bin .add (.t 19) (.c (.int .i64 1))⟩, ⟨(some 4), none, .mov (.t 20)⟩])))
def b53_1 : VCode := (.seq (.seq (.ops [⟨(some 29), none, .mov (.t 5)⟩, ⟨(some 30), none, .faddr 2 (.t 1)⟩, ⟨(some 31), none, .load false 1 (.t 30)⟩, ⟨(some 32), none, .bi (.len 1) [(.t 31)]⟩, ⟨(some 33), none, .bin .lss (.t 29) (.t 32)⟩])
 (.cond (.t 33) .skip (.exit 2)))
 (.seq (.block 3 (.ops [⟨(some 36), none, .mov (.t 3)⟩, ⟨(some 37), none, .faddr 2 (.t 1)⟩, ⟨(some 38), none, .load false 1 (.t 37)⟩, ⟨(some 39), none, .mov (.t 5)⟩, ⟨(some 40), none, .iaddr 1 none (.t 38) (.t 39)⟩, ⟨(some 41), none, .load false 1 (.t 40)⟩, ⟨(some 42), none, .call 52 [(.t 41), (.c (.int .i64 1))]⟩, ⟨(some 43), none, .bin .add (.t 36) (.t 42)⟩, ⟨(some 3), none, .mov (.t 43)⟩]))
 (.ops [⟨(some 34), none, .mov (.t 5)⟩, ⟨(some 35), none, .bin .add (.t 34) (.c (.int .i64 1))⟩, ⟨(some 5), none, .mov (.t 35)⟩])))
/-- furlong/furlongref8.putMap -/
def v53 : VFun := ⟨1, [(.tmp 2)], (.seq (.ops [⟨(some 1), none, .box 26 (.t 0)⟩, ⟨(some 2), none, .mov (.c (.str []))⟩])
 (.seq (.drawn [⟨(some 6), none, .faddr 0 (.t 1)⟩, ⟨(some 7), none, .load false 1 (.t 6)⟩, ⟨(some 8), none, .call 52 [(.t 7), (.c (.int .i64 2))]⟩, ⟨(some 9), none, .faddr 1 (.t 1)⟩, ⟨(some 10), none, .load false 1 (.t 9)⟩, ⟨(some 11), none, .bi (.len 1) [(.t 10)]⟩, ⟨(some 12), none, .call 52 [(.t 11), (.c (.int .i64 1))]⟩, ⟨(some 13), none, .bin .add (.t 8) (.t 12)⟩, ⟨(some 3), none, .mov (.t 13)⟩] [(4, [0]), (5, [0])])
 (.seq (.seq (.ops [⟨(some 4), none, .mov (.c (.int .i64 0))⟩])
 (.block 0 (.loop b53_0)))
 (.seq (.seq (.ops [⟨(some 5), none, .mov (.c (.int .i64 0))⟩])
 (.block 2 (.loop b53_1)))
 (.seq (.ops [⟨(some 44), none, .mov (.t 3)⟩, ⟨(some 2), none, .mov (.t 44)⟩])
 .ret)))))⟩
/-- furlong/furlongref8.PutTx -/
def v54 : VFun := ⟨1, [(.tmp 2)], (.seq (.ops [⟨(some 1), none, .box 23 (.t 0)⟩, ⟨(some 2), none, .mov (.c (.str []))⟩])
 (.seq (.drawn [⟨(some 3), none, .faddr 0 (.t 1)⟩, ⟨(some 4), none, .load false 1 (.t 3)⟩, ⟨(some 5), none, .call 52 [(.t 4), (.c (.int .i64 1))]⟩, ⟨(some 6), none, .faddr 1 (.t 1)⟩, ⟨(some 7), none, .load false 1 (.t 6)⟩, ⟨(some 8), none, .call 52 [(.t 7), (.c (.int .i64 2))]⟩, ⟨(some 9), none, .bin .add (.t 5) (.t 8)⟩, ⟨(some 2), none, .mov (.t 9)⟩] [(4, [0])])
 .ret))⟩
def b55_0 : VCode := (.seq (.seq (.ops [⟨(some 8), none, .mov (.t 4)⟩, ⟨(some 9), none, .mov (.t 0)⟩, ⟨(some 10), none, .bi (.len 1) [(.t 9)]⟩, ⟨(some 11), none, .bin .lss (.t 8) (.t 10)⟩])
 (.cond (.t 11) .skip (.exit 0)))
 (.seq (.block 1 (.seq (.ops [⟨(some 14), none, .mov (.t 3)⟩, ⟨(some 15), none, .mov (.t 0)⟩, ⟨(some 16), none, .mov (.t 4)⟩, ⟨(some 17), none, .iaddr 8 none (.t 15) (.t 16)⟩, ⟨(some 18), none, .faddr 0 (.t 17)⟩, ⟨(some 19), none, .load false 1 (.t 18)⟩, ⟨(some 20), none, .call 52 [(.t 19), (.c (.int .i64 1))]⟩, ⟨(some 21), none, .bin .add (.t 14) (.t 20)⟩, ⟨(some 3), none, .mov (.t 21)⟩])
 (.seq (.ops [⟨(some 22), none, .mov (.t 0)⟩, ⟨(some 23), none, .mov (.t 4)⟩, ⟨(some 24), none, .iaddr 8 none (.t 22) (.t 23)⟩, ⟨(some 25), none, .faddr 0 (.t 24)⟩, ⟨(some 26), none, .load false 1 (.t 25)⟩])
 (.block 2 (.seq (.ops [⟨(some 36), none, .bin .eql (.t 26) (.c (.int .i64 0))⟩, ⟨(some 35), none, .mov (.t 36)⟩])
 (.cond (.t 35) (.ops [⟨(some 37), none, .mov (.t 3)⟩, ⟨(some 38), none, .mov (.t 0)⟩, ⟨(some 39), none, .mov (.t 4)⟩, ⟨(some 40), none, .iaddr 8 none (.t 38) (.t 39)⟩, ⟨(some 41), none, .faddr 1 (.t 40)⟩, ⟨(some 42), none, .load true 3 (.t 41)⟩, ⟨(some 43), none, .call 76 [(.t 42)]⟩, ⟨(some 44), none, .bin .add (.t 37) (.t 43)⟩, ⟨(some 3), none, .mov (.t 44)⟩]) (.seq (.ops [⟨(some 46), none, .bin .eql (.t 26) (.c (.int .i64 1))⟩, ⟨(some 45), none, .mov (.t 46)⟩])
 (.cond (.t 45) (.ops [⟨(some 47), none, .mov (.t 3)⟩, ⟨(some 48), none, .mov (.t 0)⟩, ⟨(some 49), none, .mov (.t 4)⟩, ⟨(some 50), none, .iaddr 8 none (.t 48) (.t 49)⟩, ⟨(some 51), none, .faddr 4 (.t 50)⟩, ⟨(some 52), none, .load false 1 (.t 51)⟩, ⟨(some 53), none, .call 52 [(.t 52), (.c (.int .i64 2))]⟩, ⟨(some 54), none, .bin .add (.t 47) (.t 53)⟩, ⟨(some 3), none, .mov (.t 54)⟩]) (.ops [⟨(some 27), none, .mov (.t 3)⟩, ⟨(some 28), none, .mov (.t 0)⟩, ⟨(some 29), none, .mov (.t 4)⟩, ⟨(some 30), none, .iaddr 8 none (.t 28) (.t 29)⟩, ⟨(some 31), none, .faddr 5 (.t 30)⟩, ⟨(some 32), none, .load true 3 (.t 31)⟩, ⟨(some 33), none, .call 53 [(.t 32)]⟩, ⟨(some 34), none, .bin .add (.t 27) (.t 33)⟩, ⟨(some 3), none, .mov (.t 34)⟩])))))))))
 (.ops [⟨(some 12), none, .mov (.t 4)⟩, ⟨(some 13), none, .bin .add (.t 12) (.c (.int .i64 1))⟩, ⟨(some 4), none, .mov (.t 13)⟩])))
/-- furlong/furlongref8.PutOps -/
def v55 : VFun := ⟨1, [(.tmp 2)], (.seq (.ops [⟨(some 2), none, .mov (.c (.str []))⟩])
 (.seq (.ops [⟨(some 5), none, .mov (.t 0)⟩, ⟨(some 6), none, .bi (.len 1) [(.t 5)]⟩, ⟨(some 7), none, .call 52 [(.t 6), (.c (.int .i64 1))]⟩, ⟨(some 3), none, .mov (.t 7)⟩])
 (.seq (.seq (.ops [⟨(some 4), none, .mov (.c (.int .i64 0))⟩])
 (.block 0 (.loop b55_0)))
 (.seq (.ops [⟨(some 55), none, .mov (.t 3)⟩, ⟨(some 2), none, .mov (.t 55)⟩])
 .ret))))⟩
/-- furlong/furlongref8.Bit -/
def v56 : VFun := ⟨1, [(.tmp 2)], (.seq (.ops [⟨(some 2), none, .mov (.c (.str []))⟩])
 (.seq (.seq (.ops [⟨(some 3), none, .mov (.t 0)⟩])
 (.cond (.t 3) (.seq (.ops [⟨(some 2), none, .mov (.c (.str [1]))⟩])
 .ret) .skip))
 (.seq (.ops [⟨(some 2), none, .mov (.c (.str [0]))⟩])
 .ret)))⟩
def b57_0 : VCode := (.seq (.ops [⟨(some 19), none, .bin .lss (.t 18) (.t 17)⟩])
 (.seq (.cond (.t 19) .skip (.exit 0))
 (.seq (.block 1 (.seq (.ops [⟨(some 20), none, .mov (.t 18)⟩, ⟨(some 6), none, .mov (.t 20)⟩])
 (.ops [⟨(some 21), none, .mov (.t 5)⟩, ⟨(some 22), none, .bin .shl (.t 21) (.c (.int .u64 8))⟩, ⟨(some 23), none, .mov (.t 0)⟩, ⟨(some 24), none, .nilck (.t 23)⟩, ⟨(some 25), none, .faddr 0 (.t 24)⟩, ⟨(some 26), none, .load false 1 (.t 25)⟩, ⟨(some 27), none, .mov (.t 6)⟩, ⟨(some 28), none, .indexS (.t 26) (.t 27)⟩, ⟨(some 29), none, .conv (.int .i64) (.t 28)⟩, ⟨(some 30), none, .bin .or (.t 22) (.t 29)⟩, ⟨(some 5), none, .mov (.t 30)⟩])))
 (.ops [⟨(some 31), none, .bin .add (.t 18) (.c (.int .i64 1))⟩, ⟨(some 18), none, .mov (.t 31)⟩]))))
/-- (*furlong/rec.Reader).Num -/
def v57 : VFun := ⟨2, [(.tmp 4)], (.seq (.ops [⟨(some 4), none, .mov (.c (.int .i64 0))⟩])
 (.seq (.seq (.ops [⟨(some 7), none, .mov (.t 0)⟩, ⟨(some 8), none, .nilck (.t 7)⟩, ⟨(some 9), none, .faddr 0 (.t 8)⟩, ⟨(some 10), none, .load false 1 (.t 9)⟩, ⟨(some 11), none, .bi (.len 0) [(.t 10)]⟩, ⟨(some 12), none, .mov (.t 1)⟩, ⟨(some 13), none, .bin .lss (.t 11) (.t 12)⟩])
 (.cond (.t 13) (.seq (.ops [⟨(some 14), none, .mov (.t 0)⟩, ⟨(some 15), none, .nilck (.t 14)⟩, ⟨(some 16), none, .faddr 0 (.t 15)⟩, ⟨none, none, .store 1 (.t 16) (.c (.str []))⟩])
 (.seq (.ops [⟨(some 4), none, .mov (.c (.int .i64 0))⟩])
 .ret)) .skip))
 (.seq (.ops [⟨(some 5), none, .mov (.c (.int .i64 0))⟩])
 (.seq (.seq (.ops [⟨(some 17), none, .mov (.t 1)⟩, ⟨(some 18), none, .mov (.c (.int .i64 0))⟩])
 (.block 0 (.loop b57_0)))
 (.seq (.ops [⟨(some 32), none, .mov (.t 0)⟩, ⟨(some 33), none, .mov (.t 0)⟩, ⟨(some 34), none, .nilck (.t 33)⟩, ⟨(some 35), none, .faddr 0 (.t 34)⟩, ⟨(some 36), none, .load false 1 (.t 35)⟩, ⟨(some 37), none, .mov (.t 1)⟩, ⟨(some 38), none, .sliceS (.t 36) (some (.t 37)) none⟩, ⟨(some 39), none, .nilck (.t 32)⟩, ⟨(some 40), none, .faddr 0 (.t 39)⟩, ⟨none, none, .store 1 (.t 40) (.t 38)⟩])
 (.seq (.ops [⟨(some 41), none, .mov (.t 5)⟩, ⟨(some 4), none, .mov (.t 41)⟩])
 .ret))))))⟩
def b58_0 : VCode := (.seq (.ops [⟨(some 12), none, .bin .lss (.t 11) (.t 10)⟩])
 (.seq (.cond (.t 12) .skip (.exit 0))
 (.seq (.block 1 (.drawn [⟨(some 13), none, .faddr 1 (.t 3)⟩, ⟨(some 14), none, .load false 1 (.t 13)⟩, ⟨(some 15), none, .mov (.t 0)⟩, ⟨(some 16), none, .call 57 [(.t 15), (.c (.int .i64 4))]⟩, ⟨(some 17), none, .bslice [(.int .i64 0)] 3 1 [(0, 1, (.t 16))]⟩, ⟨(some 18), none, .bi (.append 1 8 3) [(.t 14), (.t 17)]⟩, ⟨(some 19), none, .faddr 1 (.t 3)⟩, ⟨none, none, .store 1 (.t 19) (.t 18)⟩] [(1, [4, 5])]))
 (.ops [⟨(some 20), none, .bin .add (.t 11) (.c (.int .i64 1))⟩, ⟨(some 11), none, .mov (.t 20)⟩]))))
def b58_1 : VCode := (.seq (.ops [⟨(some 23), none, .bin .lss (.t 22) (.t 21)⟩])
 (.seq (.cond (.t 23) .skip (.exit 2))
 (.seq (.block 3 (.drawn [⟨(some 24), none, .faddr 2 (.t 3)⟩, ⟨(some 25), none, .load false 1 (.t 24)⟩, ⟨(some 26), none, .mov (.t 0)⟩, ⟨(some 27), none, .call 57 [(.t 26), (.c (.int .i64 1))]⟩, ⟨(some 28), none, .bslice [(.int .i64 0)] 3 1 [(0, 1, (.t 27))]⟩, ⟨(some 29), none, .bi (.append 1 8 3) [(.t 25), (.t 28)]⟩, ⟨(some 30), none, .faddr 2 (.t 3)⟩, ⟨none, none, .store 1 (.t 30) (.t 29)⟩] [(1, [4, 5])]))
 (.ops [⟨(some 31), none, .bin .add (.t 22) (.c (.int .i64 1))⟩, ⟨(some 22), none, .mov (.t 31)⟩]))))
/-- (*furlong/rec.Reader).Map -/
def v58 : VFun := ⟨1, [(.cell 2 true 3)], (.seq (.ops [⟨(some 2), none, .alloc [(.int .i64 0), .nils, .nils] 26⟩])
 (.seq (.ops [⟨(some 5), none, .mov (.t 0)⟩, ⟨(some 6), none, .call 57 [(.t 5), (.c (.int .i64 2))]⟩, ⟨(some 7), none, .build [(.int .i64 0), .nils, .nils] [(0, 1, (.t 6))]⟩, ⟨(some 3), none, .alloc [(.int .i64 0), .nils, .nils] 26⟩, ⟨none, none, .store 3 (.t 3) (.t 7)⟩])
 (.seq (.ops [⟨(some 8), none, .mov (.t 0)⟩, ⟨(some 9), none, .call 57 [(.t 8), (.c (.int .i64 1))]⟩, ⟨(some 4), none, .mov (.t 9)⟩])
 (.seq (.seq (.ops [⟨(some 10), none, .mov (.t 4)⟩, ⟨(some 11), none, .mov (.c (.int .i64 0))⟩])
 (.block 0 (.loop b58_0)))
 (.seq (.seq (.ops [⟨(some 21), none, .mov (.t 4)⟩, ⟨(some 22), none, .mov (.c (.int .i64 0))⟩])
 (.block 2 (.loop b58_1)))
 (.seq (.ops [⟨(some 32), none, .load true 3 (.t 3)⟩, ⟨none, none, .store 3 (.t 2) (.t 32)⟩])
 .ret))))))⟩
/-- (*furlong/rec.Reader).Name -/
def v59 : VFun := ⟨1, [(.cell 2 true 2)], (.seq (.ops [⟨(some 2), none, .alloc [(.int .i64 0), (.int .i64 0)] 23⟩])
 (.seq (.ops [⟨(some 4), none, .mov (.t 0)⟩, ⟨(some 5), none, .call 57 [(.t 4), (.c (.int .i64 1))]⟩, ⟨(some 3), none, .mov (.t 5)⟩])
 (.seq (.ops [⟨(some 6), none, .mov (.t 3)⟩, ⟨(some 7), none, .mov (.t 0)⟩, ⟨(some 8), none, .call 57 [(.t 7), (.c (.int .i64 2))]⟩, ⟨(some 9), none, .build [(.int .i64 0), (.int .i64 0)] [(0, 1, (.t 6)), (1, 1, (.t 8))]⟩, ⟨none, none, .store 2 (.t 2) (.t 9)⟩])
 .ret)))⟩
def b60_0 : VCode := (.seq (.ops [⟨(some 13), none, .bin .lss (.t 12) (.t 11)⟩])
 (.seq (.cond (.t 13) .skip (.exit 0))
 (.seq (.block 1 (.seq (.ops [⟨(some 14), none, .mov (.t 0)⟩, ⟨(some 15), none, .call 57 [(.t 14), (.c (.int .i64 1))]⟩, ⟨(some 16), none, .build [(.int .i64 0), (.int .i64 0), (.int .i64 0), .nils, (.int .i64 0), (.int .i64 0), .nils, .nils] [(0, 1, (.t 15))]⟩, ⟨(some 6), none, .alloc [(.int .i64 0), (.int .i64 0), (.int .i64 0), .nils, (.int .i64 0), (.int .i64 0), .nils, .nils] 54⟩, ⟨none, none, .store 8 (.t 6) (.t 16)⟩])
 (.seq (.seq (.ops [⟨(some 17), none, .faddr 0 (.t 6)⟩, ⟨(some 18), none, .load false 1 (.t 17)⟩])
 (.block 2 (.seq (.ops [⟨(some 20), none, .bin .eql (.t 18) (.c (.int .i64 0))⟩, ⟨(some 19), none, .mov (.t 20)⟩])
 (.cond (.t 19) (.ops [⟨(some 21), none, .mov (.t 0)⟩, ⟨(some 22), none, .call 95 [(.t 21)]⟩, ⟨(some 23), none, .faddr 1 (.t 6)⟩, ⟨none, none, .store 3 (.t 23) (.t 22)⟩]) (.seq (.ops [⟨(some 25), none, .bin .eql (.t 18) (.c (.int .i64 1))⟩, ⟨(some 24), none, .mov (.t 25)⟩])
 (.cond (.t 24) (.ops [⟨(some 26), none, .mov (.t 0)⟩, ⟨(some 27), none, .call 57 [(.t 26), (.c (.int .i64 2))]⟩, ⟨(some 28), none, .faddr 4 (.t 6)⟩, ⟨none, none, .store 1 (.t 28) (.t 27)⟩]) (.seq (.ops [⟨(some 30), none, .bin .eql (.t 18) (.c (.int .i64 2))⟩, ⟨(some 29), none, .mov (.t 30)⟩])
 (.cond (.t 29) (.ops [⟨(some 31), none, .mov (.t 0)⟩, ⟨(some 32), none, .call 58 [(.t 31)]⟩, ⟨(some 33), none, .faddr 5 (.t 6)⟩, ⟨none, none, .store 3 (.t 33) (.t 32)⟩]) .skip))))))))
 (.ops [⟨(some 34), none, .mov (.t 5)⟩, ⟨(some 35), none, .load true 8 (.t 6)⟩, ⟨(some 36), none, .bslice [(.int .i64 0), (.int .i64 0), (.int .i64 0), .nils, (.int .i64 0), (.int .i64 0), .nils, .nils] 54 1 [(0, 8, (.t 35))]⟩, ⟨(some 37), none, .bi (.append 8 112 54) [(.t 34), (.t 36)]⟩, ⟨(some 5), none, .mov (.t 37)⟩]))))
 (.ops [⟨(some 38), none, .bin .add (.t 12) (.c (.int .i64 1))⟩, ⟨(some 12), none, .mov (.t 38)⟩]))))
/-- (*furlong/rec.Reader).Ops -/
def v60 : VFun := ⟨1, [(.tmp 2), (.tmp 3)], (.seq (.ops [⟨(some 2), none, .mov (.c (.int .i64 0))⟩, ⟨(some 3), none, .mov (.c .nils)⟩])
 (.seq (.ops [⟨(some 7), none, .mov (.t 0)⟩, ⟨(some 8), none, .call 57 [(.t 7), (.c (.int .i64 4))]⟩, ⟨(some 9), none, .bin .sub (.t 8) (.c (.int .i64 1))⟩, ⟨(some 4), none, .mov (.t 9)⟩])
 (.seq (.ops [⟨(some 5), none, .mov (.c .nils)⟩])
 (.seq (.seq (.ops [⟨(some 10), none, .mov (.t 0)⟩, ⟨(some 11), none, .call 57 [(.t 10), (.c (.int .i64 1))]⟩, ⟨(some 12), none, .mov (.c (.int .i64 0))⟩])
 (.block 0 (.loop b60_0)))
 (.seq (.ops [⟨(some 39), none, .mov (.t 4)⟩, ⟨(some 40), none, .mov (.t 5)⟩, ⟨(some 2), none, .mov (.t 39)⟩, ⟨(some 3), none, .mov (.t 40)⟩])
 .ret)))))⟩
/-- (*furlong/rec.Reader).Bool -/
def v61 : VFun := ⟨1, [(.tmp 2)], (.seq (.ops [⟨(some 2), none, .mov (.c (.bool false))⟩])
 (.seq (.ops [⟨(some 3), none, .mov (.t 0)⟩, ⟨(some 4), none, .call 57 [(.t 3), (.c (.int .i64 1))]⟩, ⟨(some 5), none, .bin .eql (.t 4) (.c (.int .i64 1))⟩, ⟨(some 2), none, .mov (.t 5)⟩])
 .ret))⟩
def b62_0 : VCode := (.seq (.seq (.ops [⟨(some 28), none, .mov (.t 6)⟩, ⟨(some 29), none, .mov (.t 1)⟩, ⟨(some 30), none, .bin .lss (.t 28) (.t 29)⟩])
 (.cond (.t 30) .skip (.exit 0)))
 (.seq (.block 1 (.drawn [⟨(some 33), none, .mov (.t 5)⟩, ⟨(some 34), none, .bin .shl (.t 33) (.c (.int .u64 8))⟩, ⟨(some 35), none, .mov (.t 0)⟩, ⟨(some 36), none, .nilck (.t 35)⟩, ⟨(some 37), none, .faddr 0 (.t 36)⟩, ⟨(some 38), none, .load false 1 (.t 37)⟩, ⟨(some 39), none, .mov (.t 0)⟩, ⟨(some 40), none, .nilck (.t 39)⟩, ⟨(some 41), none, .faddr 1 (.t 40)⟩, ⟨(some 42), none, .load false 1 (.t 41)⟩, ⟨(some 43), none, .mov (.t 6)⟩, ⟨(some 44), none, .bin .add (.t 42) (.t 43)⟩, ⟨(some 45), none, .indexS (.t 38) (.t 44)⟩, ⟨(some 46), none, .conv (.int .i64) (.t 45)⟩, ⟨(some 47), none, .bin .or (.t 34) (.t 46)⟩, ⟨(some 5), none, .mov (.t 47)⟩] []))
 (.ops [⟨(some 31), none, .mov (.t 6)⟩, ⟨(some 32), none, .bin .add (.t 31) (.c (.int .i64 1))⟩, ⟨(some 6), none, .mov (.t 32)⟩])))
/-- (*furlong/furlongref8.Reader).Num -/
def v62 : VFun := ⟨2, [(.tmp 4)], (.seq (.ops [⟨(some 4), none, .mov (.c (.int .i64 0))⟩])
 (.seq (.seq (.drawn [⟨(some 7), none, .mov (.t 0)⟩, ⟨(some 8), none, .nilck (.t 7)⟩, ⟨(some 9), none, .faddr 2 (.t 8)⟩, ⟨(some 10), none, .load false 1 (.t 9)⟩, ⟨(some 11), none, .mov (.t 10)⟩, ⟨(some 12), (some (11, false)), .mov (.t 1)⟩, ⟨(some 13), (some (11, false)), .mov (.t 0)⟩, ⟨(some 14), (some (11, false)), .nilck (.t 13)⟩, ⟨(some 15), (some (11, false)), .faddr 0 (.t 14)⟩, ⟨(some 16), (some (11, false)), .load false 1 (.t 15)⟩, ⟨(some 17), (some (11, false)), .bi (.len 0) [(.t 16)]⟩, ⟨(some 18), (some (11, false)), .mov (.t 0)⟩, ⟨(some 19), (some (11, false)), .nilck (.t 18)⟩, ⟨(some 20), (some (11, false)), .faddr 1 (.t 19)⟩, ⟨(some 21), (some (11, false)), .load false 1 (.t 20)⟩, ⟨(some 22), (some (11, false)), .bin .sub (.t 17) (.t 21)⟩, ⟨(some 23), (some (11, false)), .bin .gtr (.t 12) (.t 22)⟩, ⟨(some 24), none, .pick (.t 11) (.c (.bool true)) (.t 23)⟩] [])
 (.cond (.t 24) (.seq (.ops [⟨(some 25), none, .mov (.t 0)⟩, ⟨(some 26), none, .nilck (.t 25)⟩, ⟨(some 27), none, .faddr 2 (.t 26)⟩, ⟨none, none, .store 1 (.t 27) (.c (.bool true))⟩])
 (.seq (.ops [⟨(some 4), none, .mov (.c (.int .i64 0))⟩])
 .ret)) .skip))
 (.seq (.ops [⟨(some 5), none, .mov (.c (.int .i64 0))⟩])
 (.seq (.seq (.ops [⟨(some 6), none, .mov (.c (.int .i64 0))⟩])
 (.block 0 (.loop b62_0)))
 (.seq (.ops [⟨(some 48), none, .mov (.t 0)⟩, ⟨(some 49), none, .mov (.t 0)⟩, ⟨(some 50), none, .nilck (.t 49)⟩, ⟨(some 51), none, .faddr 1 (.t 50)⟩, ⟨(some 52), none, .load false 1 (.t 51)⟩, ⟨(some 53), none, .mov (.t 1)⟩, ⟨(some 54), none, .bin .add (.t 52) (.t 53)⟩, ⟨(some 55), none, .nilck (.t 48)⟩, ⟨(some 56), none, .faddr 1 (.t 55)⟩, ⟨none, none, .store 1 (.t 56) (.t 54)⟩])
 (.seq (.ops [⟨(some 57), none, .mov (.t 5)⟩, ⟨(some 4), none, .mov (.t 57)⟩])
 .ret))))))⟩
def b63_0 : VCode := (.seq (.seq (.ops [⟨(some 12), none, .mov (.t 5)⟩, ⟨(some 13), none, .mov (.t 4)⟩, ⟨(some 14), none, .bin .lss (.t 12) (.t 13)⟩, ⟨(some 15), none, .mov (.t 14)⟩, ⟨(some 16), (some (15, true)), .mov (.t 0)⟩, ⟨(some 17), (some (15, true)), .nilck (.t 16)⟩, ⟨(some 18), (some (15, true)), .faddr 2 (.t 17)⟩, ⟨(some 19), (some (15, true)), .load false 1 (.t 18)⟩, ⟨(some 20), (some (15, true)), .un .not (.t 19)⟩, ⟨(some 21), none, .pick (.t 15) (.t 20) (.c (.bool false))⟩])
 (.cond (.t 21) .skip (.exit 0)))
 (.seq (.block 1 (.drawn [⟨(some 24), none, .faddr 1 (.t 3)⟩, ⟨(some 25), none, .load false 1 (.t 24)⟩, ⟨(some 26), none, .mov (.t 0)⟩, ⟨(some 27), none, .call 62 [(.t 26), (.c (.int .i64 4))]⟩, ⟨(some 28), none, .bslice [(.int .i64 0)] 3 1 [(0, 1, (.t 27))]⟩, ⟨(some 29), none, .bi (.append 1 8 3) [(.t 25), (.t 28)]⟩, ⟨(some 30), none, .faddr 1 (.t 3)⟩, ⟨none, none, .store 1 (.t 30) (.t 29)⟩] [(1, [4, 5])]))
 (.ops [⟨(some 22), none, .mov (.t 5)⟩, ⟨(some 23), none, .bin .add (.t 22) (.c (.int .i64 1))⟩, ⟨(some 5), none, .mov (.t 23)⟩])))
def b63_1 : VCode := (.seq (.seq (.ops [⟨(some 31), none, .mov (.t 6)⟩, ⟨(some 32), none, .mov (.t 4)⟩, ⟨(some 33), none, .bin .lss (.t 31) (.t 32)⟩, ⟨(some 34), none, .mov (.t 33)⟩, ⟨(some 35), (some (34, true)), .mov (.t 0)⟩, ⟨(some 36), (some (34, true)), .nilck (.t 35)⟩, ⟨(some 37), (some (34, true)), .faddr 2 (.t 36)⟩, ⟨(some 38), (some (34, true)), .load false 1 (.t 37)⟩, ⟨(some 39), (some (34, true)), .un .not (.t 38)⟩, ⟨(some 40), none, .pick (.t 34) (.t 39) (.c (.bool false))⟩])
 (.cond (.t 40) .skip (.exit 2)))
 (.seq (.block 3 (.drawn [⟨(some 43), none, .faddr 2 (.t 3)⟩, ⟨(some 44), none, .load false 1 (.t 43)⟩, ⟨(some 45), none, .mov (.t 0)⟩, ⟨(some 46), none, .call 62 [(.t 45), (.c (.int .i64 1))]⟩, ⟨(some 47), none, .bslice [(.int .i64 0)] 3 1 [(0, 1, (.t 46))]⟩, ⟨(some 48), none, .bi (.append 1 8 3) [(.t 44), (.t 47)]⟩, ⟨(some 49), none, .faddr 2 (.t 3)⟩, ⟨none, none, .store 1 (.t 49) (.t 48)⟩] [(1, [4, 5])]))
 (.ops [⟨(some 41), none, .mov (.t 6)⟩, ⟨(some 42), none, .bin .add (.t 41) (.c (.int .i64 1))⟩, ⟨(some 6), none, .mov (.t 42)⟩])))
/-- (*furlong/furlongref8.Reader).Map -/
def v63 : VFun := ⟨1, [(.cell 2 true 3)], (.seq (.ops [⟨(some 2), none, .alloc [(.int .i64 0), .nils, .nils] 26⟩])
 (.seq (.ops [⟨(some 3), none, .alloc [(.int .i64 0), .nils, .nils] 26⟩])
 (.seq (.ops [⟨(some 7), none, .mov (.t 0)⟩, ⟨(some 8), none, .call 62 [(.t 7), (.c (.int .i64 2))]⟩, ⟨(some 9), none, .faddr 0 (.t 3)⟩, ⟨none, none, .store 1 (.t 9) (.t 8)⟩])
 (.seq (.ops [⟨(some 10), none, .mov (.t 0)⟩, ⟨(some 11), none, .call 62 [(.t 10), (.c (.int .i64 1))]⟩, ⟨(some 4), none, .mov (.t 11)⟩])
 (.seq (.seq (.ops [⟨(some 5), none, .mov (.c (.int .i64 0))⟩])
 (.block 0 (.loop b63_0)))
 (.seq (.seq (.ops [⟨(some 6), none, .mov (.c (.int .i64 0))⟩])
 (.block 2 (.loop b63_1)))
 (.seq (.ops [⟨(some 50), none, .load true 3 (.t 3)⟩, ⟨none, none, .store 3 (.t 2) (.t 50)⟩])
 .ret)))))))⟩
/-- (*furlong/furlongref8.Reader).Tx -/
def v64 : VFun := ⟨1, [(.cell 2 true 2)], (.seq (.ops [⟨(some 2), none, .alloc [(.int .i64 0), (.int .i64 0)] 23⟩])
 (.seq (.ops [⟨(some 5), none, .mov (.t 0)⟩, ⟨(some 6), none, .call 62 [(.t 5), (.c (.int .i64 1))]⟩, ⟨(some 3), none, .mov (.t 6)⟩])
 (.seq (.ops [⟨(some 7), none, .mov (.t 0)⟩, ⟨(some 8), none, .call 62 [(.t 7), (.c (.int .i64 2))]⟩, ⟨(some 4), none, .mov (.t 8)⟩])
 (.seq (.ops [⟨(some 9), none, .mov (.t 3)⟩, ⟨(some 10), none, .mov (.t 4)⟩, ⟨(some 11), none, .build [(.int .i64 0), (.int .i64 0)] [(0, 1, (.t 9)), (1, 1, (.t 10))]⟩, ⟨none, none, .store 2 (.t 2) (.t 11)⟩])
 .ret))))⟩
def b65_0 : VCode := (.seq (.seq (.ops [⟨(some 9), none, .mov (.t 5)⟩, ⟨(some 10), none, .mov (.t 3)⟩, ⟨(some 11), none, .bin .lss (.t 9) (.t 10)⟩, ⟨(some 12), none, .mov (.t 11)⟩, ⟨(some 13), (some (12, true)), .mov (.t 0)⟩, ⟨(some 14), (some (12, true)), .nilck (.t 13)⟩, ⟨(some 15), (some (12, true)), .faddr 2 (.t 14)⟩, ⟨(some 16), (some (12, true)), .load false 1 (.t 15)⟩, ⟨(some 17), (some (12, true)), .un .not (.t 16)⟩, ⟨(some 18), none, .pick (.t 12) (.t 17) (.c (.bool false))⟩])
 (.cond (.t 18) .skip (.exit 0)))
 (.seq (.block 1 (.seq (.ops [⟨(some 21), none, .mov (.t 0)⟩, ⟨(some 22), none, .call 62 [(.t 21), (.c (.int .i64 1))]⟩, ⟨(some 23), none, .build [(.int .i64 0), (.int .i64 0), (.int .i64 0), .nils, (.int .i64 0), (.int .i64 0), .nils, .nils] [(0, 1, (.t 22))]⟩, ⟨(some 6), none, .alloc [(.int .i64 0), (.int .i64 0), (.int .i64 0), .nils, (.int .i64 0), (.int .i64 0), .nils, .nils] 54⟩, ⟨none, none, .store 8 (.t 6) (.t 23)⟩])
 (.seq (.seq (.ops [⟨(some 24), none, .faddr 0 (.t 6)⟩, ⟨(some 25), none, .load false 1 (.t 24)⟩])
 (.block 2 (.seq (.ops [⟨(some 30), none, .bin .eql (.t 25) (.c (.int .i64 0))⟩, ⟨(some 29), none, .mov (.t 30)⟩])
 (.cond (.t 29) (.ops [⟨(some 31), none, .mov (.t 0)⟩, ⟨(some 32), none, .call 80 [(.t 31)]⟩, ⟨(some 33), none, .faddr 1 (.t 6)⟩, ⟨none, none, .store 3 (.t 33) (.t 32)⟩]) (.seq (.ops [⟨(some 35), none, .bin .eql (.t 25) (.c (.int .i64 1))⟩, ⟨(some 34), none, .mov (.t 35)⟩])
 (.cond (.t 34) (.ops [⟨(some 36), none, .mov (.t 0)⟩, ⟨(some 37), none, .call 62 [(.t 36), (.c (.int .i64 2))]⟩, ⟨(some 38), none, .faddr 4 (.t 6)⟩, ⟨none, none, .store 1 (.t 38) (.t 37)⟩]) (.seq (.ops [⟨(some 40), none, .bin .eql (.t 25) (.c (.int .i64 2))⟩, ⟨(some 39), none, .mov (.t 40)⟩])
 (.cond (.t 39) (.ops [⟨(some 41), none, .mov (.t 0)⟩, ⟨(some 42), none, .call 63 [(.t 41)]⟩, ⟨(some 43), none, .faddr 5 (.t 6)⟩, ⟨none, none, .store 3 (.t 43) (.t 42)⟩]) (.ops [⟨(some 26), none, .mov (.t 0)⟩, ⟨(some 27), none, .nilck (.t 26)⟩, ⟨(some 28), none, .faddr 2 (.t 27)⟩, ⟨none, none, .store 1 (.t 28) (.c (.bool true))⟩])))))))))
 (.ops [⟨(some 44), none, .mov (.t 4)⟩, ⟨(some 45), none, .load true 8 (.t 6)⟩, ⟨(some 46), none, .bslice [(.int .i64 0), (.int .i64 0), (.int .i64 0), .nils, (.int .i64 0), (.int .i64 0), .nils, .nils] 54 1 [(0, 8, (.t 45))]⟩, ⟨(some 47), none, .bi (.append 8 112 54) [(.t 44), (.t 46)]⟩, ⟨(some 4), none, .mov (.t 47)⟩]))))
 (.ops [⟨(some 19), none, .mov (.t 5)⟩, ⟨(some 20), none, .bin .add (.t 19) (.c (.int .i64 1))⟩, ⟨(some 5), none, .mov (.t 20)⟩])))
/-- (*furlong/furlongref8.Reader).Ops -/
def v65 : VFun := ⟨1, [(.tmp 2)], (.seq (.ops [⟨(some 2), none, .mov (.c .nils)⟩])
 (.seq (.ops [⟨(some 7), none, .mov (.t 0)⟩, ⟨(some 8), none, .call 62 [(.t 7), (.c (.int .i64 1))]⟩, ⟨(some 3), none, .mov (.t 8)⟩])
 (.seq (.ops [⟨(some 4), none, .mov (.c .nils)⟩])
 (.seq (.seq (.ops [⟨(some 5), none, .mov (.c (.int .i64 0))⟩])
 (.block 0 (.loop b65_0)))
 (.seq (.ops [⟨(some 48), none, .mov (.t 4)⟩, ⟨(some 2), none, .mov (.t 48)⟩])
 .ret)))))⟩
/-- (*furlong/furlongref8.Reader).Bool -/
def v66 : VFun := ⟨1, [(.tmp 2)], (.seq (.ops [⟨(some 2), none, .mov (.c (.bool false))⟩])
 (.seq (.ops [⟨(some 4), none, .mov (.t 0)⟩, ⟨(some 5), none, .call 62 [(.t 4), (.c (.int .i64 1))]⟩, ⟨(some 3), none, .mov (.t 5)⟩])
 (.seq (.seq (.ops [⟨(some 6), none, .mov (.t 3)⟩, ⟨(some 7), none, .bin .gtr (.t 6) (.c (.int .i64 1))⟩])
 (.cond (.t 7) (.ops [⟨(some 8), none, .mov (.t 0)⟩, ⟨(some 9), none, .nilck (.t 8)⟩, ⟨(some 10), none, .faddr 2 (.t 9)⟩, ⟨none, none, .store 1 (.t 10) (.c (.bool true))⟩]) .skip))
 (.seq (.ops [⟨(some 11), none, .mov (.t 3)⟩, ⟨(some 12), none, .bin .eql (.t 11) (.c (.int .i64 1))⟩, ⟨(some 2), none, .mov (.t 12)⟩])
 .ret))))⟩
/-- furlong/furlonglaw0.SameMap -/
def v67 : VFun := ⟨2, [(.tmp 4)], (.seq (.ops [⟨(some 2), none, .box 26 (.t 0)⟩, ⟨(some 3), none, .box 26 (.t 1)⟩, ⟨(some 4), none, .mov (.c (.bool false))⟩])
 (.seq (.ops [⟨(some 5), none, .faddr 0 (.t 2)⟩, ⟨(some 6), none, .load false 1 (.t 5)⟩, ⟨(some 7), none, .faddr 0 (.t 3)⟩, ⟨(some 8), none, .load false 1 (.t 7)⟩, ⟨(some 9), none, .bin .eql (.t 6) (.t 8)⟩, ⟨(some 10), none, .mov (.t 9)⟩, ⟨(some 11), (some (10, true)), .faddr 1 (.t 2)⟩, ⟨(some 12), (some (10, true)), .load false 1 (.t 11)⟩, ⟨(some 13), (some (10, true)), .faddr 1 (.t 3)⟩, ⟨(some 14), (some (10, true)), .load false 1 (.t 13)⟩, ⟨(some 15), (some (10, true)), .call 96 [(.t 12), (.t 14)]⟩, ⟨(some 16), none, .pick (.t 10) (.t 15) (.c (.bool false))⟩, ⟨(some 17), none, .mov (.t 16)⟩, ⟨(some 18), (some (17, true)), .faddr 2 (.t 2)⟩, ⟨(some 19), (some (17, true)), .load false 1 (.t 18)⟩, ⟨(some 20), (some (17, true)), .faddr 2 (.t 3)⟩, ⟨(some 21), (some (17, true)), .load false 1 (.t 20)⟩, ⟨(some 22), (some (17, true)), .call 96 [(.t 19), (.t 21)]⟩, ⟨(some 23), none, .pick (.t 17) (.t 22) (.c (.bool false))⟩, ⟨(some 4), none, .mov (.t 23)⟩])
 .ret))⟩
def b68_0 : VCode := (.seq (.seq (.ops [⟨(some 11), none, .mov (.t 5)⟩, ⟨(some 12), none, .mov (.t 0)⟩, ⟨(some 13), none, .bi (.len 1) [(.t 12)]⟩, ⟨(some 14), none, .bin .lss (.t 11) (.t 13)⟩])
 (.cond (.t 14) .skip (.exit 0)))
 (.seq (.block 1 (.seq (.drawn [⟨(some 17), none, .mov (.t 0)⟩, ⟨(some 18), none, .mov (.t 5)⟩, ⟨(some 19), none, .iaddr 8 none (.t 17) (.t 18)⟩, ⟨(some 20), none, .faddr 0 (.t 19)⟩, ⟨(some 21), none, .load false 1 (.t 20)⟩, ⟨(some 22), none, .mov (.t 1)⟩, ⟨(some 23), none, .mov (.t 5)⟩, ⟨(some 24), none, .iaddr 8 none (.t 22) (.t 23)⟩, ⟨(some 25), none, .faddr 0 (.t 24)⟩, ⟨(some 26), none, .load false 1 (.t 25)⟩, ⟨(some 27), none, .bin .neq (.t 21) (.t 26)⟩, ⟨(some 28), none, .mov (.t 27)⟩, ⟨(some 29), (some (28, false)), .mov (.t 0)⟩, ⟨(some 30), (some (28, false)), .mov (.t 5)⟩, ⟨(some 31), (some (28, false)), .iaddr 8 none (.t 29) (.t 30)⟩, ⟨(some 32), (some (28, false)), .faddr 4 (.t 31)⟩, ⟨(some 33), (some (28, false)), .load false 1 (.t 32)⟩, ⟨(some 34), (some (28, false)), .mov (.t 1)⟩, ⟨(some 35), (some (28, false)), .mov (.t 5)⟩, ⟨(some 36), (some (28, false)), .iaddr 8 none (.t 34) (.t 35)⟩, ⟨(some 37), (some (28, false)), .faddr 4 (.t 36)⟩, ⟨(some 38), (some (28, false)), .load false 1 (.t 37)⟩, ⟨(some 39), (some (28, false)), .bin .neq (.t 33) (.t 38)⟩, ⟨(some 40), none, .pick (.t 28) (.c (.bool true)) (.t 39)⟩, ⟨(some 41), none, .mov (.t 40)⟩, ⟨(some 42), (some (41, false)), .mov (.t 0)⟩, ⟨(some 43), (some (41, false)), .mov (.t 5)⟩, ⟨(some 44), (some (41, false)), .iaddr 8 none (.t 42) (.t 43)⟩, ⟨(some 45), (some (41, false)), .faddr 1 (.t 44)⟩, ⟨(some 46), (some (41, false)), .load true 3 (.t 45)⟩, ⟨(some 47), (some (41, false)), .mov (.t 1)⟩, ⟨(some 48), (some (41, false)), .mov (.t 5)⟩, ⟨(some 49), (some (41, false)), .iaddr 8 none (.t 47) (.t 48)⟩, ⟨(some 50), (some (41, false)), .faddr 1 (.t 49)⟩, ⟨(some 51), (some (41, false)), .load true 3 (.t 50)⟩, ⟨(some 52), (some (41, false)), .call 97 [(.t 46), (.t 51)]⟩, ⟨(some 53), (some (41, false)), .un .not (.t 52)⟩, ⟨(some 54), none, .pick (.t 41) (.c (.bool true)) (.t 53)⟩, ⟨(some 55), none, .mov (.t 54)⟩, ⟨(some 56), (some (55, false)), .mov (.t 0)⟩, ⟨(some 57), (some (55, false)), .mov (.t 5)⟩, ⟨(some 58), (some (55, false)), .iaddr 8 none (.t 56) (.t 57)⟩, ⟨(some 59), (some (55, false)), .faddr 5 (.t 58)⟩, ⟨(some 60), (some (55, false)), .load true 3 (.t 59)⟩, ⟨(some 61), (some (55, false)), .mov (.t 1)⟩, ⟨(some 62), (some (55, false)), .mov (.t 5)⟩, ⟨(some 63), (some (55, false)), .iaddr 8 none (.t 61) (.t 62)⟩, ⟨(some 64), (some (55, false)), .faddr 5 (.t 63)⟩, ⟨(some 65), (some (55, false)), .load true 3 (.t 64)⟩, ⟨(some 66), (some (55, false)), .call 67 [(.t 60), (.t 65)]⟩, ⟨(some 67), (some (55, false)), .un .not (.t 66)⟩, ⟨(some 68), none, .pick (.t 55) (.c (.bool true)) (.t 67)⟩] [])
 (.cond (.t 68) (.seq (.ops [⟨(some 4), none, .mov (.c (.bool false))⟩])
 .ret) .skip)))
 (.ops [⟨(some 15), none, .mov (.t 5)⟩, ⟨(some 16), none, .bin .add (.t 15) (.c (.int .i64 1))⟩, ⟨(some 5), none, .mov (.t 16)⟩])))
/-- furlong/furlonglaw0.SameOps -/
def v68 : VFun := ⟨2, [(.tmp 4)], (.seq (.ops [⟨(some 4), none, .mov (.c (.bool false))⟩])
 (.seq (.seq (.ops [⟨(some 6), none, .mov (.t 0)⟩, ⟨(some 7), none, .bi (.len 1) [(.t 6)]⟩, ⟨(some 8), none, .mov (.t 1)⟩, ⟨(some 9), none, .bi (.len 1) [(.t 8)]⟩, ⟨(some 10), none, .bin .neq (.t 7) (.t 9)⟩])
 (.cond (.t 10) (.seq (.ops [⟨(some 4), none, .mov (.c (.bool false))⟩])
 .ret) .skip))
 (.seq (.seq (.ops [⟨(some 5), none, .mov (.c (.int .i64 0))⟩])
 (.block 0 (.loop b68_0)))
 (.seq (.ops [⟨(some 4), none, .mov (.c (.bool true))⟩])
 .ret))))⟩
def b69_0 : VCode := (.seq (.seq (.ops [⟨(some 21), none, .mov (.t 4)⟩, ⟨(some 22), none, .mov (.t 0)⟩, ⟨(some 23), none, .mov (.t 2)⟩, ⟨(some 24), none, .iaddr 3 none (.t 22) (.t 23)⟩, ⟨(some 25), none, .faddr 2 (.t 24)⟩, ⟨(some 26), none, .load false 1 (.t 25)⟩, ⟨(some 27), none, .mov (.t 3)⟩, ⟨(some 28), none, .iaddr 1 none (.t 26) (.t 27)⟩, ⟨(some 29), none, .load false 1 (.t 28)⟩, ⟨(some 30), none, .bi (.len 1) [(.t 29)]⟩, ⟨(some 31), none, .bin .lss (.t 21) (.t 30)⟩])
 (.cond (.t 31) .skip (.exit 4)))
 (.seq (.block 5 (.drawn [⟨(some 34), none, .mov (.t 0)⟩, ⟨(some 35), none, .mov (.t 2)⟩, ⟨(some 36), none, .iaddr 3 none (.t 34) (.t 35)⟩, ⟨(some 37), none, .faddr 2 (.t 36)⟩, ⟨(some 38), none, .load false 1 (.t 37)⟩, ⟨(some 39), none, .mov (.t 3)⟩, ⟨(some 40), none, .iaddr 1 none (.t 38) (.t 39)⟩, ⟨(some 41), none, .load false 1 (.t 40)⟩, ⟨(some 42), none, .mov (.t 4)⟩, ⟨(some 43), none, .mov (.t 0)⟩, ⟨(some 44), none, .mov (.t 2)⟩, ⟨(some 45), none, .iaddr 3 none (.t 43) (.t 44)⟩, ⟨(some 46), none, .faddr 2 (.t 45)⟩, ⟨(some 47), none, .load false 1 (.t 46)⟩, ⟨(some 48), none, .mov (.t 3)⟩, ⟨(some 49), none, .iaddr 1 none (.t 47) (.t 48)⟩, ⟨(some 50), none, .load false 1 (.t 49)⟩, ⟨(some 51), none, .mov (.t 4)⟩, ⟨(some 52), none, .iaddr 2 none (.t 50) (.t 51)⟩, ⟨(some 53), none, .faddr 0 (.t 52)⟩, ⟨(some 54), none, .load false 1 (.t 53)⟩, ⟨(some 55), none, .bin .xor (.t 54) (.c (.int .i64 90))⟩, ⟨(some 56), none, .iaddr 2 none (.t 41) (.t 42)⟩, ⟨(some 57), none, .faddr 0 (.t 56)⟩, ⟨none, none, .store 1 (.t 57) (.t 55)⟩] []))
 (.ops [⟨(some 32), none, .mov (.t 4)⟩, ⟨(some 33), none, .bin .add (.t 32) (.c (.int .i64 1))⟩, ⟨(some 4), none, .mov (.t 33)⟩])))
def b69_1 : VCode := (.seq (.seq (.ops [⟨(some 11), none, .mov (.t 3)⟩, ⟨(some 12), none, .mov (.t 0)⟩, ⟨(some 13), none, .mov (.t 2)⟩, ⟨(some 14), none, .iaddr 3 none (.t 12) (.t 13)⟩, ⟨(some 15), none, .faddr 2 (.t 14)⟩, ⟨(some 16), none, .load false 1 (.t 15)⟩, ⟨(some 17), none, .bi (.len 1) [(.t 16)]⟩, ⟨(some 18), none, .bin .lss (.t 11) (.t 17)⟩])
 (.cond (.t 18) .skip (.exit 2)))
 (.seq (.block 3 (.seq (.ops [⟨(some 4), none, .mov (.c (.int .i64 0))⟩])
 (.block 4 (.loop b69_0))))
 (.ops [⟨(some 19), none, .mov (.t 3)⟩, ⟨(some 20), none, .bin .add (.t 19) (.c (.int .i64 1))⟩, ⟨(some 3), none, .mov (.t 20)⟩])))
def b69_2 : VCode := (.seq (.seq (.ops [⟨(some 5), none, .mov (.t 2)⟩, ⟨(some 6), none, .mov (.t 0)⟩, ⟨(some 7), none, .bi (.len 1) [(.t 6)]⟩, ⟨(some 8), none, .bin .lss (.t 5) (.t 7)⟩])
 (.cond (.t 8) .skip (.exit 0)))
 (.seq (.block 1 (.seq (.seq (.ops [⟨(some 3), none, .mov (.c (.int .i64 0))⟩])
 (.block 2 (.loop b69_1)))
 (.ops [⟨(some 58), none, .mov (.t 0)⟩, ⟨(some 59), none, .mov (.t 2)⟩, ⟨(some 60), none, .mov (.t 0)⟩, ⟨(some 61), none, .mov (.t 2)⟩, ⟨(some 62), none, .iaddr 3 none (.t 60) (.t 61)⟩, ⟨(some 63), none, .faddr 0 (.t 62)⟩, ⟨(some 64), none, .load false 1 (.t 63)⟩, ⟨(some 65), none, .bin .xor (.t 64) (.c (.int .i64 90))⟩, ⟨(some 66), none, .iaddr 3 none (.t 58) (.t 59)⟩, ⟨(some 67), none, .faddr 0 (.t 66)⟩, ⟨none, none, .store 1 (.t 67) (.t 65)⟩])))
 (.ops [⟨(some 9), none, .mov (.t 2)⟩, ⟨(some 10), none, .bin .add (.t 9) (.c (.int .i64 1))⟩, ⟨(some 2), none, .mov (.t 10)⟩])))
/-- furlong/furlonglaw0.SpoilFeatures -/
def v69 : VFun := ⟨1, [], (.seq (.ops [⟨(some 2), none, .mov (.c (.int .i64 0))⟩])
 (.block 0 (.loop b69_2)))⟩
def b70_0 : VCode := (.seq (.seq (.ops [⟨(some 3), none, .mov (.t 2)⟩, ⟨(some 4), none, .mov (.t 0)⟩, ⟨(some 5), none, .bi (.len 1) [(.t 4)]⟩, ⟨(some 6), none, .bin .lss (.t 3) (.t 5)⟩])
 (.cond (.t 6) .skip (.exit 0)))
 (.seq (.block 1 (.ops [⟨(some 9), none, .mov (.t 0)⟩, ⟨(some 10), none, .mov (.t 2)⟩, ⟨(some 11), none, .mov (.t 0)⟩, ⟨(some 12), none, .mov (.t 2)⟩, ⟨(some 13), none, .iaddr 1 none (.t 11) (.t 12)⟩, ⟨(some 14), none, .load false 1 (.t 13)⟩, ⟨(some 15), none, .bin .sub (.c (.int .i64 (-9))) (.t 14)⟩, ⟨(some 16), none, .iaddr 1 none (.t 9) (.t 10)⟩, ⟨none, none, .store 1 (.t 16) (.t 15)⟩]))
 (.ops [⟨(some 7), none, .mov (.t 2)⟩, ⟨(some 8), none, .bin .add (.t 7) (.c (.int .i64 1))⟩, ⟨(some 2), none, .mov (.t 8)⟩])))
/-- furlong/furlonglaw0.SpoilInts -/
def v70 : VFun := ⟨1, [], (.seq (.ops [⟨(some 2), none, .mov (.c (.int .i64 0))⟩])
 (.block 0 (.loop b70_0)))⟩
/-- furlong/msg.may -/
def v71 : VFun := ⟨1, [(.cell 2 true 5), (.tmp 3)], (.seq (.ops [⟨(some 2), none, .alloc [(.bool false), (.bool false), (.bool false), (.bool false), (.bool false)] 132⟩, ⟨(some 3), none, .mov (.c (.bool false))⟩])
 (.seq (.ops [⟨(some 8), none, .mov (.t 0)⟩, ⟨(some 9), none, .nilck (.t 8)⟩, ⟨(some 10), none, .faddr 0 (.t 9)⟩, ⟨(some 11), none, .load false 1 (.t 10)⟩, ⟨(some 12), none, .call 77 [(.t 11)]⟩, ⟨(some 7), none, .mov (.t 12)⟩, ⟨(some 13), none, .extract (.t 7) 0⟩, ⟨(some 14), none, .extract (.t 7) 1⟩, ⟨(some 4), none, .alloc [(.bool false), (.bool false), (.bool false), (.bool false), (.bool false)] 132⟩, ⟨none, none, .store 5 (.t 4) (.t 13)⟩, ⟨(some 5), none, .mov (.t 14)⟩])
 (.seq (.ops [⟨(some 15), none, .mov (.t 0)⟩, ⟨(some 16), none, .nilck (.t 15)⟩, ⟨(some 17), none, .faddr 3 (.t 16)⟩, ⟨(some 18), none, .load true 2 (.t 17)⟩, ⟨(some 19), none, .call 84 [(.t 18)]⟩, ⟨(some 6), none, .mov (.t 19)⟩])
 (.seq (.seq (.ops [⟨(some 20), none, .faddr 0 (.t 4)⟩, ⟨(some 21), none, .load false 1 (.t 20)⟩, ⟨(some 22), none, .un .not (.t 21)⟩])
 (.cond (.t 22) (.ops [⟨(some 23), none, .mov (.t 0)⟩, ⟨(some 24), none, .nilck (.t 23)⟩, ⟨(some 25), none, .faddr 3 (.t 24)⟩, ⟨(some 26), none, .load true 2 (.t 25)⟩, ⟨(some 27), none, .build [(.int .i64 0), (.int .i64 0)] []⟩, ⟨(some 28), none, .eqs (.flat [.int, .int]) false (.t 26) (.t 27)⟩, ⟨(some 6), none, .mov (.t 28)⟩]) .skip))
 (.seq (.drawn [⟨(some 29), none, .load true 5 (.t 4)⟩, ⟨(some 30), none, .mov (.t 5)⟩, ⟨(some 31), none, .mov (.t 30)⟩, ⟨(some 32), (some (31, true)), .mov (.t 0)⟩, ⟨(some 33), (some (31, true)), .nilck (.t 32)⟩, ⟨(some 34), (some (31, true)), .faddr 1 (.t 33)⟩, ⟨(some 35), (some (31, true)), .load false 1 (.t 34)⟩, ⟨(some 36), (some (31, true)), .call 98 [(.t 35)]⟩, ⟨(some 37), none, .pick (.t 31) (.t 36) (.c (.bool false))⟩, ⟨(some 38), none, .mov (.t 37)⟩, ⟨(some 39), (some (38, true)), .mov (.t 0)⟩, ⟨(some 40), (some (38, true)), .nilck (.t 39)⟩, ⟨(some 41), (some (38, true)), .faddr 2 (.t 40)⟩, ⟨(some 42), (some (38, true)), .load false 1 (.t 41)⟩, ⟨(some 43), (some (38, true)), .call 98 [(.t 42)]⟩, ⟨(some 44), none, .pick (.t 38) (.t 43) (.c (.bool false))⟩, ⟨(some 45), none, .mov (.t 44)⟩, ⟨(some 46), (some (45, true)), .mov (.t 6)⟩, ⟨(some 47), none, .pick (.t 45) (.t 46) (.c (.bool false))⟩, ⟨(some 48), none, .mov (.t 47)⟩, ⟨(some 49), (some (48, true)), .faddr 2 (.t 4)⟩, ⟨(some 50), (some (48, true)), .load false 1 (.t 49)⟩, ⟨(some 51), (some (48, true)), .mov (.t 50)⟩, ⟨(some 52), (some (51, false)), .mov (.t 0)⟩, ⟨(some 53), (some (51, false)), .nilck (.t 52)⟩, ⟨(some 54), (some (51, false)), .faddr 6 (.t 53)⟩, ⟨(some 55), (some (51, false)), .load false 1 (.t 54)⟩, ⟨(some 56), (some (51, false)), .un .not (.t 55)⟩, ⟨(some 57), (some (48, true)), .pick (.t 51) (.c (.bool true)) (.t 56)⟩, ⟨(some 58), none, .pick (.t 48) (.t 57) (.c (.bool false))⟩, ⟨(some 59), none, .mov (.t 58)⟩, ⟨(some 60), (some (59, true)), .load true 5 (.t 4)⟩, ⟨(some 61), (some (59, true)), .mov (.t 0)⟩, ⟨(some 62), (some (59, true)), .call 99 [(.t 60), (.t 61)]⟩, ⟨(some 63), none, .pick (.t 59) (.t 62) (.c (.bool false))⟩, ⟨(some 64), none, .mov (.t 63)⟩, ⟨(some 65), (some (64, true)), .load true 5 (.t 4)⟩, ⟨(some 66), (some (64, true)), .mov (.t 0)⟩, ⟨(some 67), (some (64, true)), .call 100 [(.t 65), (.t 66)]⟩, ⟨(some 68), none, .pick (.t 64) (.t 67) (.c (.bool false))⟩, ⟨(some 69), none, .mov (.t 68)⟩, ⟨(some 70), (some (69, true)), .load true 5 (.t 4)⟩, ⟨(some 71), (some (69, true)), .mov (.t 0)⟩, ⟨(some 72), (some (69, true)), .call 101 [(.t 70), (.t 71)]⟩, ⟨(some 73), none, .pick (.t 69) (.t 72) (.c (.bool false))⟩, ⟨none, none, .store 5 (.t 2) (.t 29)⟩, ⟨(some 3), none, .mov (.t 73)⟩] [(0, [8, 15, 34, 39, 44])])
 .ret)))))⟩
def b72_0 : VCode := (.seq (.ops [⟨(some 16), none, .bin .lss (.t 15) (.c (.int .i64 4))⟩])
 (.seq (.cond (.t 16) .skip (.exit 0))
 (.seq (.block 1 (.seq (.ops [⟨(some 17), none, .index false 1 4 (.t 14) (.t 15)⟩, ⟨(some 5), none, .mov (.t 17)⟩])
 (.ops [⟨(some 18), none, .mov (.t 0)⟩, ⟨(some 19), none, .mov (.t 5)⟩, ⟨(some 20), none, .call 46 [(.t 18), (.t 19), (.c (.int .i64 4))]⟩])))
 (.ops [⟨(some 21), none, .bin .add (.t 15) (.c (.int .i64 1))⟩, ⟨(some 15), none, .mov (.t 21)⟩]))))
/-- furlong/msg.box -/
def v72 : VFun := ⟨2, [], (.seq (.ops [⟨(some 3), none, .box 60 (.t 1)⟩])
 (.seq (.ops [⟨(some 6), none, .faddr 0 (.t 3)⟩, ⟨(some 7), none, .load false 1 (.t 6)⟩, ⟨(some 8), none, .faddr 1 (.t 3)⟩, ⟨(some 9), none, .load false 1 (.t 8)⟩, ⟨(some 10), none, .faddr 2 (.t 3)⟩, ⟨(some 11), none, .load false 1 (.t 10)⟩, ⟨(some 12), none, .faddr 3 (.t 3)⟩, ⟨(some 13), none, .load false 1 (.t 12)⟩, ⟨(some 14), none, .build [(.int .i64 0), (.int .i64 0), (.int .i64 0), (.int .i64 0)] [(0, 1, (.t 7)), (1, 1, (.t 9)), (2, 1, (.t 11)), (3, 1, (.t 13))]⟩, ⟨(some 15), none, .mov (.c (.int .i64 0))⟩])
 (.block 0 (.loop b72_0))))⟩
def b73_0 : VCode := (.seq (.ops [⟨(some 43), none, .bin .lss (.t 42) (.t 41)⟩])
 (.seq (.cond (.t 43) .skip (.exit 2))
 (.seq (.block 3 (.seq (.ops [⟨(some 44), none, .iaddr 2 none (.t 40) (.t 42)⟩, ⟨(some 45), none, .load true 2 (.t 44)⟩, ⟨(some 7), none, .alloc [(.int .i64 0), (.int .i64 0)] 48⟩, ⟨none, none, .store 2 (.t 7) (.t 45)⟩])
 (.seq (.ops [⟨(some 46), none, .mov (.t 0)⟩, ⟨(some 47), none, .faddr 0 (.t 7)⟩, ⟨(some 48), none, .load false 1 (.t 47)⟩, ⟨(some 49), none, .call 46 [(.t 46), (.t 48), (.c (.int .i64 4))]⟩])
 (.ops [⟨(some 50), none, .mov (.t 0)⟩, ⟨(some 51), none, .faddr 1 (.t 7)⟩, ⟨(some 52), none, .load false 1 (.t 51)⟩, ⟨(some 53), none, .call 46 [(.t 50), (.t 52), (.c (.int .i64 4))]⟩]))))
 (.ops [⟨(some 54), none, .bin .add (.t 42) (.c (.int .i64 1))⟩, ⟨(some 42), none, .mov (.t 54)⟩]))))
def b73_1 : VCode := (.seq (.ops [⟨(some 33), none, .bin .lss (.t 32) (.t 31)⟩])
 (.seq (.cond (.t 33) .skip (.exit 0))
 (.seq (.block 1 (.seq (.ops [⟨(some 34), none, .iaddr 1 none (.t 30) (.t 32)⟩, ⟨(some 35), none, .load false 1 (.t 34)⟩, ⟨(some 5), none, .mov (.t 35)⟩])
 (.seq (.ops [⟨(some 36), none, .mov (.t 0)⟩, ⟨(some 37), none, .mov (.t 5)⟩, ⟨(some 38), none, .bi (.len 1) [(.t 37)]⟩, ⟨(some 39), none, .call 46 [(.t 36), (.t 38), (.c (.int .i64 1))]⟩])
 (.seq (.ops [⟨(some 40), none, .mov (.t 5)⟩, ⟨(some 41), none, .bi (.len 1) [(.t 40)]⟩, ⟨(some 42), none, .mov (.c (.int .i64 0))⟩])
 (.block 2 (.loop b73_0))))))
 (.ops [⟨(some 55), none, .bin .add (.t 32) (.c (.int .i64 1))⟩, ⟨(some 32), none, .mov (.t 55)⟩]))))
/-- (*furlong/rec.Writer).Feature -/
def v73 : VFun := ⟨2, [], (.seq (.ops [⟨(some 8), none, .mov (.t 0)⟩, ⟨(some 9), none, .mov (.t 1)⟩, ⟨(some 10), none, .nilck (.t 9)⟩, ⟨(some 11), none, .faddr 0 (.t 10)⟩, ⟨(some 12), none, .load false 1 (.t 11)⟩, ⟨(some 13), none, .call 46 [(.t 8), (.t 12), (.c (.int .i64 2))]⟩])
 (.seq (.ops [⟨(some 14), none, .mov (.t 0)⟩, ⟨(some 15), none, .mov (.t 1)⟩, ⟨(some 16), none, .nilck (.t 15)⟩, ⟨(some 17), none, .faddr 1 (.t 16)⟩, ⟨(some 18), none, .load false 1 (.t 17)⟩, ⟨(some 19), none, .call 46 [(.t 14), (.t 18), (.c (.int .i64 1))]⟩])
 (.seq (.ops [⟨(some 20), none, .mov (.t 0)⟩, ⟨(some 21), none, .mov (.t 1)⟩, ⟨(some 22), none, .nilck (.t 21)⟩, ⟨(some 23), none, .faddr 2 (.t 22)⟩, ⟨(some 24), none, .load false 1 (.t 23)⟩, ⟨(some 25), none, .bi (.len 1) [(.t 24)]⟩, ⟨(some 26), none, .call 46 [(.t 20), (.t 25), (.c (.int .i64 1))]⟩])
 (.seq (.ops [⟨(some 27), none, .mov (.t 1)⟩, ⟨(some 28), none, .nilck (.t 27)⟩, ⟨(some 29), none, .faddr 2 (.t 28)⟩, ⟨(some 30), none, .load false 1 (.t 29)⟩, ⟨(some 31), none, .bi (.len 1) [(.t 30)]⟩, ⟨(some 32), none, .mov (.c (.int .i64 0))⟩])
 (.block 0 (.loop b73_1))))))⟩
/-- furlong/furlongref12.MsgMay -/
def v74 : VFun := ⟨1, [(.tmp 2)], (.seq (.ops [⟨(some 1), none, .box 63 (.t 0)⟩, ⟨(some 2), none, .mov (.c (.bool false))⟩])
 (.seq (.seq (.ops [⟨(some 3), none, .faddr 0 (.t 1)⟩, ⟨(some 4), none, .load false 1 (.t 3)⟩, ⟨(some 5), none, .bin .lss (.t 4) (.c (.int .i64 0))⟩, ⟨(some 6), none, .mov (.t 5)⟩, ⟨(some 7), (some (6, false)), .faddr 0 (.t 1)⟩, ⟨(some 8), (some (6, false)), .load false 1 (.t 7)⟩, ⟨(some 9), (some (6, false)), .bin .gtr (.t 8) (.c (.int .i64 6))⟩, ⟨(some 10), none, .pick (.t 6) (.c (.bool true)) (.t 9)⟩, ⟨(some 11), none, .mov (.t 10)⟩, ⟨(some 12), (some (11, false)), .faddr 1 (.t 1)⟩, ⟨(some 13), (some (11, false)), .load false 1 (.t 12)⟩, ⟨(some 14), (some (11, false)), .bin .lss (.t 13) (.c (.int .i64 0))⟩, ⟨(some 15), none, .pick (.t 11) (.c (.bool true)) (.t 14)⟩, ⟨(some 16), none, .mov (.t 15)⟩, ⟨(some 17), (some (16, false)), .faddr 1 (.t 1)⟩, ⟨(some 18), (some (16, false)), .load false 1 (.t 17)⟩, ⟨(some 19), (some (16, false)), .bin .geq (.t 18) (.c (.int .i64 8))⟩, ⟨(some 20), none, .pick (.t 16) (.c (.bool true)) (.t 19)⟩, ⟨(some 21), none, .mov (.t 20)⟩, ⟨(some 22), (some (21, false)), .faddr 2 (.t 1)⟩, ⟨(some 23), (some (21, false)), .load false 1 (.t 22)⟩, ⟨(some 24), (some (21, false)), .bin .lss (.t 23) (.c (.int .i64 0))⟩, ⟨(some 25), none, .pick (.t 21) (.c (.bool true)) (.t 24)⟩, ⟨(some 26), none, .mov (.t 25)⟩, ⟨(some 27), (some (26, false)), .faddr 2 (.t 1)⟩, ⟨(some 28), (some (26, false)), .load false 1 (.t 27)⟩, ⟨(some 29), (some (26, false)), .bin .geq (.t 28) (.c (.int .i64 8))⟩, ⟨(some 30), none, .pick (.t 26) (.c (.bool true)) (.t 29)⟩, ⟨(some 31), none, .mov (.t 30)⟩, ⟨(some 32), (some (31, false)), .load true 16 (.t 1)⟩, ⟨(some 33), (some (31, false)), .call 102 [(.t 32)]⟩, ⟨(some 34), (some (31, false)), .un .not (.t 33)⟩, ⟨(some 35), none, .pick (.t 31) (.c (.bool true)) (.t 34)⟩])
 (.cond (.t 35) (.seq (.ops [⟨(some 2), none, .mov (.c (.bool false))⟩])
 .ret) .skip))
 (.seq (.seq (.ops [⟨(some 36), none, .faddr 0 (.t 1)⟩, ⟨(some 37), none, .load false 1 (.t 36)⟩])
 (.block 0 (.seq (.ops [⟨(some 39), none, .bin .eql (.t 37) (.c (.int .i64 0))⟩, ⟨(some 38), none, .mov (.t 39)⟩])
 (.cond (.t 38) (.seq (.ops [⟨(some 40), none, .faddr 3 (.t 1)⟩, ⟨(some 41), none, .load true 2 (.t 40)⟩, ⟨(some 42), none, .call 91 [(.t 41)]⟩, ⟨(some 43), none, .mov (.t 42)⟩, ⟨(some 44), (some (43, true)), .faddr 5 (.t 1)⟩, ⟨(some 45), (some (43, true)), .load false 1 (.t 44)⟩, ⟨(some 46), (some (43, true)), .call 93 [(.t 45)]⟩, ⟨(some 47), none, .pick (.t 43) (.t 46) (.c (.bool false))⟩, ⟨(some 48), none, .mov (.t 47)⟩, ⟨(some 49), (some (48, true)), .faddr 14 (.t 1)⟩, ⟨(some 50), (some (48, true)), .load false 1 (.t 49)⟩, ⟨(some 51), (some (48, true)), .call 94 [(.t 50)]⟩, ⟨(some 52), none, .pick (.t 48) (.t 51) (.c (.bool false))⟩, ⟨(some 2), none, .mov (.t 52)⟩])
 .ret) (.seq (.ops [⟨(some 54), none, .bin .eql (.t 37) (.c (.int .i64 5))⟩, ⟨(some 53), none, .mov (.t 54)⟩])
 (.cond (.t 53) (.seq (.ops [⟨(some 55), none, .faddr 7 (.t 1)⟩, ⟨(some 56), none, .load false 1 (.t 55)⟩, ⟨(some 57), none, .bin .geq (.t 56) (.c (.int .i64 1))⟩, ⟨(some 58), none, .mov (.t 57)⟩, ⟨(some 59), (some (58, true)), .faddr 7 (.t 1)⟩, ⟨(some 60), (some (58, true)), .load false 1 (.t 59)⟩, ⟨(some 61), (some (58, true)), .bin .leq (.t 60) (.c (.int .i64 65535))⟩, ⟨(some 62), none, .pick (.t 58) (.t 61) (.c (.bool false))⟩, ⟨(some 63), none, .mov (.t 62)⟩, ⟨(some 64), (some (63, true)), .faddr 10 (.t 1)⟩, ⟨(some 65), (some (63, true)), .load true 4 (.t 64)⟩, ⟨(some 66), (some (63, true)), .call 103 [(.t 65)]⟩, ⟨(some 67), none, .pick (.t 63) (.t 66) (.c (.bool false))⟩, ⟨(some 2), none, .mov (.t 67)⟩])
 .ret) (.seq (.ops [⟨(some 69), none, .bin .eql (.t 37) (.c (.int .i64 6))⟩, ⟨(some 68), none, .mov (.t 69)⟩])
 (.cond (.t 68) (.seq (.ops [⟨(some 70), none, .faddr 7 (.t 1)⟩, ⟨(some 71), none, .load false 1 (.t 70)⟩, ⟨(some 72), none, .bin .geq (.t 71) (.c (.int .i64 1))⟩, ⟨(some 73), none, .mov (.t 72)⟩, ⟨(some 74), (some (73, true)), .faddr 7 (.t 1)⟩, ⟨(some 75), (some (73, true)), .load false 1 (.t 74)⟩, ⟨(some 76), (some (73, true)), .bin .leq (.t 75) (.c (.int .i64 65535))⟩, ⟨(some 77), none, .pick (.t 73) (.t 76) (.c (.bool false))⟩, ⟨(some 78), none, .mov (.t 77)⟩, ⟨(some 79), (some (78, true)), .faddr 10 (.t 1)⟩, ⟨(some 80), (some (78, true)), .load true 4 (.t 79)⟩, ⟨(some 81), (some (78, true)), .call 103 [(.t 80)]⟩, ⟨(some 82), none, .pick (.t 78) (.t 81) (.c (.bool false))⟩, ⟨(some 83), none, .mov (.t 82)⟩, ⟨(some 84), (some (83, true)), .faddr 8 (.t 1)⟩, ⟨(some 85), (some (83, true)), .load false 1 (.t 84)⟩, ⟨(some 86), (some (83, true)), .bin .geq (.t 85) (.c (.int .i64 0))⟩, ⟨(some 87), none, .pick (.t 83) (.t 86) (.c (.bool false))⟩, ⟨(some 88), none, .mov (.t 87)⟩, ⟨(some 89), (some (88, true)), .faddr 8 (.t 1)⟩, ⟨(some 90), (some (88, true)), .load false 1 (.t 89)⟩, ⟨(some 91), (some (88, true)), .bin .leq (.t 90) (.c (.int .i64 2147483647))⟩, ⟨(some 92), none, .pick (.t 88) (.t 91) (.c (.bool false))⟩, ⟨(some 93), none, .mov (.t 92)⟩, ⟨(some 94), (some (93, true)), .faddr 15 (.t 1)⟩, ⟨(some 95), (some (93, true)), .load false 1 (.t 94)⟩, ⟨(some 96), (some (93, true)), .bi (.len 1) [(.t 95)]⟩, ⟨(some 97), (some (93, true)), .bin .leq (.t 96) (.c (.int .i64 256))⟩, ⟨(some 98), none, .pick (.t 93) (.t 97) (.c (.bool false))⟩, ⟨(some 99), none, .mov (.t 98)⟩, ⟨(some 100), (some (99, true)), .faddr 15 (.t 1)⟩, ⟨(some 101), (some (99, true)), .load false 1 (.t 100)⟩, ⟨(some 102), (some (99, true)), .call 104 [(.t 101)]⟩, ⟨(some 103), none, .pick (.t 99) (.t 102) (.c (.bool false))⟩, ⟨(some 104), none, .mov (.t 103)⟩, ⟨(some 105), (some (104, true)), .faddr 9 (.t 1)⟩, ⟨(some 106), (some (104, true)), .load false 1 (.t 105)⟩, ⟨(some 107), (some (104, true)), .un .not (.t 106)⟩, ⟨(some 108), (some (104, true)), .mov (.t 107)⟩, ⟨(some 109), (some (108, false)), .faddr 15 (.t 1)⟩, ⟨(some 110), (some (108, false)), .load false 1 (.t 109)⟩, ⟨(some 111), (some (108, false)), .bi (.len 1) [(.t 110)]⟩, ⟨(some 112), (some (108, false)), .bin .eql (.t 111) (.c (.int .i64 0))⟩, ⟨(some 113), (some (104, true)), .pick (.t 108) (.c (.bool true)) (.t 112)⟩, ⟨(some 114), none, .pick (.t 104) (.t 113) (.c (.bool false))⟩, ⟨(some 2), none, .mov (.t 114)⟩])
 .ret) .skip))))))))
 (.seq (.ops [⟨(some 115), none, .faddr 3 (.t 1)⟩, ⟨(some 116), none, .load true 2 (.t 115)⟩, ⟨(some 117), none, .call 91 [(.t 116)]⟩, ⟨(some 2), none, .mov (.t 117)⟩])
 .ret))))⟩
/-- furlong/furlongref12.putBox -/
def v75 : VFun := ⟨1, [(.tmp 2)], (.seq (.ops [⟨(some 1), none, .box 60 (.t 0)⟩, ⟨(some 2), none, .mov (.c (.str []))⟩])
 (.seq (.drawn [⟨(some 3), none, .faddr 0 (.t 1)⟩, ⟨(some 4), none, .load false 1 (.t 3)⟩, ⟨(some 5), none, .call 52 [(.t 4), (.c (.int .i64 4))]⟩, ⟨(some 6), none, .faddr 1 (.t 1)⟩, ⟨(some 7), none, .load false 1 (.t 6)⟩, ⟨(some 8), none, .call 52 [(.t 7), (.c (.int .i64 4))]⟩, ⟨(some 9), none, .bin .add (.t 5) (.t 8)⟩, ⟨(some 10), none, .faddr 2 (.t 1)⟩, ⟨(some 11), none, .load false 1 (.t 10)⟩, ⟨(some 12), none, .call 52 [(.t 11), (.c (.int .i64 4))]⟩, ⟨(some 13), none, .bin .add (.t 9) (.t 12)⟩, ⟨(some 14), none, .faddr 3 (.t 1)⟩, ⟨(some 15), none, .load false 1 (.t 14)⟩, ⟨(some 16), none, .call 52 [(.t 15), (.c (.int .i64 4))]⟩, ⟨(some 17), none, .bin .add (.t 13) (.t 16)⟩, ⟨(some 2), none, .mov (.t 17)⟩] [(4, [0]), (8, [0, 3]), (12, [0, 3, 6])])
 .ret))⟩
def b76_0 : VCode := (.seq (.seq (.ops [⟨(some 34), none, .mov (.t 5)⟩, ⟨(some 35), none, .faddr 2 (.t 1)⟩, ⟨(some 36), none, .load false 1 (.t 35)⟩, ⟨(some 37), none, .mov (.t 4)⟩, ⟨(some 38), none, .iaddr 1 none (.t 36) (.t 37)⟩, ⟨(some 39), none, .load false 1 (.t 38)⟩, ⟨(some 40), none, .bi (.len 1) [(.t 39)]⟩, ⟨(some 41), none, .bin .lss (.t 34) (.t 40)⟩])
 (.cond (.t 41) .skip (.exit 2)))
 (.seq (.block 3 (.drawn [⟨(some 44), none, .mov (.t 3)⟩, ⟨(some 45), none, .faddr 2 (.t 1)⟩, ⟨(some 46), none, .load false 1 (.t 45)⟩, ⟨(some 47), none, .mov (.t 4)⟩, ⟨(some 48), none, .iaddr 1 none (.t 46) (.t 47)⟩, ⟨(some 49), none, .load false 1 (.t 48)⟩, ⟨(some 50), none, .mov (.t 5)⟩, ⟨(some 51), none, .iaddr 2 none (.t 49) (.t 50)⟩, ⟨(some 52), none, .faddr 0 (.t 51)⟩, ⟨(some 53), none, .load false 1 (.t 52)⟩, ⟨(some 54), none, .call 52 [(.t 53), (.c (.int .i64 4))]⟩, ⟨(some 55), none, .bin .add (.t 44) (.t 54)⟩, ⟨(some 56), none, .faddr 2 (.t 1)⟩, ⟨(some 57), none, .load false 1 (.t 56)⟩, ⟨(some 58), none, .mov (.t 4)⟩, ⟨(some 59), none, .iaddr 1 none (.t 57) (.t 58)⟩, ⟨(some 60), none, .load false 1 (.t 59)⟩, ⟨(some 61), none, .mov (.t 5)⟩, ⟨(some 62), none, .iaddr 2 none (.t 60) (.t 61)⟩, ⟨(some 63), none, .faddr 1 (.t 62)⟩, ⟨(some 64), none, .load false 1 (.t 63)⟩, ⟨(some 65), none, .call 52 [(.t 64), (.c (.int .i64 4))]⟩, ⟨(some 66), none, .bin .add (.t 55) (.t 65)⟩, ⟨(some 3), none, .mov (.t 66)⟩] [(13, [0]), (16, [0]), (20, [0])]))
 (.ops [⟨(some 42), none, .mov (.t 5)⟩, ⟨(some 43), none, .bin .add (.t 42) (.c (.int .i64 1))⟩, ⟨(some 5), none, .mov (.t 43)⟩])))
def b76_1 : VCode := (.seq (.seq (.ops [⟨(some 18), none, .mov (.t 4)⟩, ⟨(some 19), none, .faddr 2 (.t 1)⟩, ⟨(some 20), none, .load false 1 (.t 19)⟩, ⟨(some 21), none, .bi (.len 1) [(.t 20)]⟩, ⟨(some 22), none, .bin .lss (.t 18) (.t 21)⟩])
 (.cond (.t 22) .skip (.exit 0)))
 (.seq (.block 1 (.seq (.ops [⟨(some 25), none, .mov (.t 3)⟩, ⟨(some 26), none, .faddr 2 (.t 1)⟩, ⟨(some 27), none, .load false 1 (.t 26)⟩, ⟨(some 28), none, .mov (.t 4)⟩, ⟨(some 29), none, .iaddr 1 none (.t 27) (.t 28)⟩, ⟨(some 30), none, .load false 1 (.t 29)⟩, ⟨(some 31), none, .bi (.len 1) [(.t 30)]⟩, ⟨(some 32), none, .call 52 [(.t 31), (.c (.int .i64 1))]⟩, ⟨(some 33), none, .bin .add (.t 25) (.t 32)⟩, ⟨(some 3), none, .mov (.t 33)⟩])
 (.seq (.ops [⟨(some 5), none, .mov (.c (.int .i64 0))⟩])
 (.block 2 (.loop b76_0)))))
 (.ops [⟨(some 23), none, .mov (.t 4)⟩, ⟨(some 24), none, .bin .add (.t 23) (.c (.int .i64 1))⟩, ⟨(some 4), none, .mov (.t 24)⟩])))
/-- furlong/furlongref8.PutFeature -/
def v76 : VFun := ⟨1, [(.tmp 2)], (.seq (.ops [⟨(some 1), none, .box 52 (.t 0)⟩, ⟨(some 2), none, .mov (.c (.str []))⟩])
 (.seq (.drawn [⟨(some 6), none, .faddr 0 (.t 1)⟩, ⟨(some 7), none, .load false 1 (.t 6)⟩, ⟨(some 8), none, .call 52 [(.t 7), (.c (.int .i64 2))]⟩, ⟨(some 9), none, .faddr 1 (.t 1)⟩, ⟨(some 10), none, .load false 1 (.t 9)⟩, ⟨(some 11), none, .call 52 [(.t 10), (.c (.int .i64 1))]⟩, ⟨(some 12), none, .bin .add (.t 8) (.t 11)⟩, ⟨(some 13), none, .faddr 2 (.t 1)⟩, ⟨(some 14), none, .load false 1 (.t 13)⟩, ⟨(some 15), none, .bi (.len 1) [(.t 14)]⟩, ⟨(some 16), none, .call 52 [(.t 15), (.c (.int .i64 1))]⟩, ⟨(some 17), none, .bin .add (.t 12) (.t 16)⟩, ⟨(some 3), none, .mov (.t 17)⟩] [(4, [0]), (8, [0, 3]), (9, [0, 3])])
 (.seq (.seq (.ops [⟨(some 4), none, .mov (.c (.int .i64 0))⟩])
 (.block 0 (.loop b76_1)))
 (.seq (.ops [⟨(some 67), none, .mov (.t 3)⟩, ⟨(some 2), none, .mov (.t 67)⟩])
 .ret))))⟩
/-- furlong/msg.rowOf -/
def v77 : VFun := ⟨1, [(.cell 2 true 5), (.tmp 3)], (.seq (.ops [⟨(some 2), none, .alloc [(.bool false), (.bool false), (.bool false), (.bool false), (.bool false)] 132⟩, ⟨(some 3), none, .mov (.c (.bool false))⟩])
 (.seq (.seq (.ops [⟨(some 4), none, .mov (.t 0)⟩])
 (.block 0 (.seq (.ops [⟨(some 6), none, .bin .eql (.t 4) (.c (.int .i64 0))⟩, ⟨(some 5), none, .mov (.t 6)⟩])
 (.cond (.t 5) (.seq (.ops [⟨(some 7), none, .build [(.bool false), (.bool false), (.bool false), (.bool false), (.bool false)] [(0, 1, (.c (.bool true))), (1, 1, (.c (.bool true)))]⟩, ⟨none, none, .store 5 (.t 2) (.t 7)⟩, ⟨(some 3), none, .mov (.c (.bool true))⟩])
 .ret) (.seq (.seq (.ops [⟨(some 9), none, .bin .eql (.t 4) (.c (.int .i64 1))⟩, ⟨(some 8), none, .mov (.t 9)⟩])
 (.cond (.t 8) .skip (.ops [⟨(some 10), none, .bin .eql (.t 4) (.c (.int .i64 2))⟩, ⟨(some 8), none, .mov (.t 10)⟩])))
 (.cond (.t 8) (.seq (.ops [⟨(some 11), none, .build [(.bool false), (.bool false), (.bool false), (.bool false), (.bool false)] [(0, 1, (.c (.bool true))), (2, 1, (.c (.bool true)))]⟩, ⟨none, none, .store 5 (.t 2) (.t 11)⟩, ⟨(some 3), none, .mov (.c (.bool true))⟩])
 .ret) (.seq (.seq (.ops [⟨(some 13), none, .bin .eql (.t 4) (.c (.int .i64 3))⟩, ⟨(some 12), none, .mov (.t 13)⟩])
 (.cond (.t 12) .skip (.ops [⟨(some 14), none, .bin .eql (.t 4) (.c (.int .i64 4))⟩, ⟨(some 12), none, .mov (.t 14)⟩])))
 (.cond (.t 12) (.seq (.ops [⟨(some 15), none, .build [(.bool false), (.bool false), (.bool false), (.bool false), (.bool false)] [(0, 1, (.c (.bool true)))]⟩, ⟨none, none, .store 5 (.t 2) (.t 15)⟩, ⟨(some 3), none, .mov (.c (.bool true))⟩])
 .ret) (.seq (.ops [⟨(some 17), none, .bin .eql (.t 4) (.c (.int .i64 5))⟩, ⟨(some 16), none, .mov (.t 17)⟩])
 (.cond (.t 16) (.seq (.ops [⟨(some 18), none, .build [(.bool false), (.bool false), (.bool false), (.bool false), (.bool false)] [(3, 1, (.c (.bool true)))]⟩, ⟨none, none, .store 5 (.t 2) (.t 18)⟩, ⟨(some 3), none, .mov (.c (.bool true))⟩])
 .ret) (.seq (.ops [⟨(some 20), none, .bin .eql (.t 4) (.c (.int .i64 6))⟩, ⟨(some 19), none, .mov (.t 20)⟩])
 (.cond (.t 19) (.seq (.ops [⟨(some 21), none, .build [(.bool false), (.bool false), (.bool false), (.bool false), (.bool false)] [(3, 1, (.c (.bool true))), (4, 1, (.c (.bool true)))]⟩, ⟨none, none, .store 5 (.t 2) (.t 21)⟩, ⟨(some 3), none, .mov (.c (.bool true))⟩])
 .ret) .skip))))))))))))
 (.seq (.ops [⟨(some 22), none, .build [(.bool false), (.bool false), (.bool false), (.bool false), (.bool false)] []⟩, ⟨none, none, .store 5 (.t 2) (.t 22)⟩, ⟨(some 3), none, .mov (.c (.bool false))⟩])
 .ret)))⟩
def b78_0 : VCode := (.seq (.ops [⟨(some 18), none, .bin .lss (.t 17) (.t 16)⟩])
 (.seq (.cond (.t 18) .skip (.exit 0))
 (.seq (.block 1 (.drawn [⟨(some 19), none, .mov (.t 1)⟩, ⟨(some 20), none, .mov (.t 1)⟩, ⟨(some 21), none, .nilck (.t 20)⟩, ⟨(some 22), none, .faddr 15 (.t 21)⟩, ⟨(some 23), none, .load false 1 (.t 22)⟩, ⟨(some 24), none, .mov (.t 0)⟩, ⟨(some 25), none, .call 95 [(.t 24)]⟩, ⟨(some 26), none, .bslice [(.int .i64 0), (.int .i64 0), .nils] 52 1 [(0, 3, (.t 25))]⟩, ⟨(some 27), none, .bi (.append 3 40 52) [(.t 23), (.t 26)]⟩, ⟨(some 28), none, .nilck (.t 19)⟩, ⟨(some 29), none, .faddr 15 (.t 28)⟩, ⟨none, none, .store 1 (.t 29) (.t 27)⟩] [(4, [7, 8])]))
 (.ops [⟨(some 30), none, .bin .add (.t 17) (.c (.int .i64 1))⟩, ⟨(some 17), none, .mov (.t 30)⟩]))))
/-- furlong/msg.part -/
def v78 : VFun := ⟨2, [], (.seq (.ops [⟨(some 4), none, .mov (.t 1)⟩, ⟨(some 5), none, .mov (.t 0)⟩, ⟨(some 6), none, .call 57 [(.t 5), (.c (.int .i64 4))]⟩, ⟨(some 7), none, .nilck (.t 4)⟩, ⟨(some 8), none, .faddr 8 (.t 7)⟩, ⟨none, none, .store 1 (.t 8) (.t 6)⟩])
 (.seq (.ops [⟨(some 9), none, .mov (.t 1)⟩, ⟨(some 10), none, .mov (.t 0)⟩, ⟨(some 11), none, .call 61 [(.t 10)]⟩, ⟨(some 12), none, .nilck (.t 9)⟩, ⟨(some 13), none, .faddr 9 (.t 12)⟩, ⟨none, none, .store 1 (.t 13) (.t 11)⟩])
 (.seq (.ops [⟨(some 14), none, .mov (.t 0)⟩, ⟨(some 15), none, .call 57 [(.t 14), (.c (.int .i64 2))]⟩, ⟨(some 16), none, .bi .min [(.t 15), (.c (.int .i64 257))]⟩, ⟨(some 17), none, .mov (.c (.int .i64 0))⟩])
 (.block 0 (.loop b78_0)))))⟩
/-- furlong/furlongref12.getBox -/
def v79 : VFun := ⟨1, [(.cell 2 true 4)], (.seq (.ops [⟨(some 2), none, .alloc [(.int .i64 0), (.int .i64 0), (.int .i64 0), (.int .i64 0)] 60⟩])
 (.seq (.ops [⟨(some 7), none, .mov (.t 0)⟩, ⟨(some 8), none, .call 62 [(.t 7), (.c (.int .i64 4))]⟩, ⟨(some 3), none, .mov (.t 8)⟩])
 (.seq (.ops [⟨(some 9), none, .mov (.t 0)⟩, ⟨(some 10), none, .call 62 [(.t 9), (.c (.int .i64 4))]⟩, ⟨(some 4), none, .mov (.t 10)⟩])
 (.seq (.ops [⟨(some 11), none, .mov (.t 0)⟩, ⟨(some 12), none, .call 62 [(.t 11), (.c (.int .i64 4))]⟩, ⟨(some 5), none, .mov (.t 12)⟩])
 (.seq (.ops [⟨(some 13), none, .mov (.t 0)⟩, ⟨(some 14), none, .call 62 [(.t 13), (.c (.int .i64 4))]⟩, ⟨(some 6), none, .mov (.t 14)⟩])
 (.seq (.ops [⟨(some 15), none, .mov (.t 3)⟩, ⟨(some 16), none, .mov (.t 4)⟩, ⟨(some 17), none, .mov (.t 5)⟩, ⟨(some 18), none, .mov (.t 6)⟩, ⟨(some 19), none, .build [(.int .i64 0), (.int .i64 0), (.int .i64 0), (.int .i64 0)] [(0, 1, (.t 15)), (1, 1, (.t 16)), (2, 1, (.t 17)), (3, 1, (.t 18))]⟩, ⟨none, none, .store 4 (.t 2) (.t 19)⟩])
 .ret))))))⟩
def b80_0 : VCode := (.seq (.seq (.ops [⟨(some 33), none, .mov (.t 8)⟩, ⟨(some 34), none, .mov (.t 6)⟩, ⟨(some 35), none, .bin .lss (.t 33) (.t 34)⟩, ⟨(some 36), none, .mov (.t 35)⟩, ⟨(some 37), (some (36, true)), .mov (.t 0)⟩, ⟨(some 38), (some (36, true)), .nilck (.t 37)⟩, ⟨(some 39), (some (36, true)), .faddr 2 (.t 38)⟩, ⟨(some 40), (some (36, true)), .load false 1 (.t 39)⟩, ⟨(some 41), (some (36, true)), .un .not (.t 40)⟩, ⟨(some 42), none, .pick (.t 36) (.t 41) (.c (.bool false))⟩])
 (.cond (.t 42) .skip (.exit 2)))
 (.seq (.block 3 (.seq (.ops [⟨(some 45), none, .mov (.t 0)⟩, ⟨(some 46), none, .call 62 [(.t 45), (.c (.int .i64 4))]⟩, ⟨(some 9), none, .mov (.t 46)⟩])
 (.seq (.ops [⟨(some 47), none, .mov (.t 0)⟩, ⟨(some 48), none, .call 62 [(.t 47), (.c (.int .i64 4))]⟩, ⟨(some 10), none, .mov (.t 48)⟩])
 (.ops [⟨(some 49), none, .mov (.t 7)⟩, ⟨(some 50), none, .mov (.t 9)⟩, ⟨(some 51), none, .mov (.t 10)⟩, ⟨(some 52), none, .build [(.int .i64 0), (.int .i64 0)] [(0, 1, (.t 50)), (1, 1, (.t 51))]⟩, ⟨(some 53), none, .bslice [(.int .i64 0), (.int .i64 0)] 48 1 [(0, 2, (.t 52))]⟩, ⟨(some 54), none, .bi (.append 2 16 48) [(.t 49), (.t 53)]⟩, ⟨(some 7), none, .mov (.t 54)⟩]))))
 (.ops [⟨(some 43), none, .mov (.t 8)⟩, ⟨(some 44), none, .bin .add (.t 43) (.c (.int .i64 1))⟩, ⟨(some 8), none, .mov (.t 44)⟩])))
def b80_1 : VCode := (.seq (.seq (.ops [⟨(some 19), none, .mov (.t 5)⟩, ⟨(some 20), none, .mov (.t 4)⟩, ⟨(some 21), none, .bin .lss (.t 19) (.t 20)⟩, ⟨(some 22), none, .mov (.t 21)⟩, ⟨(some 23), (some (22, true)), .mov (.t 0)⟩, ⟨(some 24), (some (22, true)), .nilck (.t 23)⟩, ⟨(some 25), (some (22, true)), .faddr 2 (.t 24)⟩, ⟨(some 26), (some (22, true)), .load false 1 (.t 25)⟩, ⟨(some 27), (some (22, true)), .un .not (.t 26)⟩, ⟨(some 28), none, .pick (.t 22) (.t 27) (.c (.bool false))⟩])
 (.cond (.t 28) .skip (.exit 0)))
 (.seq (.block 1 (.seq (.ops [⟨(some 31), none, .mov (.t 0)⟩, ⟨(some 32), none, .call 62 [(.t 31), (.c (.int .i64 1))]⟩, ⟨(some 6), none, .mov (.t 32)⟩])
 (.seq (.ops [⟨(some 7), none, .mov (.c .nils)⟩])
 (.seq (.seq (.ops [⟨(some 8), none, .mov (.c (.int .i64 0))⟩])
 (.block 2 (.loop b80_0)))
 (.ops [⟨(some 55), none, .faddr 2 (.t 3)⟩, ⟨(some 56), none, .load false 1 (.t 55)⟩, ⟨(some 57), none, .mov (.t 7)⟩, ⟨(some 58), none, .bslice [.nils] 49 1 [(0, 1, (.t 57))]⟩, ⟨(some 59), none, .bi (.append 1 24 49) [(.t 56), (.t 58)]⟩, ⟨(some 60), none, .faddr 2 (.t 3)⟩, ⟨none, none, .store 1 (.t 60) (.t 59)⟩])))))
 (.ops [⟨(some 29), none, .mov (.t 5)⟩, ⟨(some 30), none, .bin .add (.t 29) (.c (.int .i64 1))⟩, ⟨(some 5), none, .mov (.t 30)⟩])))
/-- (*furlong/furlongref8.Reader).Feature -/
def v80 : VFun := ⟨1, [(.cell 2 true 3)], (.seq (.ops [⟨(some 2), none, .alloc [(.int .i64 0), (.int .i64 0), .nils] 52⟩])
 (.seq (.ops [⟨(some 3), none, .alloc [(.int .i64 0), (.int .i64 0), .nils] 52⟩])
 (.seq (.ops [⟨(some 11), none, .mov (.t 0)⟩, ⟨(some 12), none, .call 62 [(.t 11), (.c (.int .i64 2))]⟩, ⟨(some 13), none, .faddr 0 (.t 3)⟩, ⟨none, none, .store 1 (.t 13) (.t 12)⟩])
 (.seq (.ops [⟨(some 14), none, .mov (.t 0)⟩, ⟨(some 15), none, .call 62 [(.t 14), (.c (.int .i64 1))]⟩, ⟨(some 16), none, .faddr 1 (.t 3)⟩, ⟨none, none, .store 1 (.t 16) (.t 15)⟩])
 (.seq (.ops [⟨(some 17), none, .mov (.t 0)⟩, ⟨(some 18), none, .call 62 [(.t 17), (.c (.int .i64 1))]⟩, ⟨(some 4), none, .mov (.t 18)⟩])
 (.seq (.seq (.ops [⟨(some 5), none, .mov (.c (.int .i64 0))⟩])
 (.block 0 (.loop b80_1)))
 (.seq (.ops [⟨(some 61), none, .load true 3 (.t 3)⟩, ⟨none, none, .store 3 (.t 2) (.t 61)⟩])
 .ret)))))))⟩
def b81_0 : VCode := (.seq (.seq (.ops [⟨(some 11), none, .mov (.t 5)⟩, ⟨(some 12), none, .mov (.t 0)⟩, ⟨(some 13), none, .bi (.len 1) [(.t 12)]⟩, ⟨(some 14), none, .bin .lss (.t 11) (.t 13)⟩])
 (.cond (.t 14) .skip (.exit 0)))
 (.seq (.block 1 (.seq (.drawn [⟨(some 17), none, .mov (.t 0)⟩, ⟨(some 18), none, .mov (.t 5)⟩, ⟨(some 19), none, .iaddr 3 none (.t 17) (.t 18)⟩, ⟨(some 20), none, .load true 3 (.t 19)⟩, ⟨(some 21), none, .mov (.t 1)⟩, ⟨(some 22), none, .mov (.t 5)⟩, ⟨(some 23), none, .iaddr 3 none (.t 21) (.t 22)⟩, ⟨(some 24), none, .load true 3 (.t 23)⟩, ⟨(some 25), none, .call 97 [(.t 20), (.t 24)]⟩, ⟨(some 26), none, .un .not (.t 25)⟩] [])
 (.cond (.t 26) (.seq (.ops [⟨(some 4), none, .mov (.c (.bool false))⟩])
 .ret) .skip)))
 (.ops [⟨(some 15), none, .mov (.t 5)⟩, ⟨(some 16), none, .bin .add (.t 15) (.c (.int .i64 1))⟩, ⟨(some 5), none, .mov (.t 16)⟩])))
/-- furlong/furlonglaw0.SameFeatures -/
def v81 : VFun := ⟨2, [(.tmp 4)], (.seq (.ops [⟨(some 4), none, .mov (.c (.bool false))⟩])
 (.seq (.seq (.ops [⟨(some 6), none, .mov (.t 0)⟩, ⟨(some 7), none, .bi (.len 1) [(.t 6)]⟩, ⟨(some 8), none, .mov (.t 1)⟩, ⟨(some 9), none, .bi (.len 1) [(.t 8)]⟩, ⟨(some 10), none, .bin .neq (.t 7) (.t 9)⟩])
 (.cond (.t 10) (.seq (.ops [⟨(some 4), none, .mov (.c (.bool false))⟩])
 .ret) .skip))
 (.seq (.seq (.ops [⟨(some 5), none, .mov (.c (.int .i64 0))⟩])
 (.block 0 (.loop b81_0)))
 (.seq (.ops [⟨(some 4), none, .mov (.c (.bool true))⟩])
 .ret))))⟩
/-- furlong/rec.NameMay -/
def v84 : VFun := ⟨1, [(.tmp 2)], (.seq (.ops [⟨(some 1), none, .box 23 (.t 0)⟩, ⟨(some 2), none, .mov (.c (.bool false))⟩])
 (.seq (.ops [⟨(some 3), none, .faddr 0 (.t 1)⟩, ⟨(some 4), none, .load false 1 (.t 3)⟩, ⟨(some 5), none, .bin .geq (.t 4) (.c (.int .i64 0))⟩, ⟨(some 6), none, .mov (.t 5)⟩, ⟨(some 7), (some (6, true)), .faddr 0 (.t 1)⟩, ⟨(some 8), (some (6, true)), .load false 1 (.t 7)⟩, ⟨(some 9), (some (6, true)), .bin .lss (.t 8) (.c (.int .i64 8))⟩, ⟨(some 10), none, .pick (.t 6) (.t 9) (.c (.bool false))⟩, ⟨(some 11), none, .mov (.t 10)⟩, ⟨(some 12), (some (11, true)), .faddr 1 (.t 1)⟩, ⟨(some 13), (some (11, true)), .load false 1 (.t 12)⟩, ⟨(some 14), (some (11, true)), .bin .geq (.t 13) (.c (.int .i64 1))⟩, ⟨(some 15), none, .pick (.t 11) (.t 14) (.c (.bool false))⟩, ⟨(some 16), none, .mov (.t 15)⟩, ⟨(some 17), (some (16, true)), .faddr 1 (.t 1)⟩, ⟨(some 18), (some (16, true)), .load false 1 (.t 17)⟩, ⟨(some 19), (some (16, true)), .bin .leq (.t 18) (.c (.int .i64 65535))⟩, ⟨(some 20), none, .pick (.t 16) (.t 19) (.c (.bool false))⟩, ⟨(some 2), none, .mov (.t 20)⟩])
 .ret))⟩
def b85_0 : VCode := (.seq (.ops [⟨(some 55), none, .bin .lss (.t 54) (.t 53)⟩])
 (.seq (.cond (.t 55) .skip (.exit 0))
 (.seq (.block 1 (.seq (.ops [⟨(some 56), none, .mov (.t 54)⟩, ⟨(some 57), none, .iaddr 1 none (.t 52) (.t 54)⟩, ⟨(some 58), none, .load false 1 (.t 57)⟩, ⟨(some 5), none, .mov (.t 56)⟩, ⟨(some 6), none, .mov (.t 58)⟩])
 (.seq (.ops [⟨(some 59), none, .mov (.t 6)⟩, ⟨(some 60), none, .bin .geq (.t 59) (.c (.int .i64 4294967296))⟩, ⟨(some 61), none, .mov (.t 60)⟩, ⟨(some 62), (some (61, false)), .mov (.t 5)⟩, ⟨(some 63), (some (61, false)), .bin .gtr (.t 62) (.c (.int .i64 0))⟩, ⟨(some 64), (some (61, false)), .mov (.t 63)⟩, ⟨(some 65), (some (64, true)), .mov (.t 6)⟩, ⟨(some 66), (some (64, true)), .faddr 1 (.t 2)⟩, ⟨(some 67), (some (64, true)), .load false 1 (.t 66)⟩, ⟨(some 68), (some (64, true)), .mov (.t 5)⟩, ⟨(some 69), (some (64, true)), .bin .sub (.t 68) (.c (.int .i64 1))⟩, ⟨(some 70), (some (64, true)), .iaddr 1 none (.t 67) (.t 69)⟩, ⟨(some 71), (some (64, true)), .load false 1 (.t 70)⟩, ⟨(some 72), (some (64, true)), .bin .leq (.t 65) (.t 71)⟩, ⟨(some 73), (some (61, false)), .pick (.t 64) (.t 72) (.c (.bool false))⟩, ⟨(some 74), none, .pick (.t 61) (.c (.bool true)) (.t 73)⟩, ⟨(some 75), none, .mov (.t 74)⟩, ⟨(some 76), (some (75, false)), .faddr 2 (.t 2)⟩, ⟨(some 77), (some (75, false)), .load false 1 (.t 76)⟩, ⟨(some 78), (some (75, false)), .mov (.t 5)⟩, ⟨(some 79), (some (75, false)), .iaddr 1 none (.t 77) (.t 78)⟩, ⟨(some 80), (some (75, false)), .load false 1 (.t 79)⟩, ⟨(some 81), (some (75, false)), .bin .lss (.t 80) (.c (.int .i64 0))⟩, ⟨(some 82), none, .pick (.t 75) (.c (.bool true)) (.t 81)⟩, ⟨(some 83), none, .mov (.t 82)⟩, ⟨(some 84), (some (83, false)), .faddr 2 (.t 2)⟩, ⟨(some 85), (some (83, false)), .load false 1 (.t 84)⟩, ⟨(some 86), (some (83, false)), .mov (.t 5)⟩, ⟨(some 87), (some (83, false)), .iaddr 1 none (.t 85) (.t 86)⟩, ⟨(some 88), (some (83, false)), .load false 1 (.t 87)⟩, ⟨(some 89), (some (83, false)), .mov (.t 1)⟩, ⟨(some 90), (some (83, false)), .bin .geq (.t 88) (.t 89)⟩, ⟨(some 91), none, .pick (.t 83) (.c (.bool true)) (.t 90)⟩])
 (.cond (.t 91) (.seq (.ops [⟨(some 4), none, .mov (.c (.bool false))⟩])
 .ret) .skip))))
 (.ops [⟨(some 92), none, .bin .add (.t 54) (.c (.int .i64 1))⟩, ⟨(some 54), none, .mov (.t 92)⟩]))))
/-- furlong/smap.May -/
def v85 : VFun := ⟨2, [(.tmp 4)], (.seq (.ops [⟨(some 2), none, .box 26 (.t 0)⟩, ⟨(some 4), none, .mov (.c (.bool false))⟩])
 (.seq (.seq (.ops [⟨(some 7), none, .mov (.t 1)⟩, ⟨(some 8), none, .bin .lss (.t 7) (.c (.int .i64 1))⟩, ⟨(some 9), none, .mov (.t 8)⟩, ⟨(some 10), (some (9, false)), .mov (.t 1)⟩, ⟨(some 11), (some (9, false)), .bin .gtr (.t 10) (.c (.int .i64 8))⟩, ⟨(some 12), none, .pick (.t 9) (.c (.bool true)) (.t 11)⟩, ⟨(some 13), none, .mov (.t 12)⟩, ⟨(some 14), (some (13, false)), .faddr 0 (.t 2)⟩, ⟨(some 15), (some (13, false)), .load false 1 (.t 14)⟩, ⟨(some 16), (some (13, false)), .bin .lss (.t 15) (.c (.int .i64 1))⟩, ⟨(some 17), none, .pick (.t 13) (.c (.bool true)) (.t 16)⟩, ⟨(some 18), none, .mov (.t 17)⟩, ⟨(some 19), (some (18, false)), .faddr 0 (.t 2)⟩, ⟨(some 20), (some (18, false)), .load false 1 (.t 19)⟩, ⟨(some 21), (some (18, false)), .bin .gtr (.t 20) (.c (.int .i64 65535))⟩, ⟨(some 22), none, .pick (.t 18) (.c (.bool true)) (.t 21)⟩, ⟨(some 23), none, .mov (.t 22)⟩, ⟨(some 24), (some (23, false)), .faddr 1 (.t 2)⟩, ⟨(some 25), (some (23, false)), .load false 1 (.t 24)⟩, ⟨(some 26), (some (23, false)), .bi (.len 1) [(.t 25)]⟩, ⟨(some 27), (some (23, false)), .bin .lss (.t 26) (.c (.int .i64 1))⟩, ⟨(some 28), none, .pick (.t 23) (.c (.bool true)) (.t 27)⟩, ⟨(some 29), none, .mov (.t 28)⟩, ⟨(some 30), (some (29, false)), .faddr 1 (.t 2)⟩, ⟨(some 31), (some (29, false)), .load false 1 (.t 30)⟩, ⟨(some 32), (some (29, false)), .bi (.len 1) [(.t 31)]⟩, ⟨(some 33), (some (29, false)), .bin .gtr (.t 32) (.c (.int .i64 32))⟩, ⟨(some 34), none, .pick (.t 29) (.c (.bool true)) (.t 33)⟩, ⟨(some 35), none, .mov (.t 34)⟩, ⟨(some 36), (some (35, false)), .faddr 2 (.t 2)⟩, ⟨(some 37), (some (35, false)), .load false 1 (.t 36)⟩, ⟨(some 38), (some (35, false)), .bi (.len 1) [(.t 37)]⟩, ⟨(some 39), (some (35, false)), .faddr 1 (.t 2)⟩, ⟨(some 40), (some (35, false)), .load false 1 (.t 39)⟩, ⟨(some 41), (some (35, false)), .bi (.len 1) [(.t 40)]⟩, ⟨(some 42), (some (35, false)), .bin .neq (.t 38) (.t 41)⟩, ⟨(some 43), none, .pick (.t 35) (.c (.bool true)) (.t 42)⟩, ⟨(some 44), none, .mov (.t 43)⟩, ⟨(some 45), (some (44, false)), .faddr 1 (.t 2)⟩, ⟨(some 46), (some (44, false)), .load false 1 (.t 45)⟩, ⟨(some 47), (some (44, false)), .iaddr 1 none (.t 46) (.c (.int .i64 0))⟩, ⟨(some 48), (some (44, false)), .load false 1 (.t 47)⟩, ⟨(some 49), (some (44, false)), .bin .neq (.t 48) (.c (.int .i64 0))⟩, ⟨(some 50), none, .pick (.t 44) (.c (.bool true)) (.t 49)⟩])
 (.cond (.t 50) (.seq (.ops [⟨(some 4), none, .mov (.c (.bool false))⟩])
 .ret) .skip))
 (.seq (.seq (.ops [⟨(some 51), none, .faddr 1 (.t 2)⟩, ⟨(some 52), none, .load false 1 (.t 51)⟩, ⟨(some 53), none, .bi (.len 1) [(.t 52)]⟩, ⟨(some 54), none, .mov (.c (.int .i64 0))⟩])
 (.block 0 (.loop b85_0)))
 (.seq (.ops [⟨(some 4), none, .mov (.c (.bool true))⟩])
 .ret))))⟩
/-- furlong/rec.BaseMay -/
def v86 : VFun := ⟨1, [(.tmp 2)], (.seq (.ops [⟨(some 2), none, .mov (.c (.bool false))⟩])
 (.seq (.ops [⟨(some 3), none, .mov (.t 0)⟩, ⟨(some 4), none, .bin .geq (.t 3) (.c (.int .i64 (-1)))⟩, ⟨(some 5), none, .mov (.t 4)⟩, ⟨(some 6), (some (5, true)), .mov (.t 0)⟩, ⟨(some 7), (some (5, true)), .bin .leq (.t 6) (.c (.int .i64 65535))⟩, ⟨(some 8), none, .pick (.t 5) (.t 7) (.c (.bool false))⟩, ⟨(some 2), none, .mov (.t 8)⟩])
 .ret))⟩
def b87_0 : VCode := (.seq (.ops [⟨(some 21), none, .bin .lss (.t 20) (.t 19)⟩])
 (.seq (.cond (.t 21) .skip (.exit 0))
 (.seq (.block 1 (.seq (.ops [⟨(some 22), none, .mov (.t 20)⟩, ⟨(some 6), none, .mov (.t 22)⟩])
 (.seq (.ops [⟨(some 23), none, .mov (.t 0)⟩, ⟨(some 24), none, .mov (.t 6)⟩, ⟨(some 25), none, .iaddr 8 none (.t 23) (.t 24)⟩, ⟨(some 7), none, .mov (.t 25)⟩])
 (.seq (.seq (.ops [⟨(some 26), none, .mov (.t 7)⟩, ⟨(some 27), none, .mov (.t 1)⟩, ⟨(some 28), none, .call 107 [(.t 26), (.t 27)]⟩, ⟨(some 29), none, .un .not (.t 28)⟩, ⟨(some 30), none, .mov (.t 29)⟩, ⟨(some 31), (some (30, false)), .mov (.t 7)⟩, ⟨(some 32), (some (30, false)), .nilck (.t 31)⟩, ⟨(some 33), (some (30, false)), .faddr 0 (.t 32)⟩, ⟨(some 34), (some (30, false)), .load false 1 (.t 33)⟩, ⟨(some 35), (some (30, false)), .bin .eql (.t 34) (.c (.int .i64 2))⟩, ⟨(some 36), (some (30, false)), .mov (.t 35)⟩, ⟨(some 37), (some (36, true)), .mov (.t 6)⟩, ⟨(some 38), (some (36, true)), .bin .gtr (.t 37) (.c (.int .i64 0))⟩, ⟨(some 39), (some (30, false)), .pick (.t 36) (.t 38) (.c (.bool false))⟩, ⟨(some 40), none, .pick (.t 30) (.c (.bool true)) (.t 39)⟩])
 (.cond (.t 40) (.seq (.ops [⟨(some 4), none, .mov (.c (.bool false))⟩])
 .ret) .skip))
 (.seq (.ops [⟨(some 41), none, .mov (.t 7)⟩, ⟨(some 42), none, .call 108 [(.t 41)]⟩, ⟨(some 8), none, .mov (.t 42)⟩])
 (.seq (.ops [⟨(some 43), none, .mov (.t 8)⟩, ⟨(some 44), none, .bin .gtr (.t 43) (.c (.int .i64 0))⟩])
 (.cond (.t 44) (.seq (.seq (.ops [⟨(some 45), none, .mov (.t 5)⟩, ⟨(some 46), none, .mov (.t 8)⟩, ⟨(some 47), none, .lookup .int (.bool false) false (.t 45) (.t 46)⟩])
 (.cond (.t 47) (.seq (.ops [⟨(some 4), none, .mov (.c (.bool false))⟩])
 .ret) .skip))
 (.ops [⟨(some 48), none, .mov (.t 5)⟩, ⟨(some 49), none, .mov (.t 8)⟩, ⟨none, none, .mupd .int (.t 48) (.t 49) (.c (.bool true))⟩])) .skip)))))))
 (.ops [⟨(some 50), none, .bin .add (.t 20) (.c (.int .i64 1))⟩, ⟨(some 20), none, .mov (.t 50)⟩]))))
/-- furlong/rec.OpsMay -/
def v87 : VFun := ⟨2, [(.tmp 4)], (.seq (.ops [⟨(some 4), none, .mov (.c (.bool false))⟩])
 (.seq (.seq (.ops [⟨(some 9), none, .mov (.t 0)⟩, ⟨(some 10), none, .bi (.len 1) [(.t 9)]⟩, ⟨(some 11), none, .bin .lss (.t 10) (.c (.int .i64 1))⟩, ⟨(some 12), none, .mov (.t 11)⟩, ⟨(some 13), (some (12, false)), .mov (.t 0)⟩, ⟨(some 14), (some (12, false)), .bi (.len 1) [(.t 13)]⟩, ⟨(some 15), (some (12, false)), .bin .gtr (.t 14) (.c (.int .i64 32))⟩, ⟨(some 16), none, .pick (.t 12) (.c (.bool true)) (.t 15)⟩])
 (.cond (.t 16) (.seq (.ops [⟨(some 4), none, .mov (.c (.bool false))⟩])
 .ret) .skip))
 (.seq (.ops [⟨(some 17), none, .mkmap⟩, ⟨(some 5), none, .mov (.t 17)⟩])
 (.seq (.seq (.ops [⟨(some 18), none, .mov (.t 0)⟩, ⟨(some 19), none, .bi (.len 1) [(.t 18)]⟩, ⟨(some 20), none, .mov (.c (.int .i64 0))⟩])
 (.block 0 (.loop b87_0)))
 (.seq (.ops [⟨(some 4), none, .mov (.c (.bool true))⟩])
 .ret)))))⟩
/-- furlong/rec.noMap -/
def v88 : VFun := ⟨1, [(.tmp 2)], (.seq (.ops [⟨(some 2), none, .mov (.c (.bool false))⟩])
 (.seq (.ops [⟨(some 3), none, .mov (.t 0)⟩, ⟨(some 4), none, .nilck (.t 3)⟩, ⟨(some 5), none, .faddr 0 (.t 4)⟩, ⟨(some 6), none, .load false 1 (.t 5)⟩, ⟨(some 7), none, .bin .eql (.t 6) (.c (.int .i64 0))⟩, ⟨(some 8), none, .mov (.t 7)⟩, ⟨(some 9), (some (8, true)), .mov (.t 0)⟩, ⟨(some 10), (some (8, true)), .nilck (.t 9)⟩, ⟨(some 11), (some (8, true)), .faddr 1 (.t 10)⟩, ⟨(some 12), (some (8, true)), .load false 1 (.t 11)⟩, ⟨(some 13), (some (8, true)), .bi (.len 1) [(.t 12)]⟩, ⟨(some 14), (some (8, true)), .bin .eql (.t 13) (.c (.int .i64 0))⟩, ⟨(some 15), none, .pick (.t 8) (.t 14) (.c (.bool false))⟩, ⟨(some 16), none, .mov (.t 15)⟩, ⟨(some 17), (some (16, true)), .mov (.t 0)⟩, ⟨(some 18), (some (16, true)), .nilck (.t 17)⟩, ⟨(some 19), (some (16, true)), .faddr 2 (.t 18)⟩, ⟨(some 20), (some (16, true)), .load false 1 (.t 19)⟩, ⟨(some 21), (some (16, true)), .bi (.len 1) [(.t 20)]⟩, ⟨(some 22), (some (16, true)), .bin .eql (.t 21) (.c (.int .i64 0))⟩, ⟨(some 23), none, .pick (.t 16) (.t 22) (.c (.bool false))⟩, ⟨(some 2), none, .mov (.t 23)⟩])
 .ret))⟩
def b89_0 : VCode := (.seq (.ops [⟨(some 12), none, .bin .lss (.t 11) (.t 10)⟩])
 (.seq (.cond (.t 12) .skip (.exit 0))
 (.seq (.block 1 (.seq (.ops [⟨(some 13), none, .mov (.t 11)⟩, ⟨(some 6), none, .mov (.t 13)⟩])
 (.ops [⟨(some 14), none, .mov (.t 5)⟩, ⟨(some 15), none, .mov (.t 6)⟩, ⟨(some 16), none, .mov (.t 0)⟩, ⟨(some 17), none, .mov (.t 1)⟩, ⟨(some 18), none, .bin .sub (.t 17) (.c (.int .i64 1))⟩, ⟨(some 19), none, .mov (.t 6)⟩, ⟨(some 20), none, .bin .sub (.t 18) (.t 19)⟩, ⟨(some 21), none, .bin .mul (.c (.int .i64 8)) (.t 20)⟩, ⟨(some 22), none, .bin .shr (.t 16) (.t 21)⟩, ⟨(some 23), none, .conv (.int .u8) (.t 22)⟩, ⟨(some 24), none, .iaddr 1 none (.t 14) (.t 15)⟩, ⟨none, none, .store 1 (.t 24) (.t 23)⟩])))
 (.ops [⟨(some 25), none, .bin .add (.t 11) (.c (.int .i64 1))⟩, ⟨(some 11), none, .mov (.t 25)⟩]))))
/-- furlong/frame.Num -/
def v89 : VFun := ⟨2, [(.tmp 4)], (.seq (.ops [⟨(some 4), none, .mov (.c (.str []))⟩])
 (.seq (.ops [⟨(some 7), none, .mov (.t 1)⟩, ⟨(some 8), none, .mkslice [(.int .u8 0)] 5 1 (.t 7) (.t 7)⟩, ⟨(some 5), none, .mov (.t 8)⟩])
 (.seq (.seq (.ops [⟨(some 9), none, .mov (.t 5)⟩, ⟨(some 10), none, .bi (.len 1) [(.t 9)]⟩, ⟨(some 11), none, .mov (.c (.int .i64 0))⟩])
 (.block 0 (.loop b89_0)))
 (.seq (.ops [⟨(some 26), none, .mov (.t 5)⟩, ⟨(some 27), none, .conv .text (.t 26)⟩, ⟨(some 4), none, .mov (.t 27)⟩])
 .ret))))⟩
def b90_0 : VCode := (.seq (.seq (.ops [⟨(some 50), none, .mov (.t 5)⟩, ⟨(some 51), none, .faddr 1 (.t 2)⟩, ⟨(some 52), none, .load false 1 (.t 51)⟩, ⟨(some 53), none, .bi (.len 1) [(.t 52)]⟩, ⟨(some 54), none, .bin .lss (.t 50) (.t 53)⟩])
 (.cond (.t 54) .skip (.exit 0)))
 (.seq (.block 1 (.seq (.drawn [⟨(some 57), none, .faddr 1 (.t 2)⟩, ⟨(some 58), none, .load false 1 (.t 57)⟩, ⟨(some 59), none, .mov (.t 5)⟩, ⟨(some 60), none, .iaddr 1 none (.t 58) (.t 59)⟩, ⟨(some 61), none, .load false 1 (.t 60)⟩, ⟨(some 62), none, .bin .geq (.t 61) (.c (.int .i64 4294967296))⟩, ⟨(some 63), none, .mov (.t 62)⟩, ⟨(some 64), (some (63, false)), .faddr 2 (.t 2)⟩, ⟨(some 65), (some (63, false)), .load false 1 (.t 64)⟩, ⟨(some 66), (some (63, false)), .mov (.t 5)⟩, ⟨(some 67), (some (63, false)), .iaddr 1 none (.t 65) (.t 66)⟩, ⟨(some 68), (some (63, false)), .load false 1 (.t 67)⟩, ⟨(some 69), (some (63, false)), .bin .lss (.t 68) (.c (.int .i64 0))⟩, ⟨(some 70), none, .pick (.t 63) (.c (.bool true)) (.t 69)⟩, ⟨(some 71), none, .mov (.t 70)⟩, ⟨(some 72), (some (71, false)), .faddr 2 (.t 2)⟩, ⟨(some 73), (some (71, false)), .load false 1 (.t 72)⟩, ⟨(some 74), (some (71, false)), .mov (.t 5)⟩, ⟨(some 75), (some (71, false)), .iaddr 1 none (.t 73) (.t 74)⟩, ⟨(some 76), (some (71, false)), .load false 1 (.t 75)⟩, ⟨(some 77), (some (71, false)), .mov (.t 1)⟩, ⟨(some 78), (some (71, false)), .bin .geq (.t 76) (.t 77)⟩, ⟨(some 79), none, .pick (.t 71) (.c (.bool true)) (.t 78)⟩, ⟨(some 80), none, .mov (.t 79)⟩, ⟨(some 81), (some (80, false)), .mov (.t 5)⟩, ⟨(some 82), (some (80, false)), .bin .gtr (.t 81) (.c (.int .i64 0))⟩, ⟨(some 83), (some (80, false)), .mov (.t 82)⟩, ⟨(some 84), (some (83, true)), .faddr 1 (.t 2)⟩, ⟨(some 85), (some (83, true)), .load false 1 (.t 84)⟩, ⟨(some 86), (some (83, true)), .mov (.t 5)⟩, ⟨(some 87), (some (83, true)), .bin .sub (.t 86) (.c (.int .i64 1))⟩, ⟨(some 88), (some (83, true)), .iaddr 1 none (.t 85) (.t 87)⟩, ⟨(some 89), (some (83, true)), .load false 1 (.t 88)⟩, ⟨(some 90), (some (83, true)), .faddr 1 (.t 2)⟩, ⟨(some 91), (some (83, true)), .load false 1 (.t 90)⟩, ⟨(some 92), (some (83, true)), .mov (.t 5)⟩, ⟨(some 93), (some (83, true)), .iaddr 1 none (.t 91) (.t 92)⟩, ⟨(some 94), (some (83, true)), .load false 1 (.t 93)⟩, ⟨(some 95), (some (83, true)), .bin .geq (.t 89) (.t 94)⟩, ⟨(some 96), (some (80, false)), .pick (.t 83) (.t 95) (.c (.bool false))⟩, ⟨(some 97), none, .pick (.t 80) (.c (.bool true)) (.t 96)⟩] [])
 (.cond (.t 97) (.seq (.ops [⟨(some 4), none, .mov (.c (.bool false))⟩])
 .ret) .skip)))
 (.ops [⟨(some 55), none, .mov (.t 5)⟩, ⟨(some 56), none, .bin .add (.t 55) (.c (.int .i64 1))⟩, ⟨(some 5), none, .mov (.t 56)⟩])))
/-- furlong/furlongref1.MapMay -/
def v90 : VFun := ⟨2, [(.tmp 4)], (.seq (.ops [⟨(some 2), none, .box 26 (.t 0)⟩, ⟨(some 4), none, .mov (.c (.bool false))⟩])
 (.seq (.seq (.ops [⟨(some 6), none, .mov (.t 1)⟩, ⟨(some 7), none, .bin .lss (.t 6) (.c (.int .i64 1))⟩, ⟨(some 8), none, .mov (.t 7)⟩, ⟨(some 9), (some (8, false)), .mov (.t 1)⟩, ⟨(some 10), (some (8, false)), .bin .gtr (.t 9) (.c (.int .i64 8))⟩, ⟨(some 11), none, .pick (.t 8) (.c (.bool true)) (.t 10)⟩, ⟨(some 12), none, .mov (.t 11)⟩, ⟨(some 13), (some (12, false)), .faddr 0 (.t 2)⟩, ⟨(some 14), (some (12, false)), .load false 1 (.t 13)⟩, ⟨(some 15), (some (12, false)), .bin .lss (.t 14) (.c (.int .i64 1))⟩, ⟨(some 16), none, .pick (.t 12) (.c (.bool true)) (.t 15)⟩, ⟨(some 17), none, .mov (.t 16)⟩, ⟨(some 18), (some (17, false)), .faddr 0 (.t 2)⟩, ⟨(some 19), (some (17, false)), .load false 1 (.t 18)⟩, ⟨(some 20), (some (17, false)), .bin .gtr (.t 19) (.c (.int .i64 65535))⟩, ⟨(some 21), none, .pick (.t 17) (.c (.bool true)) (.t 20)⟩, ⟨(some 22), none, .mov (.t 21)⟩, ⟨(some 23), (some (22, false)), .faddr 1 (.t 2)⟩, ⟨(some 24), (some (22, false)), .load false 1 (.t 23)⟩, ⟨(some 25), (some (22, false)), .bi (.len 1) [(.t 24)]⟩, ⟨(some 26), (some (22, false)), .bin .lss (.t 25) (.c (.int .i64 1))⟩, ⟨(some 27), none, .pick (.t 22) (.c (.bool true)) (.t 26)⟩, ⟨(some 28), none, .mov (.t 27)⟩, ⟨(some 29), (some (28, false)), .faddr 1 (.t 2)⟩, ⟨(some 30), (some (28, false)), .load false 1 (.t 29)⟩, ⟨(some 31), (some (28, false)), .bi (.len 1) [(.t 30)]⟩, ⟨(some 32), (some (28, false)), .bin .gtr (.t 31) (.c (.int .i64 32))⟩, ⟨(some 33), none, .pick (.t 28) (.c (.bool true)) (.t 32)⟩, ⟨(some 34), none, .mov (.t 33)⟩, ⟨(some 35), (some (34, false)), .faddr 2 (.t 2)⟩, ⟨(some 36), (some (34, false)), .load false 1 (.t 35)⟩, ⟨(some 37), (some (34, false)), .bi (.len 1) [(.t 36)]⟩, ⟨(some 38), (some (34, false)), .faddr 1 (.t 2)⟩, ⟨(some 39), (some (34, false)), .load false 1 (.t 38)⟩, ⟨(some 40), (some (34, false)), .bi (.len 1) [(.t 39)]⟩, ⟨(some 41), (some (34, false)), .bin .neq (.t 37) (.t 40)⟩, ⟨(some 42), none, .pick (.t 34) (.c (.bool true)) (.t 41)⟩, ⟨(some 43), none, .mov (.t 42)⟩, ⟨(some 44), (some (43, false)), .faddr 1 (.t 2)⟩, ⟨(some 45), (some (43, false)), .load false 1 (.t 44)⟩, ⟨(some 46), (some (43, false)), .iaddr 1 none (.t 45) (.c (.int .i64 0))⟩, ⟨(some 47), (some (43, false)), .load false 1 (.t 46)⟩, ⟨(some 48), (some (43, false)), .bin .neq (.t 47) (.c (.int .i64 0))⟩, ⟨(some 49), none, .pick (.t 43) (.c (.bool true)) (.t 48)⟩])
 (.cond (.t 49) (.seq (.ops [⟨(some 4), none, .mov (.c (.bool false))⟩])
 .ret) .skip))
 (.seq (.seq (.ops [⟨(some 5), none, .mov (.c (.int .i64 0))⟩])
 (.block 0 (.loop b90_0)))
 (.seq (.ops [⟨(some 4), none, .mov (.c (.bool true))⟩])
 .ret))))⟩
/-- furlong/furlongref8.TxMay -/
def v91 : VFun := ⟨1, [(.tmp 2)], (.seq (.ops [⟨(some 1), none, .box 23 (.t 0)⟩, ⟨(some 2), none, .mov (.c (.bool false))⟩])
 (.seq (.ops [⟨(some 3), none, .faddr 0 (.t 1)⟩, ⟨(some 4), none, .load false 1 (.t 3)⟩, ⟨(some 5), none, .bin .geq (.t 4) (.c (.int .i64 0))⟩, ⟨(some 6), none, .mov (.t 5)⟩, ⟨(some 7), (some (6, true)), .faddr 0 (.t 1)⟩, ⟨(some 8), (some (6, true)), .load false 1 (.t 7)⟩, ⟨(some 9), (some (6, true)), .bin .lss (.t 8) (.c (.int .i64 8))⟩, ⟨(some 10), none, .pick (.t 6) (.t 9) (.c (.bool false))⟩, ⟨(some 11), none, .mov (.t 10)⟩, ⟨(some 12), (some (11, true)), .faddr 1 (.t 1)⟩, ⟨(some 13), (some (11, true)), .load false 1 (.t 12)⟩, ⟨(some 14), (some (11, true)), .bin .geq (.t 13) (.c (.int .i64 1))⟩, ⟨(some 15), none, .pick (.t 11) (.t 14) (.c (.bool false))⟩, ⟨(some 16), none, .mov (.t 15)⟩, ⟨(some 17), (some (16, true)), .faddr 1 (.t 1)⟩, ⟨(some 18), (some (16, true)), .load false 1 (.t 17)⟩, ⟨(some 19), (some (16, true)), .bin .leq (.t 18) (.c (.int .i64 65535))⟩, ⟨(some 20), none, .pick (.t 16) (.t 19) (.c (.bool false))⟩, ⟨(some 2), none, .mov (.t 20)⟩])
 .ret))⟩
/-- furlong/furlongref8.zeroMap -/
def v92 : VFun := ⟨1, [(.tmp 2)], (.seq (.ops [⟨(some 1), none, .box 26 (.t 0)⟩, ⟨(some 2), none, .mov (.c (.bool false))⟩])
 (.seq (.ops [⟨(some 3), none, .faddr 0 (.t 1)⟩, ⟨(some 4), none, .load false 1 (.t 3)⟩, ⟨(some 5), none, .bin .eql (.t 4) (.c (.int .i64 0))⟩, ⟨(some 6), none, .mov (.t 5)⟩, ⟨(some 7), (some (6, true)), .faddr 1 (.t 1)⟩, ⟨(some 8), (some (6, true)), .load false 1 (.t 7)⟩, ⟨(some 9), (some (6, true)), .bi (.len 1) [(.t 8)]⟩, ⟨(some 10), (some (6, true)), .bin .eql (.t 9) (.c (.int .i64 0))⟩, ⟨(some 11), none, .pick (.t 6) (.t 10) (.c (.bool false))⟩, ⟨(some 12), none, .mov (.t 11)⟩, ⟨(some 13), (some (12, true)), .faddr 2 (.t 1)⟩, ⟨(some 14), (some (12, true)), .load false 1 (.t 13)⟩, ⟨(some 15), (some (12, true)), .bi (.len 1) [(.t 14)]⟩, ⟨(some 16), (some (12, true)), .bin .eql (.t 15) (.c (.int .i64 0))⟩, ⟨(some 17), none, .pick (.t 12) (.t 16) (.c (.bool false))⟩, ⟨(some 2), none, .mov (.t 17)⟩])
 .ret))⟩
/-- furlong/furlongref8.BaseMay -/
def v93 : VFun := ⟨1, [(.tmp 2)], (.seq (.ops [⟨(some 2), none, .mov (.c (.bool false))⟩])
 (.seq (.ops [⟨(some 3), none, .mov (.t 0)⟩, ⟨(some 4), none, .bin .geq (.t 3) (.c (.int .i64 (-1)))⟩, ⟨(some 5), none, .mov (.t 4)⟩, ⟨(some 6), (some (5, true)), .mov (.t 0)⟩, ⟨(some 7), (some (5, true)), .bin .leq (.t 6) (.c (.int .i64 65535))⟩, ⟨(some 8), none, .pick (.t 5) (.t 7) (.c (.bool false))⟩, ⟨(some 2), none, .mov (.t 8)⟩])
 .ret))⟩
def b94_0 : VCode := (.seq (.seq (.ops [⟨(some 37), none, .mov (.t 4)⟩, ⟨(some 38), none, .mov (.t 3)⟩, ⟨(some 39), none, .bin .lss (.t 37) (.t 38)⟩])
 (.cond (.t 39) .skip (.exit 2)))
 (.seq (.block 3 (.seq (.drawn [⟨(some 42), none, .mov (.t 0)⟩, ⟨(some 43), none, .mov (.t 3)⟩, ⟨(some 44), none, .iaddr 8 none (.t 42) (.t 43)⟩, ⟨(some 45), none, .load true 8 (.t 44)⟩, ⟨(some 46), none, .call 110 [(.t 45)]⟩, ⟨(some 47), none, .bin .gtr (.t 46) (.c (.int .i64 0))⟩, ⟨(some 48), none, .mov (.t 47)⟩, ⟨(some 49), (some (48, true)), .mov (.t 0)⟩, ⟨(some 50), (some (48, true)), .mov (.t 4)⟩, ⟨(some 51), (some (48, true)), .iaddr 8 none (.t 49) (.t 50)⟩, ⟨(some 52), (some (48, true)), .load true 8 (.t 51)⟩, ⟨(some 53), (some (48, true)), .call 110 [(.t 52)]⟩, ⟨(some 54), (some (48, true)), .mov (.t 0)⟩, ⟨(some 55), (some (48, true)), .mov (.t 3)⟩, ⟨(some 56), (some (48, true)), .iaddr 8 none (.t 54) (.t 55)⟩, ⟨(some 57), (some (48, true)), .load true 8 (.t 56)⟩, ⟨(some 58), (some (48, true)), .call 110 [(.t 57)]⟩, ⟨(some 59), (some (48, true)), .bin .eql (.t 53) (.t 58)⟩, ⟨(some 60), none, .pick (.t 48) (.t 59) (.c (.bool false))⟩] [(15, [5])])
 (.cond (.t 60) (.seq (.ops [⟨(some 2), none, .mov (.c (.bool false))⟩])
 .ret) .skip)))
 (.ops [⟨(some 40), none, .mov (.t 4)⟩, ⟨(some 41), none, .bin .add (.t 40) (.c (.int .i64 1))⟩, ⟨(some 4), none, .mov (.t 41)⟩])))
def b94_1 : VCode := (.seq (.seq (.ops [⟨(some 13), none, .mov (.t 3)⟩, ⟨(some 14), none, .mov (.t 0)⟩, ⟨(some 15), none, .bi (.len 1) [(.t 14)]⟩, ⟨(some 16), none, .bin .lss (.t 13) (.t 15)⟩])
 (.cond (.t 16) .skip (.exit 0)))
 (.seq (.block 1 (.seq (.seq (.ops [⟨(some 19), none, .mov (.t 0)⟩, ⟨(some 20), none, .mov (.t 3)⟩, ⟨(some 21), none, .iaddr 8 none (.t 19) (.t 20)⟩, ⟨(some 22), none, .load true 8 (.t 21)⟩, ⟨(some 23), none, .call 109 [(.t 22)]⟩, ⟨(some 24), none, .un .not (.t 23)⟩, ⟨(some 25), none, .mov (.t 24)⟩, ⟨(some 26), (some (25, false)), .mov (.t 0)⟩, ⟨(some 27), (some (25, false)), .mov (.t 3)⟩, ⟨(some 28), (some (25, false)), .iaddr 8 none (.t 26) (.t 27)⟩, ⟨(some 29), (some (25, false)), .faddr 0 (.t 28)⟩, ⟨(some 30), (some (25, false)), .load false 1 (.t 29)⟩, ⟨(some 31), (some (25, false)), .bin .eql (.t 30) (.c (.int .i64 2))⟩, ⟨(some 32), (some (25, false)), .mov (.t 31)⟩, ⟨(some 33), (some (32, true)), .mov (.t 3)⟩, ⟨(some 34), (some (32, true)), .bin .gtr (.t 33) (.c (.int .i64 0))⟩, ⟨(some 35), (some (25, false)), .pick (.t 32) (.t 34) (.c (.bool false))⟩, ⟨(some 36), none, .pick (.t 25) (.c (.bool true)) (.t 35)⟩])
 (.cond (.t 36) (.seq (.ops [⟨(some 2), none, .mov (.c (.bool false))⟩])
 .ret) .skip))
 (.seq (.ops [⟨(some 4), none, .mov (.c (.int .i64 0))⟩])
 (.block 2 (.loop b94_0)))))
 (.ops [⟨(some 17), none, .mov (.t 3)⟩, ⟨(some 18), none, .bin .add (.t 17) (.c (.int .i64 1))⟩, ⟨(some 3), none, .mov (.t 18)⟩])))
/-- furlong/furlongref8.OpsMay -/
def v94 : VFun := ⟨1, [(.tmp 2)], (.seq (.ops [⟨(some 2), none, .mov (.c (.bool false))⟩])
 (.seq (.seq (.ops [⟨(some 5), none, .mov (.t 0)⟩, ⟨(some 6), none, .bi (.len 1) [(.t 5)]⟩, ⟨(some 7), none, .bin .lss (.t 6) (.c (.int .i64 1))⟩, ⟨(some 8), none, .mov (.t 7)⟩, ⟨(some 9), (some (8, false)), .mov (.t 0)⟩, ⟨(some 10), (some (8, false)), .bi (.len 1) [(.t 9)]⟩, ⟨(some 11), (some (8, false)), .bin .gtr (.t 10) (.c (.int .i64 32))⟩, ⟨(some 12), none, .pick (.t 8) (.c (.bool true)) (.t 11)⟩])
 (.cond (.t 12) (.seq (.ops [⟨(some 2), none, .mov (.c (.bool false))⟩])
 .ret) .skip))
 (.seq (.seq (.ops [⟨(some 3), none, .mov (.c (.int .i64 0))⟩])
 (.block 0 (.loop b94_1)))
 (.seq (.ops [⟨(some 2), none, .mov (.c (.bool true))⟩])
 .ret))))⟩
def b95_0 : VCode := (.seq (.ops [⟨(some 18), none, .bin .lss (.t 17) (.t 16)⟩])
 (.seq (.cond (.t 18) .skip (.exit 2))
 (.seq (.block 3 (.seq (.ops [⟨(some 19), none, .mov (.t 0)⟩, ⟨(some 20), none, .call 57 [(.t 19), (.c (.int .i64 4))]⟩, ⟨(some 5), none, .mov (.t 20)⟩])
 (.ops [⟨(some 21), none, .mov (.t 4)⟩, ⟨(some 22), none, .mov (.t 5)⟩, ⟨(some 23), none, .mov (.t 0)⟩, ⟨(some 24), none, .call 57 [(.t 23), (.c (.int .i64 4))]⟩, ⟨(some 25), none, .build [(.int .i64 0), (.int .i64 0)] [(0, 1, (.t 22)), (1, 1, (.t 24))]⟩, ⟨(some 26), none, .bslice [(.int .i64 0), (.int .i64 0)] 48 1 [(0, 2, (.t 25))]⟩, ⟨(some 27), none, .bi (.append 2 16 48) [(.t 21), (.t 26)]⟩, ⟨(some 4), none, .mov (.t 27)⟩])))
 (.ops [⟨(some 28), none, .bin .add (.t 17) (.c (.int .i64 1))⟩, ⟨(some 17), none, .mov (.t 28)⟩]))))
def b95_1 : VCode := (.seq (.ops [⟨(some 14), none, .bin .lss (.t 13) (.t 12)⟩])
 (.seq (.cond (.t 14) .skip (.exit 0))
 (.seq (.block 1 (.seq (.ops [⟨(some 4), none, .mov (.c .nils)⟩])
 (.seq (.seq (.ops [⟨(some 15), none, .mov (.t 0)⟩, ⟨(some 16), none, .call 57 [(.t 15), (.c (.int .i64 1))]⟩, ⟨(some 17), none, .mov (.c (.int .i64 0))⟩])
 (.block 2 (.loop b95_0)))
 (.ops [⟨(some 29), none, .faddr 2 (.t 3)⟩, ⟨(some 30), none, .load false 1 (.t 29)⟩, ⟨(some 31), none, .mov (.t 4)⟩, ⟨(some 32), none, .bslice [.nils] 49 1 [(0, 1, (.t 31))]⟩, ⟨(some 33), none, .bi (.append 1 24 49) [(.t 30), (.t 32)]⟩, ⟨(some 34), none, .faddr 2 (.t 3)⟩, ⟨none, none, .store 1 (.t 34) (.t 33)⟩]))))
 (.ops [⟨(some 35), none, .bin .add (.t 13) (.c (.int .i64 1))⟩, ⟨(some 13), none, .mov (.t 35)⟩]))))
/-- (*furlong/rec.Reader).Feature -/
def v95 : VFun := ⟨1, [(.cell 2 true 3)], (.seq (.ops [⟨(some 2), none, .alloc [(.int .i64 0), (.int .i64 0), .nils] 52⟩])
 (.seq (.ops [⟨(some 6), none, .mov (.t 0)⟩, ⟨(some 7), none, .call 57 [(.t 6), (.c (.int .i64 2))]⟩, ⟨(some 8), none, .mov (.t 0)⟩, ⟨(some 9), none, .call 57 [(.t 8), (.c (.int .i64 1))]⟩, ⟨(some 10), none, .build [(.int .i64 0), (.int .i64 0), .nils] [(0, 1, (.t 7)), (1, 1, (.t 9))]⟩, ⟨(some 3), none, .alloc [(.int .i64 0), (.int .i64 0), .nils] 52⟩, ⟨none, none, .store 3 (.t 3) (.t 10)⟩])
 (.seq (.seq (.ops [⟨(some 11), none, .mov (.t 0)⟩, ⟨(some 12), none, .call 57 [(.t 11), (.c (.int .i64 1))]⟩, ⟨(some 13), none, .mov (.c (.int .i64 0))⟩])
 (.block 0 (.loop b95_1)))
 (.seq (.ops [⟨(some 36), none, .load true 3 (.t 3)⟩, ⟨none, none, .store 3 (.t 2) (.t 36)⟩])
 .ret))))⟩
def b96_0 : VCode := (.seq (.seq (.ops [⟨(some 11), none, .mov (.t 5)⟩, ⟨(some 12), none, .mov (.t 0)⟩, ⟨(some 13), none, .bi (.len 1) [(.t 12)]⟩, ⟨(some 14), none, .bin .lss (.t 11) (.t 13)⟩])
 (.cond (.t 14) .skip (.exit 0)))
 (.seq (.block 1 (.seq (.drawn [⟨(some 17), none, .mov (.t 0)⟩, ⟨(some 18), none, .mov (.t 5)⟩, ⟨(some 19), none, .iaddr 1 none (.t 17) (.t 18)⟩, ⟨(some 20), none, .load false 1 (.t 19)⟩, ⟨(some 21), none, .mov (.t 1)⟩, ⟨(some 22), none, .mov (.t 5)⟩, ⟨(some 23), none, .iaddr 1 none (.t 21) (.t 22)⟩, ⟨(some 24), none, .load false 1 (.t 23)⟩, ⟨(some 25), none, .bin .neq (.t 20) (.t 24)⟩] [])
 (.cond (.t 25) (.seq (.ops [⟨(some 4), none, .mov (.c (.bool false))⟩])
 .ret) .skip)))
 (.ops [⟨(some 15), none, .mov (.t 5)⟩, ⟨(some 16), none, .bin .add (.t 15) (.c (.int .i64 1))⟩, ⟨(some 5), none, .mov (.t 16)⟩])))
/-- furlong/furlonglaw0.SameInts -/
def v96 : VFun := ⟨2, [(.tmp 4)], (.seq (.ops [⟨(some 4), none, .mov (.c (.bool false))⟩])
 (.seq (.seq (.ops [⟨(some 6), none, .mov (.t 0)⟩, ⟨(some 7), none, .bi (.len 1) [(.t 6)]⟩, ⟨(some 8), none, .mov (.t 1)⟩, ⟨(some 9), none, .bi (.len 1) [(.t 8)]⟩, ⟨(some 10), none, .bin .neq (.t 7) (.t 9)⟩])
 (.cond (.t 10) (.seq (.ops [⟨(some 4), none, .mov (.c (.bool false))⟩])
 .ret) .skip))
 (.seq (.seq (.ops [⟨(some 5), none, .mov (.c (.int .i64 0))⟩])
 (.block 0 (.loop b96_0)))
 (.seq (.ops [⟨(some 4), none, .mov (.c (.bool true))⟩])
 .ret))))⟩
def b97_0 : VCode := (.seq (.seq (.ops [⟨(some 48), none, .mov (.t 6)⟩, ⟨(some 49), none, .faddr 2 (.t 2)⟩, ⟨(some 50), none, .load false 1 (.t 49)⟩, ⟨(some 51), none, .mov (.t 5)⟩, ⟨(some 52), none, .iaddr 1 none (.t 50) (.t 51)⟩, ⟨(some 53), none, .load false 1 (.t 52)⟩, ⟨(some 54), none, .bi (.len 1) [(.t 53)]⟩, ⟨(some 55), none, .bin .lss (.t 48) (.t 54)⟩])
 (.cond (.t 55) .skip (.exit 2)))
 (.seq (.block 3 (.seq (.drawn [⟨(some 58), none, .faddr 2 (.t 2)⟩, ⟨(some 59), none, .load false 1 (.t 58)⟩, ⟨(some 60), none, .mov (.t 5)⟩, ⟨(some 61), none, .iaddr 1 none (.t 59) (.t 60)⟩, ⟨(some 62), none, .load false 1 (.t 61)⟩, ⟨(some 63), none, .mov (.t 6)⟩, ⟨(some 64), none, .iaddr 2 none (.t 62) (.t 63)⟩, ⟨(some 65), none, .load true 2 (.t 64)⟩, ⟨(some 66), none, .faddr 2 (.t 3)⟩, ⟨(some 67), none, .load false 1 (.t 66)⟩, ⟨(some 68), none, .mov (.t 5)⟩, ⟨(some 69), none, .iaddr 1 none (.t 67) (.t 68)⟩, ⟨(some 70), none, .load false 1 (.t 69)⟩, ⟨(some 71), none, .mov (.t 6)⟩, ⟨(some 72), none, .iaddr 2 none (.t 70) (.t 71)⟩, ⟨(some 73), none, .load true 2 (.t 72)⟩, ⟨(some 74), none, .eqs (.flat [.int, .int]) true (.t 65) (.t 73)⟩] [])
 (.cond (.t 74) (.seq (.ops [⟨(some 4), none, .mov (.c (.bool false))⟩])
 .ret) .skip)))
 (.ops [⟨(some 56), none, .mov (.t 6)⟩, ⟨(some 57), none, .bin .add (.t 56) (.c (.int .i64 1))⟩, ⟨(some 6), none, .mov (.t 57)⟩])))
def b97_1 : VCode := (.seq (.seq (.ops [⟨(some 28), none, .mov (.t 5)⟩, ⟨(some 29), none, .faddr 2 (.t 2)⟩, ⟨(some 30), none, .load false 1 (.t 29)⟩, ⟨(some 31), none, .bi (.len 1) [(.t 30)]⟩, ⟨(some 32), none, .bin .lss (.t 28) (.t 31)⟩])
 (.cond (.t 32) .skip (.exit 0)))
 (.seq (.block 1 (.seq (.seq (.drawn [⟨(some 35), none, .faddr 2 (.t 2)⟩, ⟨(some 36), none, .load false 1 (.t 35)⟩, ⟨(some 37), none, .mov (.t 5)⟩, ⟨(some 38), none, .iaddr 1 none (.t 36) (.t 37)⟩, ⟨(some 39), none, .load false 1 (.t 38)⟩, ⟨(some 40), none, .bi (.len 1) [(.t 39)]⟩, ⟨(some 41), none, .faddr 2 (.t 3)⟩, ⟨(some 42), none, .load false 1 (.t 41)⟩, ⟨(some 43), none, .mov (.t 5)⟩, ⟨(some 44), none, .iaddr 1 none (.t 42) (.t 43)⟩, ⟨(some 45), none, .load false 1 (.t 44)⟩, ⟨(some 46), none, .bi (.len 1) [(.t 45)]⟩, ⟨(some 47), none, .bin .neq (.t 40) (.t 46)⟩] [])
 (.cond (.t 47) (.seq (.ops [⟨(some 4), none, .mov (.c (.bool false))⟩])
 .ret) .skip))
 (.seq (.ops [⟨(some 6), none, .mov (.c (.int .i64 0))⟩])
 (.block 2 (.loop b97_0)))))
 (.ops [⟨(some 33), none, .mov (.t 5)⟩, ⟨(some 34), none, .bin .add (.t 33) (.c (.int .i64 1))⟩, ⟨(some 5), none, .mov (.t 34)⟩])))
/-- furlong/furlonglaw0.SameFeature -/
def v97 : VFun := ⟨2, [(.tmp 4)], (.seq (.ops [⟨(some 2), none, .box 52 (.t 0)⟩, ⟨(some 3), none, .box 52 (.t 1)⟩, ⟨(some 4), none, .mov (.c (.bool false))⟩])
 (.seq (.seq (.ops [⟨(some 7), none, .faddr 0 (.t 2)⟩, ⟨(some 8), none, .load false 1 (.t 7)⟩, ⟨(some 9), none, .faddr 0 (.t 3)⟩, ⟨(some 10), none, .load false 1 (.t 9)⟩, ⟨(some 11), none, .bin .neq (.t 8) (.t 10)⟩, ⟨(some 12), none, .mov (.t 11)⟩, ⟨(some 13), (some (12, false)), .faddr 1 (.t 2)⟩, ⟨(some 14), (some (12, false)), .load false 1 (.t 13)⟩, ⟨(some 15), (some (12, false)), .faddr 1 (.t 3)⟩, ⟨(some 16), (some (12, false)), .load false 1 (.t 15)⟩, ⟨(some 17), (some (12, false)), .bin .neq (.t 14) (.t 16)⟩, ⟨(some 18), none, .pick (.t 12) (.c (.bool true)) (.t 17)⟩, ⟨(some 19), none, .mov (.t 18)⟩, ⟨(some 20), (some (19, false)), .faddr 2 (.t 2)⟩, ⟨(some 21), (some (19, false)), .load false 1 (.t 20)⟩, ⟨(some 22), (some (19, false)), .bi (.len 1) [(.t 21)]⟩, ⟨(some 23), (some (19, false)), .faddr 2 (.t 3)⟩, ⟨(some 24), (some (19, false)), .load false 1 (.t 23)⟩, ⟨(some 25), (some (19, false)), .bi (.len 1) [(.t 24)]⟩, ⟨(some 26), (some (19, false)), .bin .neq (.t 22) (.t 25)⟩, ⟨(some 27), none, .pick (.t 19) (.c (.bool true)) (.t 26)⟩])
 (.cond (.t 27) (.seq (.ops [⟨(some 4), none, .mov (.c (.bool false))⟩])
 .ret) .skip))
 (.seq (.seq (.ops [⟨(some 5), none, .mov (.c (.int .i64 0))⟩])
 (.block 0 (.loop b97_1)))
 (.seq (.ops [⟨(some 4), none, .mov (.c (.bool true))⟩])
 .ret))))⟩
/-- furlong/msg.node -/
def v98 : VFun := ⟨1, [(.tmp 2)], (.seq (.ops [⟨(some 2), none, .mov (.c (.bool false))⟩])
 (.seq (.ops [⟨(some 3), none, .mov (.t 0)⟩, ⟨(some 4), none, .bin .geq (.t 3) (.c (.int .i64 0))⟩, ⟨(some 5), none, .mov (.t 4)⟩, ⟨(some 6), (some (5, true)), .mov (.t 0)⟩, ⟨(some 7), (some (5, true)), .bin .lss (.t 6) (.c (.int .i64 8))⟩, ⟨(some 8), none, .pick (.t 5) (.t 7) (.c (.bool false))⟩, ⟨(some 2), none, .mov (.t 8)⟩])
 .ret))⟩
/-- (furlong/msg.parts).opsMay -/
def v99 : VFun := ⟨2, [(.tmp 4)], (.seq (.ops [⟨(some 2), none, .box 132 (.t 0)⟩, ⟨(some 4), none, .mov (.c (.bool false))⟩])
 (.seq (.seq (.ops [⟨(some 5), none, .faddr 1 (.t 2)⟩, ⟨(some 6), none, .load false 1 (.t 5)⟩, ⟨(some 7), none, .un .not (.t 6)⟩])
 (.cond (.t 7) (.seq (.ops [⟨(some 8), none, .mov (.t 1)⟩, ⟨(some 9), none, .nilck (.t 8)⟩, ⟨(some 10), none, .faddr 5 (.t 9)⟩, ⟨(some 11), none, .load false 1 (.t 10)⟩, ⟨(some 12), none, .bin .eql (.t 11) (.c (.int .i64 0))⟩, ⟨(some 13), none, .mov (.t 12)⟩, ⟨(some 14), (some (13, true)), .mov (.t 1)⟩, ⟨(some 15), (some (13, true)), .nilck (.t 14)⟩, ⟨(some 16), (some (13, true)), .faddr 14 (.t 15)⟩, ⟨(some 17), (some (13, true)), .load false 1 (.t 16)⟩, ⟨(some 18), (some (13, true)), .bi (.len 1) [(.t 17)]⟩, ⟨(some 19), (some (13, true)), .bin .eql (.t 18) (.c (.int .i64 0))⟩, ⟨(some 20), none, .pick (.t 13) (.t 19) (.c (.bool false))⟩, ⟨(some 4), none, .mov (.t 20)⟩])
 .ret) .skip))
 (.seq (.ops [⟨(some 21), none, .mov (.t 1)⟩, ⟨(some 22), none, .nilck (.t 21)⟩, ⟨(some 23), none, .faddr 5 (.t 22)⟩, ⟨(some 24), none, .load false 1 (.t 23)⟩, ⟨(some 25), none, .call 86 [(.t 24)]⟩, ⟨(some 26), none, .mov (.t 25)⟩, ⟨(some 27), (some (26, true)), .mov (.t 1)⟩, ⟨(some 28), (some (26, true)), .nilck (.t 27)⟩, ⟨(some 29), (some (26, true)), .faddr 14 (.t 28)⟩, ⟨(some 30), (some (26, true)), .load false 1 (.t 29)⟩, ⟨(some 31), (some (26, true)), .call 87 [(.t 30), (.c (.int .i64 8))]⟩, ⟨(some 32), none, .pick (.t 26) (.t 31) (.c (.bool false))⟩, ⟨(some 4), none, .mov (.t 32)⟩])
 .ret)))⟩
/-- (furlong/msg.parts).queryMay -/
def v100 : VFun := ⟨2, [(.tmp 4)], (.seq (.ops [⟨(some 2), none, .box 132 (.t 0)⟩, ⟨(some 4), none, .mov (.c (.bool false))⟩])
 (.seq (.seq (.ops [⟨(some 5), none, .faddr 3 (.t 2)⟩, ⟨(some 6), none, .load false 1 (.t 5)⟩, ⟨(some 7), none, .un .not (.t 6)⟩])
 (.cond (.t 7) (.seq (.ops [⟨(some 8), none, .mov (.t 1)⟩, ⟨(some 9), none, .nilck (.t 8)⟩, ⟨(some 10), none, .faddr 7 (.t 9)⟩, ⟨(some 11), none, .load false 1 (.t 10)⟩, ⟨(some 12), none, .bin .eql (.t 11) (.c (.int .i64 0))⟩, ⟨(some 13), none, .mov (.t 12)⟩, ⟨(some 14), (some (13, true)), .mov (.t 1)⟩, ⟨(some 15), (some (13, true)), .nilck (.t 14)⟩, ⟨(some 16), (some (13, true)), .faddr 10 (.t 15)⟩, ⟨(some 17), (some (13, true)), .load true 4 (.t 16)⟩, ⟨(some 18), (some (13, true)), .build [(.int .i64 0), (.int .i64 0), (.int .i64 0), (.int .i64 0)] []⟩, ⟨(some 19), (some (13, true)), .eqs (.flat [.int, .int, .int, .int]) false (.t 17) (.t 18)⟩, ⟨(some 20), none, .pick (.t 13) (.t 19) (.c (.bool false))⟩, ⟨(some 4), none, .mov (.t 20)⟩])
 .ret) .skip))
 (.seq (.ops [⟨(some 21), none, .mov (.t 1)⟩, ⟨(some 22), none, .nilck (.t 21)⟩, ⟨(some 23), none, .faddr 7 (.t 22)⟩, ⟨(some 24), none, .load false 1 (.t 23)⟩, ⟨(some 25), none, .bin .geq (.t 24) (.c (.int .i64 1))⟩, ⟨(some 26), none, .mov (.t 25)⟩, ⟨(some 27), (some (26, true)), .mov (.t 1)⟩, ⟨(some 28), (some (26, true)), .nilck (.t 27)⟩, ⟨(some 29), (some (26, true)), .faddr 7 (.t 28)⟩, ⟨(some 30), (some (26, true)), .load false 1 (.t 29)⟩, ⟨(some 31), (some (26, true)), .bin .leq (.t 30) (.c (.int .i64 65535))⟩, ⟨(some 32), none, .pick (.t 26) (.t 31) (.c (.bool false))⟩, ⟨(some 33), none, .mov (.t 32)⟩, ⟨(some 34), (some (33, true)), .mov (.t 1)⟩, ⟨(some 35), (some (33, true)), .nilck (.t 34)⟩, ⟨(some 36), (some (33, true)), .faddr 10 (.t 35)⟩, ⟨(some 37), (some (33, true)), .load true 4 (.t 36)⟩, ⟨(some 38), (some (33, true)), .call 111 [(.t 37)]⟩, ⟨(some 39), none, .pick (.t 33) (.t 38) (.c (.bool false))⟩, ⟨(some 4), none, .mov (.t 39)⟩])
 .ret)))⟩
/-- (furlong/msg.parts).partMay -/
def v101 : VFun := ⟨2, [(.tmp 4)], (.seq (.ops [⟨(some 2), none, .box 132 (.t 0)⟩, ⟨(some 4), none, .mov (.c (.bool false))⟩])
 (.seq (.seq (.ops [⟨(some 5), none, .faddr 4 (.t 2)⟩, ⟨(some 6), none, .load false 1 (.t 5)⟩, ⟨(some 7), none, .un .not (.t 6)⟩])
 (.cond (.t 7) (.seq (.ops [⟨(some 8), none, .mov (.t 1)⟩, ⟨(some 9), none, .nilck (.t 8)⟩, ⟨(some 10), none, .faddr 8 (.t 9)⟩, ⟨(some 11), none, .load false 1 (.t 10)⟩, ⟨(some 12), none, .bin .eql (.t 11) (.c (.int .i64 0))⟩, ⟨(some 13), none, .mov (.t 12)⟩, ⟨(some 14), (some (13, true)), .mov (.t 1)⟩, ⟨(some 15), (some (13, true)), .nilck (.t 14)⟩, ⟨(some 16), (some (13, true)), .faddr 9 (.t 15)⟩, ⟨(some 17), (some (13, true)), .load false 1 (.t 16)⟩, ⟨(some 18), (some (13, true)), .un .not (.t 17)⟩, ⟨(some 19), none, .pick (.t 13) (.t 18) (.c (.bool false))⟩, ⟨(some 20), none, .mov (.t 19)⟩, ⟨(some 21), (some (20, true)), .mov (.t 1)⟩, ⟨(some 22), (some (20, true)), .nilck (.t 21)⟩, ⟨(some 23), (some (20, true)), .faddr 15 (.t 22)⟩, ⟨(some 24), (some (20, true)), .load false 1 (.t 23)⟩, ⟨(some 25), (some (20, true)), .bi (.len 1) [(.t 24)]⟩, ⟨(some 26), (some (20, true)), .bin .eql (.t 25) (.c (.int .i64 0))⟩, ⟨(some 27), none, .pick (.t 20) (.t 26) (.c (.bool false))⟩, ⟨(some 4), none, .mov (.t 27)⟩])
 .ret) .skip))
 (.seq (.ops [⟨(some 28), none, .mov (.t 1)⟩, ⟨(some 29), none, .nilck (.t 28)⟩, ⟨(some 30), none, .faddr 8 (.t 29)⟩, ⟨(some 31), none, .load false 1 (.t 30)⟩, ⟨(some 32), none, .bin .geq (.t 31) (.c (.int .i64 0))⟩, ⟨(some 33), none, .mov (.t 32)⟩, ⟨(some 34), (some (33, true)), .mov (.t 1)⟩, ⟨(some 35), (some (33, true)), .nilck (.t 34)⟩, ⟨(some 36), (some (33, true)), .faddr 8 (.t 35)⟩, ⟨(some 37), (some (33, true)), .load false 1 (.t 36)⟩, ⟨(some 38), (some (33, true)), .bin .leq (.t 37) (.c (.int .i64 2147483647))⟩, ⟨(some 39), none, .pick (.t 33) (.t 38) (.c (.bool false))⟩, ⟨(some 40), none, .mov (.t 39)⟩, ⟨(some 41), (some (40, true)), .mov (.t 1)⟩, ⟨(some 42), (some (40, true)), .nilck (.t 41)⟩, ⟨(some 43), (some (40, true)), .faddr 15 (.t 42)⟩, ⟨(some 44), (some (40, true)), .load false 1 (.t 43)⟩, ⟨(some 45), (some (40, true)), .bi (.len 1) [(.t 44)]⟩, ⟨(some 46), (some (40, true)), .bin .leq (.t 45) (.c (.int .i64 256))⟩, ⟨(some 47), none, .pick (.t 40) (.t 46) (.c (.bool false))⟩, ⟨(some 48), none, .mov (.t 47)⟩, ⟨(some 49), (some (48, true)), .mov (.t 1)⟩, ⟨(some 50), (some (48, true)), .nilck (.t 49)⟩, ⟨(some 51), (some (48, true)), .faddr 9 (.t 50)⟩, ⟨(some 52), (some (48, true)), .load false 1 (.t 51)⟩, ⟨(some 53), (some (48, true)), .un .not (.t 52)⟩, ⟨(some 54), (some (48, true)), .mov (.t 53)⟩, ⟨(some 55), (some (54, false)), .mov (.t 1)⟩, ⟨(some 56), (some (54, false)), .nilck (.t 55)⟩, ⟨(some 57), (some (54, false)), .faddr 15 (.t 56)⟩, ⟨(some 58), (some (54, false)), .load false 1 (.t 57)⟩, ⟨(some 59), (some (54, false)), .bi (.len 1) [(.t 58)]⟩, ⟨(some 60), (some (54, false)), .bin .eql (.t 59) (.c (.int .i64 0))⟩, ⟨(some 61), (some (48, true)), .pick (.t 54) (.c (.bool true)) (.t 60)⟩, ⟨(some 62), none, .pick (.t 48) (.t 61) (.c (.bool false))⟩, ⟨(some 63), none, .mov (.t 62)⟩, ⟨(some 64), (some (63, true)), .mov (.t 1)⟩, ⟨(some 65), (some (63, true)), .nilck (.t 64)⟩, ⟨(some 66), (some (63, true)), .faddr 15 (.t 65)⟩, ⟨(some 67), (some (63, true)), .load false 1 (.t 66)⟩, ⟨(some 68), (some (63, true)), .call 112 [(.t 67)]⟩, ⟨(some 69), none, .pick (.t 63) (.t 68) (.c (.bool false))⟩, ⟨(some 4), none, .mov (.t 69)⟩])
 .ret)))⟩
/-- furlong/furlongref12.plain -/
def v102 : VFun := ⟨1, [(.tmp 2)], (.seq (.ops [⟨(some 1), none, .box 63 (.t 0)⟩, ⟨(some 2), none, .mov (.c (.bool false))⟩])
 (.seq (.ops [⟨(some 4), none, .load true 16 (.t 1)⟩, ⟨(some 5), none, .call 113 [(.t 4)]⟩, ⟨(some 3), none, .alloc [(.int .i64 0), (.int .i64 0), (.int .i64 0), (.int .i64 0), (.int .i64 0), (.int .i64 0), (.bool false), (.int .i64 0), (.int .i64 0), (.bool false), (.int .i64 0), (.int .i64 0), (.int .i64 0), (.int .i64 0), .nils, .nils] 63⟩, ⟨none, none, .store 16 (.t 3) (.t 5)⟩])
 (.seq (.ops [⟨(some 6), none, .faddr 3 (.t 1)⟩, ⟨(some 7), none, .load true 2 (.t 6)⟩, ⟨(some 8), none, .faddr 3 (.t 3)⟩, ⟨(some 9), none, .load true 2 (.t 8)⟩, ⟨(some 10), none, .eqs (.flat [.int, .int]) false (.t 7) (.t 9)⟩, ⟨(some 11), none, .mov (.t 10)⟩, ⟨(some 12), (some (11, true)), .faddr 5 (.t 1)⟩, ⟨(some 13), (some (11, true)), .load false 1 (.t 12)⟩, ⟨(some 14), (some (11, true)), .faddr 5 (.t 3)⟩, ⟨(some 15), (some (11, true)), .load false 1 (.t 14)⟩, ⟨(some 16), (some (11, true)), .bin .eql (.t 13) (.t 15)⟩, ⟨(some 17), none, .pick (.t 11) (.t 16) (.c (.bool false))⟩, ⟨(some 18), none, .mov (.t 17)⟩, ⟨(some 19), (some (18, true)), .faddr 6 (.t 1)⟩, ⟨(some 20), (some (18, true)), .load false 1 (.t 19)⟩, ⟨(some 21), (some (18, true)), .faddr 6 (.t 3)⟩, ⟨(some 22), (some (18, true)), .load false 1 (.t 21)⟩, ⟨(some 23), (some (18, true)), .eqs .bool false (.t 20) (.t 22)⟩, ⟨(some 24), none, .pick (.t 18) (.t 23) (.c (.bool false))⟩, ⟨(some 25), none, .mov (.t 24)⟩, ⟨(some 26), (some (25, true)), .faddr 7 (.t 1)⟩, ⟨(some 27), (some (25, true)), .load false 1 (.t 26)⟩, ⟨(some 28), (some (25, true)), .faddr 7 (.t 3)⟩, ⟨(some 29), (some (25, true)), .load false 1 (.t 28)⟩, ⟨(some 30), (some (25, true)), .bin .eql (.t 27) (.t 29)⟩, ⟨(some 31), none, .pick (.t 25) (.t 30) (.c (.bool false))⟩, ⟨(some 32), none, .mov (.t 31)⟩, ⟨(some 33), (some (32, true)), .faddr 8 (.t 1)⟩, ⟨(some 34), (some (32, true)), .load false 1 (.t 33)⟩, ⟨(some 35), (some (32, true)), .faddr 8 (.t 3)⟩, ⟨(some 36), (some (32, true)), .load false 1 (.t 35)⟩, ⟨(some 37), (some (32, true)), .bin .eql (.t 34) (.t 36)⟩, ⟨(some 38), none, .pick (.t 32) (.t 37) (.c (.bool false))⟩, ⟨(some 39), none, .mov (.t 38)⟩, ⟨(some 40), (some (39, true)), .faddr 9 (.t 1)⟩, ⟨(some 41), (some (39, true)), .load false 1 (.t 40)⟩, ⟨(some 42), (some (39, true)), .faddr 9 (.t 3)⟩, ⟨(some 43), (some (39, true)), .load false 1 (.t 42)⟩, ⟨(some 44), (some (39, true)), .eqs .bool false (.t 41) (.t 43)⟩, ⟨(some 45), none, .pick (.t 39) (.t 44) (.c (.bool false))⟩, ⟨(some 46), none, .mov (.t 45)⟩, ⟨(some 47), (some (46, true)), .faddr 10 (.t 1)⟩, ⟨(some 48), (some (46, true)), .load true 4 (.t 47)⟩, ⟨(some 49), (some (46, true)), .faddr 10 (.t 3)⟩, ⟨(some 50), (some (46, true)), .load true 4 (.t 49)⟩, ⟨(some 51), (some (46, true)), .eqs (.flat [.int, .int, .int, .int]) false (.t 48) (.t 50)⟩, ⟨(some 52), none, .pick (.t 46) (.t 51) (.c (.bool false))⟩, ⟨(some 53), none, .mov (.t 52)⟩, ⟨(some 54), (some (53, true)), .faddr 14 (.t 1)⟩, ⟨(some 55), (some (53, true)), .load false 1 (.t 54)⟩, ⟨(some 56), (some (53, true)), .bi (.len 1) [(.t 55)]⟩, ⟨(some 57), (some (53, true)), .faddr 14 (.t 3)⟩, ⟨(some 58), (some (53, true)), .load false 1 (.t 57)⟩, ⟨(some 59), (some (53, true)), .bi (.len 1) [(.t 58)]⟩, ⟨(some 60), (some (53, true)), .bin .eql (.t 56) (.t 59)⟩, ⟨(some 61), none, .pick (.t 53) (.t 60) (.c (.bool false))⟩, ⟨(some 62), none, .mov (.t 61)⟩, ⟨(some 63), (some (62, true)), .faddr 15 (.t 1)⟩, ⟨(some 64), (some (62, true)), .load false 1 (.t 63)⟩, ⟨(some 65), (some (62, true)), .bi (.len 1) [(.t 64)]⟩, ⟨(some 66), (some (62, true)), .faddr 15 (.t 3)⟩, ⟨(some 67), (some (62, true)), .load false 1 (.t 66)⟩, ⟨(some 68), (some (62, true)), .bi (.len 1) [(.t 67)]⟩, ⟨(some 69), (some (62, true)), .bin .eql (.t 65) (.t 68)⟩, ⟨(some 70), none, .pick (.t 62) (.t 69) (.c (.bool false))⟩, ⟨(some 2), none, .mov (.t 70)⟩])
 .ret)))⟩
/-- furlong/furlongref1.BoxMay -/
def v103 : VFun := ⟨1, [(.tmp 2)], (.seq (.ops [⟨(some 1), none, .box 60 (.t 0)⟩, ⟨(some 2), none, .mov (.c (.bool false))⟩])
 (.seq (.ops [⟨(some 3), none, .faddr 0 (.t 1)⟩, ⟨(some 4), none, .load false 1 (.t 3)⟩, ⟨(some 5), none, .faddr 1 (.t 1)⟩, ⟨(some 6), none, .load false 1 (.t 5)⟩, ⟨(some 7), none, .build [(.int .i64 0), (.int .i64 0)] [(0, 1, (.t 4)), (1, 1, (.t 6))]⟩, ⟨(some 8), none, .call 114 [(.t 7)]⟩, ⟨(some 9), none, .mov (.t 8)⟩, ⟨(some 10), (some (9, true)), .faddr 2 (.t 1)⟩, ⟨(some 11), (some (9, true)), .load false 1 (.t 10)⟩, ⟨(some 12), (some (9, true)), .faddr 3 (.t 1)⟩, ⟨(some 13), (some (9, true)), .load false 1 (.t 12)⟩, ⟨(some 14), (some (9, true)), .build [(.int .i64 0), (.int .i64 0)] [(0, 1, (.t 11)), (1, 1, (.t 13))]⟩, ⟨(some 15), (some (9, true)), .call 114 [(.t 14)]⟩, ⟨(some 16), none, .pick (.t 9) (.t 15) (.c (.bool false))⟩, ⟨(some 17), none, .mov (.t 16)⟩, ⟨(some 18), (some (17, true)), .faddr 0 (.t 1)⟩, ⟨(some 19), (some (17, true)), .load false 1 (.t 18)⟩, ⟨(some 20), (some (17, true)), .faddr 2 (.t 1)⟩, ⟨(some 21), (some (17, true)), .load false 1 (.t 20)⟩, ⟨(some 22), (some (17, true)), .bin .leq (.t 19) (.t 21)⟩, ⟨(some 23), none, .pick (.t 17) (.t 22) (.c (.bool false))⟩, ⟨(some 24), none, .mov (.t 23)⟩, ⟨(some 25), (some (24, true)), .faddr 1 (.t 1)⟩, ⟨(some 26), (some (24, true)), .load false 1 (.t 25)⟩, ⟨(some 27), (some (24, true)), .faddr 3 (.t 1)⟩, ⟨(some 28), (some (24, true)), .load false 1 (.t 27)⟩, ⟨(some 29), (some (24, true)), .bin .leq (.t 26) (.t 28)⟩, ⟨(some 30), none, .pick (.t 24) (.t 29) (.c (.bool false))⟩, ⟨(some 2), none, .mov (.t 30)⟩])
 .ret))⟩
def b104_0 : VCode := (.seq (.seq (.ops [⟨(some 4), none, .mov (.t 3)⟩, ⟨(some 5), none, .mov (.t 0)⟩, ⟨(some 6), none, .bi (.len 1) [(.t 5)]⟩, ⟨(some 7), none, .bin .lss (.t 4) (.t 6)⟩])
 (.cond (.t 7) .skip (.exit 0)))
 (.seq (.block 1 (.seq (.drawn [⟨(some 10), none, .mov (.t 0)⟩, ⟨(some 11), none, .mov (.t 3)⟩, ⟨(some 12), none, .iaddr 3 none (.t 10) (.t 11)⟩, ⟨(some 13), none, .load true 3 (.t 12)⟩, ⟨(some 14), none, .call 115 [(.t 13)]⟩, ⟨(some 15), none, .un .not (.t 14)⟩, ⟨(some 16), none, .mov (.t 15)⟩, ⟨(some 17), (some (16, false)), .mov (.t 3)⟩, ⟨(some 18), (some (16, false)), .bin .gtr (.t 17) (.c (.int .i64 0))⟩, ⟨(some 19), (some (16, false)), .mov (.t 18)⟩, ⟨(some 20), (some (19, true)), .mov (.t 0)⟩, ⟨(some 21), (some (19, true)), .mov (.t 3)⟩, ⟨(some 22), (some (19, true)), .bin .sub (.t 21) (.c (.int .i64 1))⟩, ⟨(some 23), (some (19, true)), .iaddr 3 none (.t 20) (.t 22)⟩, ⟨(some 24), (some (19, true)), .faddr 0 (.t 23)⟩, ⟨(some 25), (some (19, true)), .load false 1 (.t 24)⟩, ⟨(some 26), (some (19, true)), .mov (.t 0)⟩, ⟨(some 27), (some (19, true)), .mov (.t 3)⟩, ⟨(some 28), (some (19, true)), .iaddr 3 none (.t 26) (.t 27)⟩, ⟨(some 29), (some (19, true)), .faddr 0 (.t 28)⟩, ⟨(some 30), (some (19, true)), .load false 1 (.t 29)⟩, ⟨(some 31), (some (19, true)), .bin .geq (.t 25) (.t 30)⟩, ⟨(some 32), (some (16, false)), .pick (.t 19) (.t 31) (.c (.bool false))⟩, ⟨(some 33), none, .pick (.t 16) (.c (.bool true)) (.t 32)⟩] [])
 (.cond (.t 33) (.seq (.ops [⟨(some 2), none, .mov (.c (.bool false))⟩])
 .ret) .skip)))
 (.ops [⟨(some 8), none, .mov (.t 3)⟩, ⟨(some 9), none, .bin .add (.t 8) (.c (.int .i64 1))⟩, ⟨(some 3), none, .mov (.t 9)⟩])))
/-- furlong/furlongref12.FeaturesMay -/
def v104 : VFun := ⟨1, [(.tmp 2)], (.seq (.ops [⟨(some 2), none, .mov (.c (.bool false))⟩])
 (.seq (.seq (.ops [⟨(some 3), none, .mov (.c (.int .i64 0))⟩])
 (.block 0 (.loop b104_0)))
 (.seq (.ops [⟨(some 2), none, .mov (.c (.bool true))⟩])
 .ret)))⟩
/-- furlong/rec.opMay -/
def v107 : VFun := ⟨2, [(.tmp 4)], (.seq (.ops [⟨(some 4), none, .mov (.c (.bool false))⟩])
 (.seq (.seq (.ops [⟨(some 5), none, .mov (.t 0)⟩, ⟨(some 6), none, .nilck (.t 5)⟩, ⟨(some 7), none, .faddr 0 (.t 6)⟩, ⟨(some 8), none, .load false 1 (.t 7)⟩])
 (.block 0 (.seq (.ops [⟨(some 10), none, .bin .eql (.t 8) (.c (.int .i64 0))⟩, ⟨(some 9), none, .mov (.t 10)⟩])
 (.cond (.t 9) (.seq (.ops [⟨(some 11), none, .mov (.t 0)⟩, ⟨(some 12), none, .nilck (.t 11)⟩, ⟨(some 13), none, .faddr 1 (.t 12)⟩, ⟨(some 14), none, .load true 3 (.t 13)⟩, ⟨(some 15), none, .call 119 [(.t 14)]⟩, ⟨(some 16), none, .mov (.t 15)⟩, ⟨(some 17), (some (16, true)), .mov (.t 0)⟩, ⟨(some 18), (some (16, true)), .nilck (.t 17)⟩, ⟨(some 19), (some (16, true)), .faddr 4 (.t 18)⟩, ⟨(some 20), (some (16, true)), .load false 1 (.t 19)⟩, ⟨(some 21), (some (16, true)), .bin .eql (.t 20) (.c (.int .i64 0))⟩, ⟨(some 22), none, .pick (.t 16) (.t 21) (.c (.bool false))⟩, ⟨(some 23), none, .mov (.t 22)⟩, ⟨(some 24), (some (23, true)), .mov (.t 0)⟩, ⟨(some 25), (some (23, true)), .nilck (.t 24)⟩, ⟨(some 26), (some (23, true)), .faddr 5 (.t 25)⟩, ⟨(some 27), (some (23, true)), .call 88 [(.t 26)]⟩, ⟨(some 28), none, .pick (.t 23) (.t 27) (.c (.bool false))⟩, ⟨(some 4), none, .mov (.t 28)⟩])
 .ret) (.seq (.ops [⟨(some 30), none, .bin .eql (.t 8) (.c (.int .i64 1))⟩, ⟨(some 29), none, .mov (.t 30)⟩])
 (.cond (.t 29) (.seq (.ops [⟨(some 31), none, .mov (.t 0)⟩, ⟨(some 32), none, .nilck (.t 31)⟩, ⟨(some 33), none, .faddr 4 (.t 32)⟩, ⟨(some 34), none, .load false 1 (.t 33)⟩, ⟨(some 35), none, .bin .geq (.t 34) (.c (.int .i64 1))⟩, ⟨(some 36), none, .mov (.t 35)⟩, ⟨(some 37), (some (36, true)), .mov (.t 0)⟩, ⟨(some 38), (some (36, true)), .nilck (.t 37)⟩, ⟨(some 39), (some (36, true)), .faddr 4 (.t 38)⟩, ⟨(some 40), (some (36, true)), .load false 1 (.t 39)⟩, ⟨(some 41), (some (36, true)), .bin .leq (.t 40) (.c (.int .i64 65535))⟩, ⟨(some 42), none, .pick (.t 36) (.t 41) (.c (.bool false))⟩, ⟨(some 43), none, .mov (.t 42)⟩, ⟨(some 44), (some (43, true)), .mov (.t 0)⟩, ⟨(some 45), (some (43, true)), .nilck (.t 44)⟩, ⟨(some 46), (some (43, true)), .faddr 1 (.t 45)⟩, ⟨(some 47), (some (43, true)), .call 120 [(.t 46)]⟩, ⟨(some 48), none, .pick (.t 43) (.t 47) (.c (.bool false))⟩, ⟨(some 49), none, .mov (.t 48)⟩, ⟨(some 50), (some (49, true)), .mov (.t 0)⟩, ⟨(some 51), (some (49, true)), .nilck (.t 50)⟩, ⟨(some 52), (some (49, true)), .faddr 5 (.t 51)⟩, ⟨(some 53), (some (49, true)), .call 88 [(.t 52)]⟩, ⟨(some 54), none, .pick (.t 49) (.t 53) (.c (.bool false))⟩, ⟨(some 4), none, .mov (.t 54)⟩])
 .ret) (.seq (.ops [⟨(some 56), none, .bin .eql (.t 8) (.c (.int .i64 2))⟩, ⟨(some 55), none, .mov (.t 56)⟩])
 (.cond (.t 55) (.seq (.ops [⟨(some 57), none, .mov (.t 0)⟩, ⟨(some 58), none, .nilck (.t 57)⟩, ⟨(some 59), none, .faddr 5 (.t 58)⟩, ⟨(some 60), none, .load true 3 (.t 59)⟩, ⟨(some 61), none, .mov (.t 1)⟩, ⟨(some 62), none, .call 85 [(.t 60), (.t 61)]⟩, ⟨(some 63), none, .mov (.t 62)⟩, ⟨(some 64), (some (63, true)), .mov (.t 0)⟩, ⟨(some 65), (some (63, true)), .nilck (.t 64)⟩, ⟨(some 66), (some (63, true)), .faddr 4 (.t 65)⟩, ⟨(some 67), (some (63, true)), .load false 1 (.t 66)⟩, ⟨(some 68), (some (63, true)), .bin .eql (.t 67) (.c (.int .i64 0))⟩, ⟨(some 69), none, .pick (.t 63) (.t 68) (.c (.bool false))⟩, ⟨(some 70), none, .mov (.t 69)⟩, ⟨(some 71), (some (70, true)), .mov (.t 0)⟩, ⟨(some 72), (some (70, true)), .nilck (.t 71)⟩, ⟨(some 73), (some (70, true)), .faddr 1 (.t 72)⟩, ⟨(some 74), (some (70, true)), .call 120 [(.t 73)]⟩, ⟨(some 75), none, .pick (.t 70) (.t 74) (.c (.bool false))⟩, ⟨(some 4), none, .mov (.t 75)⟩])
 .ret) .skip))))))))
 (.seq (.ops [⟨(some 4), none, .mov (.c (.bool false))⟩])
 .ret)))⟩
/-- furlong/rec.Id -/
def v108 : VFun := ⟨1, [(.tmp 2)], (.seq (.ops [⟨(some 2), none, .mov (.c (.int .i64 0))⟩])
 (.seq (.seq (.ops [⟨(some 3), none, .mov (.t 0)⟩, ⟨(some 4), none, .nilck (.t 3)⟩, ⟨(some 5), none, .faddr 0 (.t 4)⟩, ⟨(some 6), none, .load false 1 (.t 5)⟩, ⟨(some 7), none, .bin .eql (.t 6) (.c (.int .i64 0))⟩])
 (.cond (.t 7) (.seq (.ops [⟨(some 8), none, .mov (.t 0)⟩, ⟨(some 9), none, .nilck (.t 8)⟩, ⟨(some 10), none, .faddr 1 (.t 9)⟩, ⟨(some 11), none, .faddr 0 (.t 10)⟩, ⟨(some 12), none, .load false 1 (.t 11)⟩, ⟨(some 2), none, .mov (.t 12)⟩])
 .ret) .skip))
 (.seq (.ops [⟨(some 13), none, .mov (.t 0)⟩, ⟨(some 14), none, .nilck (.t 13)⟩, ⟨(some 15), none, .faddr 4 (.t 14)⟩, ⟨(some 16), none, .load false 1 (.t 15)⟩, ⟨(some 2), none, .mov (.t 16)⟩])
 .ret)))⟩
/-- furlong/furlongref8.opMay -/
def v109 : VFun := ⟨1, [(.tmp 2)], (.seq (.ops [⟨(some 1), none, .box 54 (.t 0)⟩, ⟨(some 2), none, .mov (.c (.bool false))⟩])
 (.seq (.seq (.ops [⟨(some 3), none, .faddr 0 (.t 1)⟩, ⟨(some 4), none, .load false 1 (.t 3)⟩])
 (.block 0 (.seq (.ops [⟨(some 6), none, .bin .eql (.t 4) (.c (.int .i64 0))⟩, ⟨(some 5), none, .mov (.t 6)⟩])
 (.cond (.t 5) (.seq (.ops [⟨(some 7), none, .faddr 1 (.t 1)⟩, ⟨(some 8), none, .load true 3 (.t 7)⟩, ⟨(some 9), none, .call 115 [(.t 8)]⟩, ⟨(some 10), none, .mov (.t 9)⟩, ⟨(some 11), (some (10, true)), .faddr 4 (.t 1)⟩, ⟨(some 12), (some (10, true)), .load false 1 (.t 11)⟩, ⟨(some 13), (some (10, true)), .bin .eql (.t 12) (.c (.int .i64 0))⟩, ⟨(some 14), none, .pick (.t 10) (.t 13) (.c (.bool false))⟩, ⟨(some 15), none, .mov (.t 14)⟩, ⟨(some 16), (some (15, true)), .faddr 5 (.t 1)⟩, ⟨(some 17), (some (15, true)), .load true 3 (.t 16)⟩, ⟨(some 18), (some (15, true)), .call 92 [(.t 17)]⟩, ⟨(some 19), none, .pick (.t 15) (.t 18) (.c (.bool false))⟩, ⟨(some 2), none, .mov (.t 19)⟩])
 .ret) (.seq (.ops [⟨(some 21), none, .bin .eql (.t 4) (.c (.int .i64 1))⟩, ⟨(some 20), none, .mov (.t 21)⟩])
 (.cond (.t 20) (.seq (.ops [⟨(some 22), none, .faddr 4 (.t 1)⟩, ⟨(some 23), none, .load false 1 (.t 22)⟩, ⟨(some 24), none, .bin .geq (.t 23) (.c (.int .i64 1))⟩, ⟨(some 25), none, .mov (.t 24)⟩, ⟨(some 26), (some (25, true)), .faddr 4 (.t 1)⟩, ⟨(some 27), (some (25, true)), .load false 1 (.t 26)⟩, ⟨(some 28), (some (25, true)), .bin .leq (.t 27) (.c (.int .i64 65535))⟩, ⟨(some 29), none, .pick (.t 25) (.t 28) (.c (.bool false))⟩, ⟨(some 30), none, .mov (.t 29)⟩, ⟨(some 31), (some (30, true)), .faddr 1 (.t 1)⟩, ⟨(some 32), (some (30, true)), .load true 3 (.t 31)⟩, ⟨(some 33), (some (30, true)), .call 121 [(.t 32)]⟩, ⟨(some 34), none, .pick (.t 30) (.t 33) (.c (.bool false))⟩, ⟨(some 35), none, .mov (.t 34)⟩, ⟨(some 36), (some (35, true)), .faddr 5 (.t 1)⟩, ⟨(some 37), (some (35, true)), .load true 3 (.t 36)⟩, ⟨(some 38), (some (35, true)), .call 92 [(.t 37)]⟩, ⟨(some 39), none, .pick (.t 35) (.t 38) (.c (.bool false))⟩, ⟨(some 2), none, .mov (.t 39)⟩])
 .ret) (.seq (.ops [⟨(some 41), none, .bin .eql (.t 4) (.c (.int .i64 2))⟩, ⟨(some 40), none, .mov (.t 41)⟩])
 (.cond (.t 40) (.seq (.ops [⟨(some 42), none, .faddr 5 (.t 1)⟩, ⟨(some 43), none, .load true 3 (.t 42)⟩, ⟨(some 44), none, .call 90 [(.t 43), (.c (.int .i64 8))]⟩, ⟨(some 45), none, .mov (.t 44)⟩, ⟨(some 46), (some (45, true)), .faddr 1 (.t 1)⟩, ⟨(some 47), (some (45, true)), .load true 3 (.t 46)⟩, ⟨(some 48), (some (45, true)), .call 121 [(.t 47)]⟩, ⟨(some 49), none, .pick (.t 45) (.t 48) (.c (.bool false))⟩, ⟨(some 50), none, .mov (.t 49)⟩, ⟨(some 51), (some (50, true)), .faddr 4 (.t 1)⟩, ⟨(some 52), (some (50, true)), .load false 1 (.t 51)⟩, ⟨(some 53), (some (50, true)), .bin .eql (.t 52) (.c (.int .i64 0))⟩, ⟨(some 54), none, .pick (.t 50) (.t 53) (.c (.bool false))⟩, ⟨(some 2), none, .mov (.t 54)⟩])
 .ret) .skip))))))))
 (.seq (.ops [⟨(some 2), none, .mov (.c (.bool false))⟩])
 .ret)))⟩
/-- furlong/furlongref8.IdOf -/
def v110 : VFun := ⟨1, [(.tmp 2)], (.seq (.ops [⟨(some 1), none, .box 54 (.t 0)⟩, ⟨(some 2), none, .mov (.c (.int .i64 0))⟩])
 (.seq (.seq (.ops [⟨(some 3), none, .faddr 0 (.t 1)⟩, ⟨(some 4), none, .load false 1 (.t 3)⟩])
 (.block 0 (.seq (.ops [⟨(some 6), none, .bin .eql (.t 4) (.c (.int .i64 0))⟩, ⟨(some 5), none, .mov (.t 6)⟩])
 (.cond (.t 5) (.seq (.ops [⟨(some 7), none, .faddr 1 (.t 1)⟩, ⟨(some 8), none, .faddr 0 (.t 7)⟩, ⟨(some 9), none, .load false 1 (.t 8)⟩, ⟨(some 2), none, .mov (.t 9)⟩])
 .ret) (.seq (.ops [⟨(some 11), none, .bin .eql (.t 4) (.c (.int .i64 1))⟩, ⟨(some 10), none, .mov (.t 11)⟩])
 (.cond (.t 10) (.seq (.ops [⟨(some 12), none, .faddr 4 (.t 1)⟩, ⟨(some 13), none, .load false 1 (.t 12)⟩, ⟨(some 2), none, .mov (.t 13)⟩])
 .ret) .skip))))))
 (.seq (.ops [⟨(some 2), none, .mov (.c (.int .i64 0))⟩])
 .ret)))⟩
/-- furlong/geom.BoxMay -/
def v111 : VFun := ⟨1, [(.tmp 2)], (.seq (.ops [⟨(some 1), none, .box 60 (.t 0)⟩, ⟨(some 2), none, .mov (.c (.bool false))⟩])
 (.seq (.ops [⟨(some 3), none, .faddr 0 (.t 1)⟩, ⟨(some 4), none, .load false 1 (.t 3)⟩, ⟨(some 5), none, .call 122 [(.t 4)]⟩, ⟨(some 6), none, .mov (.t 5)⟩, ⟨(some 7), (some (6, true)), .faddr 1 (.t 1)⟩, ⟨(some 8), (some (6, true)), .load false 1 (.t 7)⟩, ⟨(some 9), (some (6, true)), .call 122 [(.t 8)]⟩, ⟨(some 10), none, .pick (.t 6) (.t 9) (.c (.bool false))⟩, ⟨(some 11), none, .mov (.t 10)⟩, ⟨(some 12), (some (11, true)), .faddr 2 (.t 1)⟩, ⟨(some 13), (some (11, true)), .load false 1 (.t 12)⟩, ⟨(some 14), (some (11, true)), .call 122 [(.t 13)]⟩, ⟨(some 15), none, .pick (.t 11) (.t 14) (.c (.bool false))⟩, ⟨(some 16), none, .mov (.t 15)⟩, ⟨(some 17), (some (16, true)), .faddr 3 (.t 1)⟩, ⟨(some 18), (some (16, true)), .load false 1 (.t 17)⟩, ⟨(some 19), (some (16, true)), .call 122 [(.t 18)]⟩, ⟨(some 20), none, .pick (.t 16) (.t 19) (.c (.bool false))⟩, ⟨(some 21), none, .mov (.t 20)⟩, ⟨(some 22), (some (21, true)), .faddr 0 (.t 1)⟩, ⟨(some 23), (some (21, true)), .load false 1 (.t 22)⟩, ⟨(some 24), (some (21, true)), .faddr 2 (.t 1)⟩, ⟨(some 25), (some (21, true)), .load false 1 (.t 24)⟩, ⟨(some 26), (some (21, true)), .bin .leq (.t 23) (.t 25)⟩, ⟨(some 27), none, .pick (.t 21) (.t 26) (.c (.bool false))⟩, ⟨(some 28), none, .mov (.t 27)⟩, ⟨(some 29), (some (28, true)), .faddr 1 (.t 1)⟩, ⟨(some 30), (some (28, true)), .load false 1 (.t 29)⟩, ⟨(some 31), (some (28, true)), .faddr 3 (.t 1)⟩, ⟨(some 32), (some (28, true)), .load false 1 (.t 31)⟩, ⟨(some 33), (some (28, true)), .bin .leq (.t 30) (.t 32)⟩, ⟨(some 34), none, .pick (.t 28) (.t 33) (.c (.bool false))⟩, ⟨(some 2), none, .mov (.t 34)⟩])
 .ret))⟩
def b112_0 : VCode := (.seq (.ops [⟨(some 8), none, .bin .lss (.t 7) (.t 6)⟩])
 (.seq (.cond (.t 8) .skip (.exit 0))
 (.seq (.block 1 (.seq (.ops [⟨(some 9), none, .mov (.t 7)⟩, ⟨(some 10), none, .iaddr 3 none (.t 5) (.t 7)⟩, ⟨(some 11), none, .load true 3 (.t 10)⟩, ⟨(some 4), none, .alloc [(.int .i64 0), (.int .i64 0), .nils] 52⟩, ⟨(some 3), none, .mov (.t 9)⟩, ⟨none, none, .store 3 (.t 4) (.t 11)⟩])
 (.seq (.drawn [⟨(some 12), none, .load true 3 (.t 4)⟩, ⟨(some 13), none, .call 119 [(.t 12)]⟩, ⟨(some 14), none, .un .not (.t 13)⟩, ⟨(some 15), none, .mov (.t 14)⟩, ⟨(some 16), (some (15, false)), .mov (.t 3)⟩, ⟨(some 17), (some (15, false)), .bin .gtr (.t 16) (.c (.int .i64 0))⟩, ⟨(some 18), (some (15, false)), .mov (.t 17)⟩, ⟨(some 19), (some (18, true)), .mov (.t 0)⟩, ⟨(some 20), (some (18, true)), .mov (.t 3)⟩, ⟨(some 21), (some (18, true)), .bin .sub (.t 20) (.c (.int .i64 1))⟩, ⟨(some 22), (some (18, true)), .iaddr 3 none (.t 19) (.t 21)⟩, ⟨(some 23), (some (18, true)), .faddr 0 (.t 22)⟩, ⟨(some 24), (some (18, true)), .load false 1 (.t 23)⟩, ⟨(some 25), (some (18, true)), .faddr 0 (.t 4)⟩, ⟨(some 26), (some (18, true)), .load false 1 (.t 25)⟩, ⟨(some 27), (some (18, true)), .bin .geq (.t 24) (.t 26)⟩, ⟨(some 28), (some (15, false)), .pick (.t 18) (.t 27) (.c (.bool false))⟩, ⟨(some 29), none, .pick (.t 15) (.c (.bool true)) (.t 28)⟩] [])
 (.cond (.t 29) (.seq (.ops [⟨(some 2), none, .mov (.c (.bool false))⟩])
 .ret) .skip))))
 (.ops [⟨(some 30), none, .bin .add (.t 7) (.c (.int .i64 1))⟩, ⟨(some 7), none, .mov (.t 30)⟩]))))
/-- furlong/shape.Rising -/
def v112 : VFun := ⟨1, [(.tmp 2)], (.seq (.ops [⟨(some 2), none, .mov (.c (.bool false))⟩])
 (.seq (.seq (.ops [⟨(some 5), none, .mov (.t 0)⟩, ⟨(some 6), none, .bi (.len 1) [(.t 5)]⟩, ⟨(some 7), none, .mov (.c (.int .i64 0))⟩])
 (.block 0 (.loop b112_0)))
 (.seq (.ops [⟨(some 2), none, .mov (.c (.bool true))⟩])
 .ret)))⟩
/-- furlong/furlongref12.zeroed -/
def v113 : VFun := ⟨1, [(.cell 2 true 16)], (.seq (.ops [⟨(some 1), none, .box 63 (.t 0)⟩, ⟨(some 2), none, .alloc [(.int .i64 0), (.int .i64 0), (.int .i64 0), (.int .i64 0), (.int .i64 0), (.int .i64 0), (.bool false), (.int .i64 0), (.int .i64 0), (.bool false), (.int .i64 0), (.int .i64 0), (.int .i64 0), (.int .i64 0), .nils, .nils] 63⟩])
 (.seq (.ops [⟨(some 4), none, .faddr 0 (.t 1)⟩, ⟨(some 5), none, .load false 1 (.t 4)⟩, ⟨(some 6), none, .faddr 1 (.t 1)⟩, ⟨(some 7), none, .load false 1 (.t 6)⟩, ⟨(some 8), none, .faddr 2 (.t 1)⟩, ⟨(some 9), none, .load false 1 (.t 8)⟩, ⟨(some 10), none, .build [(.int .i64 0), (.int .i64 0), (.int .i64 0), (.int .i64 0), (.int .i64 0), (.int .i64 0), (.bool false), (.int .i64 0), (.int .i64 0), (.bool false), (.int .i64 0), (.int .i64 0), (.int .i64 0), (.int .i64 0), .nils, .nils] [(0, 1, (.t 5)), (1, 1, (.t 7)), (2, 1, (.t 9))]⟩, ⟨(some 3), none, .alloc [(.int .i64 0), (.int .i64 0), (.int .i64 0), (.int .i64 0), (.int .i64 0), (.int .i64 0), (.bool false), (.int .i64 0), (.int .i64 0), (.bool false), (.int .i64 0), (.int .i64 0), (.int .i64 0), (.int .i64 0), .nils, .nils] 63⟩, ⟨none, none, .store 16 (.t 3) (.t 10)⟩])
 (.seq (.seq (.ops [⟨(some 11), none, .faddr 0 (.t 1)⟩, ⟨(some 12), none, .load false 1 (.t 11)⟩])
 (.block 0 (.seq (.ops [⟨(some 17), none, .bin .eql (.t 12) (.c (.int .i64 5))⟩, ⟨(some 16), none, .mov (.t 17)⟩])
 (.cond (.t 16) (.seq (.ops [⟨(some 18), none, .faddr 7 (.t 1)⟩, ⟨(some 19), none, .load false 1 (.t 18)⟩, ⟨(some 20), none, .faddr 7 (.t 3)⟩, ⟨none, none, .store 1 (.t 20) (.t 19)⟩])
 (.ops [⟨(some 21), none, .faddr 10 (.t 1)⟩, ⟨(some 22), none, .load true 4 (.t 21)⟩, ⟨(some 23), none, .faddr 10 (.t 3)⟩, ⟨none, none, .store 4 (.t 23) (.t 22)⟩])) (.seq (.ops [⟨(some 25), none, .bin .eql (.t 12) (.c (.int .i64 6))⟩, ⟨(some 24), none, .mov (.t 25)⟩])
 (.cond (.t 24) (.seq (.ops [⟨(some 26), none, .faddr 7 (.t 1)⟩, ⟨(some 27), none, .load false 1 (.t 26)⟩, ⟨(some 28), none, .faddr 7 (.t 3)⟩, ⟨none, none, .store 1 (.t 28) (.t 27)⟩])
 (.seq (.ops [⟨(some 29), none, .faddr 10 (.t 1)⟩, ⟨(some 30), none, .load true 4 (.t 29)⟩, ⟨(some 31), none, .faddr 10 (.t 3)⟩, ⟨none, none, .store 4 (.t 31) (.t 30)⟩])
 (.seq (.ops [⟨(some 32), none, .faddr 8 (.t 1)⟩, ⟨(some 33), none, .load false 1 (.t 32)⟩, ⟨(some 34), none, .faddr 8 (.t 3)⟩, ⟨none, none, .store 1 (.t 34) (.t 33)⟩])
 (.seq (.ops [⟨(some 35), none, .faddr 9 (.t 1)⟩, ⟨(some 36), none, .load false 1 (.t 35)⟩, ⟨(some 37), none, .faddr 9 (.t 3)⟩, ⟨none, none, .store 1 (.t 37) (.t 36)⟩])
 (.ops [⟨(some 38), none, .faddr 15 (.t 1)⟩, ⟨(some 39), none, .load false 1 (.t 38)⟩, ⟨(some 40), none, .faddr 15 (.t 3)⟩, ⟨none, none, .store 1 (.t 40) (.t 39)⟩]))))) (.seq (.ops [⟨(some 42), none, .bin .eql (.t 12) (.c (.int .i64 0))⟩, ⟨(some 41), none, .mov (.t 42)⟩])
 (.cond (.t 41) (.seq (.ops [⟨(some 43), none, .faddr 3 (.t 1)⟩, ⟨(some 44), none, .load true 2 (.t 43)⟩, ⟨(some 45), none, .faddr 3 (.t 3)⟩, ⟨none, none, .store 2 (.t 45) (.t 44)⟩])
 (.seq (.ops [⟨(some 46), none, .faddr 5 (.t 1)⟩, ⟨(some 47), none, .load false 1 (.t 46)⟩, ⟨(some 48), none, .faddr 5 (.t 3)⟩, ⟨none, none, .store 1 (.t 48) (.t 47)⟩])
 (.ops [⟨(some 49), none, .faddr 14 (.t 1)⟩, ⟨(some 50), none, .load false 1 (.t 49)⟩, ⟨(some 51), none, .faddr 14 (.t 3)⟩, ⟨none, none, .store 1 (.t 51) (.t 50)⟩]))) (.seq (.seq (.ops [⟨(some 53), none, .bin .eql (.t 12) (.c (.int .i64 1))⟩, ⟨(some 52), none, .mov (.t 53)⟩])
 (.cond (.t 52) .skip (.ops [⟨(some 54), none, .bin .eql (.t 12) (.c (.int .i64 2))⟩, ⟨(some 52), none, .mov (.t 54)⟩])))
 (.cond (.t 52) (.seq (.ops [⟨(some 55), none, .faddr 3 (.t 1)⟩, ⟨(some 56), none, .load true 2 (.t 55)⟩, ⟨(some 57), none, .faddr 3 (.t 3)⟩, ⟨none, none, .store 2 (.t 57) (.t 56)⟩])
 (.ops [⟨(some 58), none, .faddr 6 (.t 1)⟩, ⟨(some 59), none, .load false 1 (.t 58)⟩, ⟨(some 60), none, .faddr 6 (.t 3)⟩, ⟨none, none, .store 1 (.t 60) (.t 59)⟩])) (.ops [⟨(some 13), none, .faddr 3 (.t 1)⟩, ⟨(some 14), none, .load true 2 (.t 13)⟩, ⟨(some 15), none, .faddr 3 (.t 3)⟩, ⟨none, none, .store 2 (.t 15) (.t 14)⟩])))))))))))
 (.seq (.ops [⟨(some 61), none, .load true 16 (.t 3)⟩, ⟨none, none, .store 16 (.t 2) (.t 61)⟩])
 .ret))))⟩
/-- furlong/furlongref1.PointMay -/
def v114 : VFun := ⟨1, [(.tmp 2)], (.seq (.ops [⟨(some 1), none, .box 48 (.t 0)⟩, ⟨(some 2), none, .mov (.c (.bool false))⟩])
 (.seq (.ops [⟨(some 3), none, .faddr 0 (.t 1)⟩, ⟨(some 4), none, .load false 1 (.t 3)⟩, ⟨(some 5), none, .bin .geq (.t 4) (.c (.int .i64 0))⟩, ⟨(some 6), none, .mov (.t 5)⟩, ⟨(some 7), (some (6, true)), .faddr 0 (.t 1)⟩, ⟨(some 8), (some (6, true)), .load false 1 (.t 7)⟩, ⟨(some 9), (some (6, true)), .bin .leq (.t 8) (.c (.int .i64 4294967295))⟩, ⟨(some 10), none, .pick (.t 6) (.t 9) (.c (.bool false))⟩, ⟨(some 11), none, .mov (.t 10)⟩, ⟨(some 12), (some (11, true)), .faddr 1 (.t 1)⟩, ⟨(some 13), (some (11, true)), .load false 1 (.t 12)⟩, ⟨(some 14), (some (11, true)), .bin .geq (.t 13) (.c (.int .i64 0))⟩, ⟨(some 15), none, .pick (.t 11) (.t 14) (.c (.bool false))⟩, ⟨(some 16), none, .mov (.t 15)⟩, ⟨(some 17), (some (16, true)), .faddr 1 (.t 1)⟩, ⟨(some 18), (some (16, true)), .load false 1 (.t 17)⟩, ⟨(some 19), (some (16, true)), .bin .leq (.t 18) (.c (.int .i64 4294967295))⟩, ⟨(some 20), none, .pick (.t 16) (.t 19) (.c (.bool false))⟩, ⟨(some 2), none, .mov (.t 20)⟩])
 .ret))⟩
def b115_0 : VCode := (.seq (.seq (.ops [⟨(some 35), none, .mov (.t 3)⟩, ⟨(some 36), none, .faddr 2 (.t 1)⟩, ⟨(some 37), none, .load false 1 (.t 36)⟩, ⟨(some 38), none, .bi (.len 1) [(.t 37)]⟩, ⟨(some 39), none, .bin .lss (.t 35) (.t 38)⟩])
 (.cond (.t 39) .skip (.exit 0)))
 (.seq (.block 1 (.seq (.drawn [⟨(some 42), none, .faddr 1 (.t 1)⟩, ⟨(some 43), none, .load false 1 (.t 42)⟩, ⟨(some 44), none, .faddr 2 (.t 1)⟩, ⟨(some 45), none, .load false 1 (.t 44)⟩, ⟨(some 46), none, .mov (.t 3)⟩, ⟨(some 47), none, .iaddr 1 none (.t 45) (.t 46)⟩, ⟨(some 48), none, .load false 1 (.t 47)⟩, ⟨(some 49), none, .call 123 [(.t 43), (.t 48)]⟩, ⟨(some 50), none, .un .not (.t 49)⟩] [])
 (.cond (.t 50) (.seq (.ops [⟨(some 2), none, .mov (.c (.bool false))⟩])
 .ret) .skip)))
 (.ops [⟨(some 40), none, .mov (.t 3)⟩, ⟨(some 41), none, .bin .add (.t 40) (.c (.int .i64 1))⟩, ⟨(some 3), none, .mov (.t 41)⟩])))
/-- furlong/furlongref1.ShapeMay -/
def v115 : VFun := ⟨1, [(.tmp 2)], (.seq (.ops [⟨(some 1), none, .box 52 (.t 0)⟩, ⟨(some 2), none, .mov (.c (.bool false))⟩])
 (.seq (.seq (.ops [⟨(some 4), none, .faddr 0 (.t 1)⟩, ⟨(some 5), none, .load false 1 (.t 4)⟩, ⟨(some 6), none, .bin .lss (.t 5) (.c (.int .i64 1))⟩, ⟨(some 7), none, .mov (.t 6)⟩, ⟨(some 8), (some (7, false)), .faddr 0 (.t 1)⟩, ⟨(some 9), (some (7, false)), .load false 1 (.t 8)⟩, ⟨(some 10), (some (7, false)), .bin .gtr (.t 9) (.c (.int .i64 65535))⟩, ⟨(some 11), none, .pick (.t 7) (.c (.bool true)) (.t 10)⟩, ⟨(some 12), none, .mov (.t 11)⟩, ⟨(some 13), (some (12, false)), .faddr 2 (.t 1)⟩, ⟨(some 14), (some (12, false)), .load false 1 (.t 13)⟩, ⟨(some 15), (some (12, false)), .bi (.len 1) [(.t 14)]⟩, ⟨(some 16), (some (12, false)), .bin .lss (.t 15) (.c (.int .i64 1))⟩, ⟨(some 17), none, .pick (.t 12) (.c (.bool true)) (.t 16)⟩, ⟨(some 18), none, .mov (.t 17)⟩, ⟨(some 19), (some (18, false)), .faddr 2 (.t 1)⟩, ⟨(some 20), (some (18, false)), .load false 1 (.t 19)⟩, ⟨(some 21), (some (18, false)), .bi (.len 1) [(.t 20)]⟩, ⟨(some 22), (some (18, false)), .bin .gtr (.t 21) (.c (.int .i64 4))⟩, ⟨(some 23), none, .pick (.t 18) (.c (.bool true)) (.t 22)⟩, ⟨(some 24), none, .mov (.t 23)⟩, ⟨(some 25), (some (24, false)), .faddr 1 (.t 1)⟩, ⟨(some 26), (some (24, false)), .load false 1 (.t 25)⟩, ⟨(some 27), (some (24, false)), .bin .neq (.t 26) (.c (.int .i64 2))⟩, ⟨(some 28), (some (24, false)), .mov (.t 27)⟩, ⟨(some 29), (some (28, true)), .faddr 2 (.t 1)⟩, ⟨(some 30), (some (28, true)), .load false 1 (.t 29)⟩, ⟨(some 31), (some (28, true)), .bi (.len 1) [(.t 30)]⟩, ⟨(some 32), (some (28, true)), .bin .neq (.t 31) (.c (.int .i64 1))⟩, ⟨(some 33), (some (24, false)), .pick (.t 28) (.t 32) (.c (.bool false))⟩, ⟨(some 34), none, .pick (.t 24) (.c (.bool true)) (.t 33)⟩])
 (.cond (.t 34) (.seq (.ops [⟨(some 2), none, .mov (.c (.bool false))⟩])
 .ret) .skip))
 (.seq (.seq (.ops [⟨(some 3), none, .mov (.c (.int .i64 0))⟩])
 (.block 0 (.loop b115_0)))
 (.seq (.ops [⟨(some 2), none, .mov (.c (.bool true))⟩])
 .ret))))⟩
/-- furlong/shape.May -/
def v119 : VFun := ⟨1, [(.tmp 2)], (.seq (.ops [⟨(some 1), none, .box 52 (.t 0)⟩, ⟨(some 2), none, .mov (.c (.bool false))⟩])
 (.seq (.seq (.ops [⟨(some 3), none, .faddr 0 (.t 1)⟩, ⟨(some 4), none, .load false 1 (.t 3)⟩, ⟨(some 5), none, .bin .lss (.t 4) (.c (.int .i64 1))⟩, ⟨(some 6), none, .mov (.t 5)⟩, ⟨(some 7), (some (6, false)), .faddr 0 (.t 1)⟩, ⟨(some 8), (some (6, false)), .load false 1 (.t 7)⟩, ⟨(some 9), (some (6, false)), .bin .gtr (.t 8) (.c (.int .i64 65535))⟩, ⟨(some 10), none, .pick (.t 6) (.c (.bool true)) (.t 9)⟩, ⟨(some 11), none, .mov (.t 10)⟩, ⟨(some 12), (some (11, false)), .faddr 2 (.t 1)⟩, ⟨(some 13), (some (11, false)), .load false 1 (.t 12)⟩, ⟨(some 14), (some (11, false)), .bi (.len 1) [(.t 13)]⟩, ⟨(some 15), (some (11, false)), .bin .lss (.t 14) (.c (.int .i64 1))⟩, ⟨(some 16), none, .pick (.t 11) (.c (.bool true)) (.t 15)⟩, ⟨(some 17), none, .mov (.t 16)⟩, ⟨(some 18), (some (17, false)), .faddr 2 (.t 1)⟩, ⟨(some 19), (some (17, false)), .load false 1 (.t 18)⟩, ⟨(some 20), (some (17, false)), .bi (.len 1) [(.t 19)]⟩, ⟨(some 21), (some (17, false)), .bin .gtr (.t 20) (.c (.int .i64 4))⟩, ⟨(some 22), none, .pick (.t 17) (.c (.bool true)) (.t 21)⟩])
 (.cond (.t 22) (.seq (.ops [⟨(some 2), none, .mov (.c (.bool false))⟩])
 .ret) .skip))
 (.seq (.seq (.ops [⟨(some 23), none, .faddr 1 (.t 1)⟩, ⟨(some 24), none, .load false 1 (.t 23)⟩])
 (.block 0 (.seq (.ops [⟨(some 26), none, .bin .eql (.t 24) (.c (.int .i64 0))⟩, ⟨(some 25), none, .mov (.t 26)⟩])
 (.cond (.t 25) (.seq (.ops [⟨(some 27), none, .faddr 2 (.t 1)⟩, ⟨(some 28), none, .load false 1 (.t 27)⟩, ⟨(some 29), none, .bi (.len 1) [(.t 28)]⟩, ⟨(some 30), none, .bin .eql (.t 29) (.c (.int .i64 1))⟩, ⟨(some 31), none, .mov (.t 30)⟩, ⟨(some 32), (some (31, true)), .faddr 2 (.t 1)⟩, ⟨(some 33), (some (31, true)), .load false 1 (.t 32)⟩, ⟨(some 34), (some (31, true)), .iaddr 1 none (.t 33) (.c (.int .i64 0))⟩, ⟨(some 35), (some (31, true)), .load false 1 (.t 34)⟩, ⟨(some 36), (some (31, true)), .bi (.len 1) [(.t 35)]⟩, ⟨(some 37), (some (31, true)), .bin .eql (.t 36) (.c (.int .i64 1))⟩, ⟨(some 38), none, .pick (.t 31) (.t 37) (.c (.bool false))⟩, ⟨(some 39), none, .mov (.t 38)⟩, ⟨(some 40), (some (39, true)), .faddr 2 (.t 1)⟩, ⟨(some 41), (some (39, true)), .load false 1 (.t 40)⟩, ⟨(some 42), (some (39, true)), .iaddr 1 none (.t 41) (.c (.int .i64 0))⟩, ⟨(some 43), (some (39, true)), .load false 1 (.t 42)⟩, ⟨(some 44), (some (39, true)), .iaddr 2 none (.t 43) (.c (.int .i64 0))⟩, ⟨(some 45), (some (39, true)), .load true 2 (.t 44)⟩, ⟨(some 46), (some (39, true)), .call 126 [(.t 45)]⟩, ⟨(some 47), none, .pick (.t 39) (.t 46) (.c (.bool false))⟩, ⟨(some 2), none, .mov (.t 47)⟩])
 .ret) (.seq (.ops [⟨(some 49), none, .bin .eql (.t 24) (.c (.int .i64 1))⟩, ⟨(some 48), none, .mov (.t 49)⟩])
 (.cond (.t 48) (.seq (.ops [⟨(some 50), none, .faddr 2 (.t 1)⟩, ⟨(some 51), none, .load false 1 (.t 50)⟩, ⟨(some 52), none, .bi (.len 1) [(.t 51)]⟩, ⟨(some 53), none, .bin .eql (.t 52) (.c (.int .i64 1))⟩, ⟨(some 54), none, .mov (.t 53)⟩, ⟨(some 55), (some (54, true)), .faddr 2 (.t 1)⟩, ⟨(some 56), (some (54, true)), .load false 1 (.t 55)⟩, ⟨(some 57), (some (54, true)), .iaddr 1 none (.t 56) (.c (.int .i64 0))⟩, ⟨(some 58), (some (54, true)), .load false 1 (.t 57)⟩, ⟨(some 59), (some (54, true)), .call 127 [(.t 58), (.c (.int .i64 2)), (.c (.bool false))]⟩, ⟨(some 60), none, .pick (.t 54) (.t 59) (.c (.bool false))⟩, ⟨(some 2), none, .mov (.t 60)⟩])
 .ret) (.seq (.ops [⟨(some 62), none, .bin .eql (.t 24) (.c (.int .i64 2))⟩, ⟨(some 61), none, .mov (.t 62)⟩])
 (.cond (.t 61) (.seq (.ops [⟨(some 63), none, .faddr 2 (.t 1)⟩, ⟨(some 64), none, .load false 1 (.t 63)⟩, ⟨(some 65), none, .call 128 [(.t 64), (.c (.fn 129 []))]⟩, ⟨(some 66), none, .un .not (.t 65)⟩, ⟨(some 2), none, .mov (.t 66)⟩])
 .ret) .skip))))))))
 (.seq (.ops [⟨(some 2), none, .mov (.c (.bool false))⟩])
 .ret))))⟩
/-- furlong/rec.noFeature -/
def v120 : VFun := ⟨1, [(.tmp 2)], (.seq (.ops [⟨(some 2), none, .mov (.c (.bool false))⟩])
 (.seq (.ops [⟨(some 3), none, .mov (.t 0)⟩, ⟨(some 4), none, .nilck (.t 3)⟩, ⟨(some 5), none, .faddr 0 (.t 4)⟩, ⟨(some 6), none, .load false 1 (.t 5)⟩, ⟨(some 7), none, .bin .eql (.t 6) (.c (.int .i64 0))⟩, ⟨(some 8), none, .mov (.t 7)⟩, ⟨(some 9), (some (8, true)), .mov (.t 0)⟩, ⟨(some 10), (some (8, true)), .nilck (.t 9)⟩, ⟨(some 11), (some (8, true)), .faddr 1 (.t 10)⟩, ⟨(some 12), (some (8, true)), .load false 1 (.t 11)⟩, ⟨(some 13), (some (8, true)), .bin .eql (.t 12) (.c (.int .i64 0))⟩, ⟨(some 14), none, .pick (.t 8) (.t 13) (.c (.bool false))⟩, ⟨(some 15), none, .mov (.t 14)⟩, ⟨(some 16), (some (15, true)), .mov (.t 0)⟩, ⟨(some 17), (some (15, true)), .nilck (.t 16)⟩, ⟨(some 18), (some (15, true)), .faddr 2 (.t 17)⟩, ⟨(some 19), (some (15, true)), .load false 1 (.t 18)⟩, ⟨(some 20), (some (15, true)), .bi (.len 1) [(.t 19)]⟩, ⟨(some 21), (some (15, true)), .bin .eql (.t 20) (.c (.int .i64 0))⟩, ⟨(some 22), none, .pick (.t 15) (.t 21) (.c (.bool false))⟩, ⟨(some 2), none, .mov (.t 22)⟩])
 .ret))⟩
/-- furlong/furlongref8.zeroFeature -/
def v121 : VFun := ⟨1, [(.tmp 2)], (.seq (.ops [⟨(some 1), none, .box 52 (.t 0)⟩, ⟨(some 2), none, .mov (.c (.bool false))⟩])
 (.seq (.ops [⟨(some 3), none, .faddr 0 (.t 1)⟩, ⟨(some 4), none, .load false 1 (.t 3)⟩, ⟨(some 5), none, .bin .eql (.t 4) (.c (.int .i64 0))⟩, ⟨(some 6), none, .mov (.t 5)⟩, ⟨(some 7), (some (6, true)), .faddr 1 (.t 1)⟩, ⟨(some 8), (some (6, true)), .load false 1 (.t 7)⟩, ⟨(some 9), (some (6, true)), .bin .eql (.t 8) (.c (.int .i64 0))⟩, ⟨(some 10), none, .pick (.t 6) (.t 9) (.c (.bool false))⟩, ⟨(some 11), none, .mov (.t 10)⟩, ⟨(some 12), (some (11, true)), .faddr 2 (.t 1)⟩, ⟨(some 13), (some (11, true)), .load false 1 (.t 12)⟩, ⟨(some 14), (some (11, true)), .bi (.len 1) [(.t 13)]⟩, ⟨(some 15), (some (11, true)), .bin .eql (.t 14) (.c (.int .i64 0))⟩, ⟨(some 16), none, .pick (.t 11) (.t 15) (.c (.bool false))⟩, ⟨(some 2), none, .mov (.t 16)⟩])
 .ret))⟩
/-- furlong/geom.coord -/
def v122 : VFun := ⟨1, [(.tmp 2)], (.seq (.ops [⟨(some 2), none, .mov (.c (.bool false))⟩])
 (.seq (.ops [⟨(some 3), none, .mov (.t 0)⟩, ⟨(some 4), none, .bin .geq (.t 3) (.c (.int .i64 0))⟩, ⟨(some 5), none, .mov (.t 4)⟩, ⟨(some 6), (some (5, true)), .mov (.t 0)⟩, ⟨(some 7), (some (5, true)), .bin .leq (.t 6) (.c (.int .i64 4294967295))⟩, ⟨(some 8), none, .pick (.t 5) (.t 7) (.c (.bool false))⟩, ⟨(some 2), none, .mov (.t 8)⟩])
 .ret))⟩
def b123_0 : VCode := (.seq (.seq (.ops [⟨(some 9), none, .mov (.t 5)⟩, ⟨(some 10), none, .mov (.t 1)⟩, ⟨(some 11), none, .bi (.len 1) [(.t 10)]⟩, ⟨(some 12), none, .bin .lss (.t 9) (.t 11)⟩])
 (.cond (.t 12) .skip (.exit 0)))
 (.seq (.block 1 (.seq (.drawn [⟨(some 15), none, .mov (.t 1)⟩, ⟨(some 16), none, .mov (.t 5)⟩, ⟨(some 17), none, .iaddr 2 none (.t 15) (.t 16)⟩, ⟨(some 18), none, .load true 2 (.t 17)⟩, ⟨(some 19), none, .call 114 [(.t 18)]⟩, ⟨(some 20), none, .un .not (.t 19)⟩, ⟨(some 21), none, .mov (.t 20)⟩, ⟨(some 22), (some (21, false)), .mov (.t 5)⟩, ⟨(some 23), (some (21, false)), .bin .gtr (.t 22) (.c (.int .i64 0))⟩, ⟨(some 24), (some (21, false)), .mov (.t 23)⟩, ⟨(some 25), (some (24, true)), .mov (.t 1)⟩, ⟨(some 26), (some (24, true)), .mov (.t 5)⟩, ⟨(some 27), (some (24, true)), .iaddr 2 none (.t 25) (.t 26)⟩, ⟨(some 28), (some (24, true)), .load true 2 (.t 27)⟩, ⟨(some 29), (some (24, true)), .mov (.t 1)⟩, ⟨(some 30), (some (24, true)), .mov (.t 5)⟩, ⟨(some 31), (some (24, true)), .bin .sub (.t 30) (.c (.int .i64 1))⟩, ⟨(some 32), (some (24, true)), .iaddr 2 none (.t 29) (.t 31)⟩, ⟨(some 33), (some (24, true)), .load true 2 (.t 32)⟩, ⟨(some 34), (some (24, true)), .eqs (.flat [.int, .int]) false (.t 28) (.t 33)⟩, ⟨(some 35), (some (21, false)), .pick (.t 24) (.t 34) (.c (.bool false))⟩, ⟨(some 36), none, .pick (.t 21) (.c (.bool true)) (.t 35)⟩] [])
 (.cond (.t 36) (.seq (.ops [⟨(some 4), none, .mov (.c (.bool false))⟩])
 .ret) .skip)))
 (.ops [⟨(some 13), none, .mov (.t 5)⟩, ⟨(some 14), none, .bin .add (.t 13) (.c (.int .i64 1))⟩, ⟨(some 5), none, .mov (.t 14)⟩])))
/-- furlong/furlongref1.ringMay -/
def v123 : VFun := ⟨2, [(.tmp 4)], (.seq (.ops [⟨(some 4), none, .mov (.c (.bool false))⟩])
 (.seq (.seq (.ops [⟨(some 6), none, .mov (.t 1)⟩, ⟨(some 7), none, .bi (.len 1) [(.t 6)]⟩, ⟨(some 8), none, .bin .gtr (.t 7) (.c (.int .i64 16))⟩])
 (.cond (.t 8) (.seq (.ops [⟨(some 4), none, .mov (.c (.bool false))⟩])
 .ret) .skip))
 (.seq (.seq (.ops [⟨(some 5), none, .mov (.c (.int .i64 0))⟩])
 (.block 0 (.loop b123_0)))
 (.seq (.seq (.ops [⟨(some 37), none, .mov (.t 0)⟩])
 (.block 2 (.seq (.ops [⟨(some 39), none, .bin .eql (.t 37) (.c (.int .i64 0))⟩, ⟨(some 38), none, .mov (.t 39)⟩])
 (.cond (.t 38) (.seq (.ops [⟨(some 40), none, .mov (.t 1)⟩, ⟨(some 41), none, .bi (.len 1) [(.t 40)]⟩, ⟨(some 42), none, .bin .eql (.t 41) (.c (.int .i64 1))⟩, ⟨(some 4), none, .mov (.t 42)⟩])
 .ret) (.seq (.ops [⟨(some 44), none, .bin .eql (.t 37) (.c (.int .i64 1))⟩, ⟨(some 43), none, .mov (.t 44)⟩])
 (.cond (.t 43) (.seq (.ops [⟨(some 45), none, .mov (.t 1)⟩, ⟨(some 46), none, .bi (.len 1) [(.t 45)]⟩, ⟨(some 47), none, .bin .geq (.t 46) (.c (.int .i64 2))⟩, ⟨(some 4), none, .mov (.t 47)⟩])
 .ret) (.seq (.ops [⟨(some 49), none, .bin .eql (.t 37) (.c (.int .i64 2))⟩, ⟨(some 48), none, .mov (.t 49)⟩])
 (.cond (.t 48) (.seq (.drawn [⟨(some 50), none, .mov (.t 1)⟩, ⟨(some 51), none, .bi (.len 1) [(.t 50)]⟩, ⟨(some 52), none, .bin .geq (.t 51) (.c (.int .i64 3))⟩, ⟨(some 53), none, .mov (.t 52)⟩, ⟨(some 54), (some (53, true)), .mov (.t 1)⟩, ⟨(some 55), (some (53, true)), .iaddr 2 none (.t 54) (.c (.int .i64 0))⟩, ⟨(some 56), (some (53, true)), .load true 2 (.t 55)⟩, ⟨(some 57), (some (53, true)), .mov (.t 1)⟩, ⟨(some 58), (some (53, true)), .mov (.t 1)⟩, ⟨(some 59), (some (53, true)), .bi (.len 1) [(.t 58)]⟩, ⟨(some 60), (some (53, true)), .bin .sub (.t 59) (.c (.int .i64 1))⟩, ⟨(some 61), (some (53, true)), .iaddr 2 none (.t 57) (.t 60)⟩, ⟨(some 62), (some (53, true)), .load true 2 (.t 61)⟩, ⟨(some 63), (some (53, true)), .eqs (.flat [.int, .int]) true (.t 56) (.t 62)⟩, ⟨(some 64), none, .pick (.t 53) (.t 63) (.c (.bool false))⟩, ⟨(some 4), none, .mov (.t 64)⟩] [])
 .ret) .skip))))))))
 (.seq (.ops [⟨(some 4), none, .mov (.c (.bool false))⟩])
 .ret)))))⟩
/-- furlong/geom.PointMay -/
def v126 : VFun := ⟨1, [(.tmp 2)], (.seq (.ops [⟨(some 1), none, .box 48 (.t 0)⟩, ⟨(some 2), none, .mov (.c (.bool false))⟩])
 (.seq (.ops [⟨(some 3), none, .faddr 0 (.t 1)⟩, ⟨(some 4), none, .load false 1 (.t 3)⟩, ⟨(some 5), none, .call 122 [(.t 4)]⟩, ⟨(some 6), none, .mov (.t 5)⟩, ⟨(some 7), (some (6, true)), .faddr 1 (.t 1)⟩, ⟨(some 8), (some (6, true)), .load false 1 (.t 7)⟩, ⟨(some 9), (some (6, true)), .call 122 [(.t 8)]⟩, ⟨(some 10), none, .pick (.t 6) (.t 9) (.c (.bool false))⟩, ⟨(some 2), none, .mov (.t 10)⟩])
 .ret))⟩
def b127_0 : VCode := (.seq (.ops [⟨(some 22), none, .bin .lss (.t 21) (.t 20)⟩])
 (.seq (.cond (.t 22) .skip (.exit 0))
 (.seq (.block 1 (.seq (.ops [⟨(some 23), none, .mov (.t 21)⟩, ⟨(some 24), none, .iaddr 2 none (.t 19) (.t 21)⟩, ⟨(some 25), none, .load true 2 (.t 24)⟩, ⟨(some 8), none, .alloc [(.int .i64 0), (.int .i64 0)] 48⟩, ⟨(some 7), none, .mov (.t 23)⟩, ⟨none, none, .store 2 (.t 8) (.t 25)⟩])
 (.seq (.ops [⟨(some 26), none, .mov (.t 7)⟩, ⟨(some 27), none, .bin .add (.t 26) (.c (.int .i64 1))⟩, ⟨(some 9), none, .mov (.t 27)⟩])
 (.seq (.seq (.ops [⟨(some 28), none, .mov (.t 9)⟩, ⟨(some 29), none, .mov (.t 0)⟩, ⟨(some 30), none, .bi (.len 1) [(.t 29)]⟩, ⟨(some 31), none, .bin .eql (.t 28) (.t 30)⟩])
 (.cond (.t 31) (.ops [⟨(some 9), none, .mov (.c (.int .i64 0))⟩]) .skip))
 (.seq (.drawn [⟨(some 32), none, .load true 2 (.t 8)⟩, ⟨(some 33), none, .call 126 [(.t 32)]⟩, ⟨(some 34), none, .un .not (.t 33)⟩, ⟨(some 35), none, .mov (.t 34)⟩, ⟨(some 36), (some (35, false)), .mov (.t 9)⟩, ⟨(some 37), (some (35, false)), .bin .gtr (.t 36) (.c (.int .i64 0))⟩, ⟨(some 38), (some (35, false)), .mov (.t 37)⟩, ⟨(some 39), (some (38, false)), .mov (.t 2)⟩, ⟨(some 40), (some (35, false)), .pick (.t 38) (.c (.bool true)) (.t 39)⟩, ⟨(some 41), (some (35, false)), .mov (.t 40)⟩, ⟨(some 42), (some (41, true)), .load true 2 (.t 8)⟩, ⟨(some 43), (some (41, true)), .mov (.t 0)⟩, ⟨(some 44), (some (41, true)), .mov (.t 9)⟩, ⟨(some 45), (some (41, true)), .iaddr 2 none (.t 43) (.t 44)⟩, ⟨(some 46), (some (41, true)), .load true 2 (.t 45)⟩, ⟨(some 47), (some (41, true)), .eqs (.flat [.int, .int]) false (.t 42) (.t 46)⟩, ⟨(some 48), (some (35, false)), .pick (.t 41) (.t 47) (.c (.bool false))⟩, ⟨(some 49), none, .pick (.t 35) (.c (.bool true)) (.t 48)⟩] [])
 (.cond (.t 49) (.seq (.ops [⟨(some 6), none, .mov (.c (.bool false))⟩])
 .ret) .skip))))))
 (.ops [⟨(some 50), none, .bin .add (.t 21) (.c (.int .i64 1))⟩, ⟨(some 21), none, .mov (.t 50)⟩]))))
/-- furlong/shape.ring -/
def v127 : VFun := ⟨3, [(.tmp 6)], (.seq (.ops [⟨(some 6), none, .mov (.c (.bool false))⟩])
 (.seq (.seq (.ops [⟨(some 10), none, .mov (.t 0)⟩, ⟨(some 11), none, .bi (.len 1) [(.t 10)]⟩, ⟨(some 12), none, .mov (.t 1)⟩, ⟨(some 13), none, .bin .lss (.t 11) (.t 12)⟩, ⟨(some 14), none, .mov (.t 13)⟩, ⟨(some 15), (some (14, false)), .mov (.t 0)⟩, ⟨(some 16), (some (14, false)), .bi (.len 1) [(.t 15)]⟩, ⟨(some 17), (some (14, false)), .bin .gtr (.t 16) (.c (.int .i64 16))⟩, ⟨(some 18), none, .pick (.t 14) (.c (.bool true)) (.t 17)⟩])
 (.cond (.t 18) (.seq (.ops [⟨(some 6), none, .mov (.c (.bool false))⟩])
 .ret) .skip))
 (.seq (.seq (.ops [⟨(some 19), none, .mov (.t 0)⟩, ⟨(some 20), none, .bi (.len 1) [(.t 19)]⟩, ⟨(some 21), none, .mov (.c (.int .i64 0))⟩])
 (.block 0 (.loop b127_0)))
 (.seq (.ops [⟨(some 6), none, .mov (.c (.bool true))⟩])
 .ret))))⟩
/-- slices.ContainsFunc[[][]furlong/api.Point,[]furlong/api.Point] -/
def v128 : VFun := ⟨2, [(.tmp 4)], (.seq (.ops [⟨(some 4), none, .mov (.c (.bool false))⟩])
 (.seq (.ops [⟨(some 5), none, .mov (.t 0)⟩, ⟨(some 6), none, .mov (.t 1)⟩, ⟨(some 7), none, .call 130 [(.t 5), (.t 6)]⟩, ⟨(some 8), none, .bin .geq (.t 7) (.c (.int .i64 0))⟩, ⟨(some 4), none, .mov (.t 8)⟩])
 .ret))⟩
/-- furlong/shape.May$1 -/
def v129 : VFun := ⟨1, [(.tmp 2)], (.seq (.ops [⟨(some 2), none, .mov (.c (.bool false))⟩])
 (.seq (.ops [⟨(some 3), none, .mov (.t 0)⟩, ⟨(some 4), none, .call 127 [(.t 3), (.c (.int .i64 3)), (.c (.bool true))]⟩, ⟨(some 5), none, .un .not (.t 4)⟩, ⟨(some 2), none, .mov (.t 5)⟩])
 .ret))⟩
def b130_0 : VCode := (.seq (.ops [⟨(some 9), none, .bin .lss (.t 8) (.t 7)⟩])
 (.seq (.cond (.t 9) .skip (.exit 0))
 (.seq (.block 1 (.seq (.ops [⟨(some 10), none, .mov (.t 8)⟩, ⟨(some 5), none, .mov (.t 10)⟩])
 (.seq (.ops [⟨(some 11), none, .mov (.t 1)⟩, ⟨(some 12), none, .mov (.t 0)⟩, ⟨(some 13), none, .mov (.t 5)⟩, ⟨(some 14), none, .iaddr 1 none (.t 12) (.t 13)⟩, ⟨(some 15), none, .load false 1 (.t 14)⟩, ⟨(some 16), none, .callv (.t 11) [(.t 15)]⟩])
 (.cond (.t 16) (.seq (.ops [⟨(some 17), none, .mov (.t 5)⟩, ⟨(some 4), none, .mov (.t 17)⟩])
 .ret) .skip))))
 (.ops [⟨(some 18), none, .bin .add (.t 8) (.c (.int .i64 1))⟩, ⟨(some 8), none, .mov (.t 18)⟩]))))
/-- slices.IndexFunc[[][]furlong/api.Point,[]furlong/api.Point] -/
def v130 : VFun := ⟨2, [(.tmp 4)], (.seq (.ops [⟨(some 4), none, .mov (.c (.int .i64 0))⟩])
 (.seq (.seq (.ops [⟨(some 6), none, .mov (.t 0)⟩, ⟨(some 7), none, .bi (.len 1) [(.t 6)]⟩, ⟨(some 8), none, .mov (.c (.int .i64 0))⟩])
 (.block 0 (.loop b130_0)))
 (.seq (.ops [⟨(some 4), none, .mov (.c (.int .i64 (-1)))⟩])
 .ret)))⟩
def tab : Nat → Option VFun := tableOf [(6, v6), (13, v13), (14, v14), (19, v19), (21, v21), (22, v22), (24, v24), (25, v25), (26, v26), (27, v27), (28, v28), (29, v29), (30, v30), (31, v31), (44, v44), (46, v46), (47, v47), (48, v48), (49, v49), (50, v50), (52, v52), (53, v53), (54, v54), (55, v55), (56, v56), (57, v57), (58, v58), (59, v59), (60, v60), (61, v61), (62, v62), (63, v63), (64, v64), (65, v65), (66, v66), (67, v67), (68, v68), (69, v69), (70, v70), (71, v71), (72, v72), (73, v73), (74, v74), (75, v75), (76, v76), (77, v77), (78, v78), (79, v79), (80, v80), (81, v81), (84, v84), (85, v85), (86, v86), (87, v87), (88, v88), (89, v89), (90, v90), (91, v91), (92, v92), (93, v93), (94, v94), (95, v95), (96, v96), (97, v97), (98, v98), (99, v99), (100, v100), (101, v101), (102, v102), (103, v103), (104, v104), (107, v107), (108, v108), (109, v109), (110, v110), (111, v111), (112, v112), (113, v113), (114, v114), (115, v115), (119, v119), (120, v120), (121, v121), (122, v122), (123, v123), (126, v126), (127, v127), (128, v128), (129, v129), (130, v130)]
end Go.Proofs.Ytinonmcnofjeeaa.VM
