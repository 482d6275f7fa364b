/- What a law is handed, told as values: numbers, truths, texts, slices and structs of them, to any depth. -/
import Derived.Test.YtinonmcnofjeeaaSE4
import Derived.ChangeArms
import Derived.ChangeMaps5
import Derived.SizedLaws
namespace Go.Proofs.Ytinonmcnofjeeaa.VM
set_option linter.unusedSimpArgs false
set_option linter.unusedVariables false
set_option linter.defProp false
set_option maxHeartbeats 1000000
open Go.RowKit

/-- The shape of a cell; of a slice: an element's bytes, its cells. -/
inductive Sh where
  | int (k : IntKind)
  | bool
  | str
  | sl (bytes : Nat) (l : List Sh)

section
variable (P : Program)
def shFs (rec : TypeId → Option (List Sh)) : List Field → Nat → Option (List Sh)
  | [], _ => some []
  | f :: fs, n => if f.offset = n then (match rec f.type with
    | some l => if P.cellsOf f.type = l.length then (shFs rec fs (n + l.length)).map (l ++ ·) else none
    | none => none) else none
def shOf : Nat → TypeId → Option (List Sh)
  | 0, _ => none
  | d + 1, t => match P.underlying t with
    | some (.int k) => some [.int k]
    | some .bool => some [.bool]
    | some .string => some [.str]
    | some (.slice e) => match shOf d e with
      | some l => if l.length = P.cellsOf e ∧ 0 < l.length then some [.sl (P.bytesOf e) l] else none
      | none => none
    | some (.struct fs) => match shFs P (shOf d) fs.toList 0 with
      | some l => if l.length = P.cellsOf t then some l else none
      | none => none
    | _ => none
end
mutual
/-- cells of a shape -/
inductive W : Sh → AV → Prop
  | int (k : IntKind) (n : Int) (h : (Lit.int k n).wf = true) : W (.int k) (.int k n)
  | bool (b : Bool) : W .bool (.bool b)
  | str (s : ByteArray) (h : s.size ≤ reachBytes) : W .str (.str (s.data.toList.map fun c => c.toNat))
  | nils (b : Nat) (l : List Sh) : W (.sl b l) .nils
  | rs {b len : Nat} {l : List Sh} {c : List AV} (h : Wn l len c) (hb : len * b ≤ reachBytes) : W (.sl b l) (.rs c len)
inductive Ws : List Sh → List AV → Prop
  | nil : Ws [] []
  | cons {s : Sh} {x : AV} {l : List Sh} {k : List AV} (h : W s x) (t : Ws l k) : Ws (s :: l) (x :: k)
inductive Wn : List Sh → Nat → List AV → Prop
  | nil (l : List Sh) : Wn l 0 []
  | cons {l : List Sh} {c k : List AV} {n : Nat} (h : Ws l c) (t : Wn l n k) : Wn l (n + 1) (c ++ k)
end
theorem Ws.append : ∀ {l l' : List Sh} {k k' : List AV}, Ws l k → Ws l' k' → Ws (l ++ l') (k ++ k')
  | _, _, _, _, .nil, h => h
  | _, _, _, _, .cons h t, h' => .cons h (t.append h')
theorem Ws.length : ∀ {l : List Sh} {k : List AV}, Ws l k → l.length = k.length
  | _, _, .nil => rfl
  | _, _, .cons _ t => by simp [t.length]
theorem VRm.append {φ : Env} {w : World} {B : Nat} : ∀ {l k : List AV} {off : Nat}, VRm φ w l B off → VRm φ w k B (off + l.length) → VRm φ w (l ++ k) B off
  | _, _, _, .nil, h => h
  | _, k, off, .cons (l := l) hc h t, h' => .cons hc h (t.append (by rw [List.length_cons] at h'; rwa [show off + (l.length + 1) = off + 1 + l.length by omega] at h'))
theorem VRs.mem {φ : Env} {w : World} {B : Nat} : ∀ {l : List AV} {vs : List Value} {off : Nat}, VRs φ w l vs → (∀ j u, vs[j]? = some u → w.cell? ⟨B, off + j, none⟩ = some u) → VRm φ w l B off
  | _, _, _, .nil, _ => .nil
  | _, _, off, .cons (u := u) h t, hc => .cons (by simpa using hc 0 u rfl) h (t.mem fun j v hj => by rw [show off + 1 + j = off + (j + 1) by omega]; exact hc (j + 1) v hj)

theorem mapM_get {α β : Type} {f : α → Option β} : ∀ {l : List α} {r : List β}, l.mapM f = some r → r.length = l.length ∧ ∀ (j : Nat) (x : α) (y : β), l[j]? = some x → r[j]? = some y → f x = some y
  | [], r, h => by
    simp at h; subst h
    exact ⟨rfl, fun j x y h => by simp at h⟩
  | a :: l, r, h => by
    simp only [List.mapM_cons, Option.bind_eq_bind, Option.bind_eq_some_iff, Option.pure_def, Option.some.injEq] at h
    obtain ⟨b, h1, r', h2, rfl⟩ := h
    obtain ⟨e1, e2⟩ := mapM_get h2
    refine ⟨by simp [e1], fun j x y hx hy => ?_⟩
    cases j with
    | zero => simp at hx hy; subst hx hy; exact h1
    | succ j => exact e2 j x y (by simpa using hx) (by simpa using hy)
section
variable {H : Type} {enc : TypeId × Value → H} {P : Program} {w : World} {base : Nat} {spare : Nat → Bool} {held : Bool}
def OpenAt (enc : TypeId × Value → H) (P : Program) (w : World) (base : Nat) (spare : Nat → Bool) (held : Bool) (fuel : Nat) : Prop :=
  ∀ (n : Nat) (t : TypeId) (cs : List Value) (x : DataW H × List MemPlace) (shs : List Sh), shOf P n t = some shs → DataW.trod enc P w base spare held fuel t cs = some x → (x.1.weights P t).all (· ≤ reachBytes) = true → ∃ avs, VRs none0 w avs cs ∧ Ws shs avs

theorem open_fs {fuel d : Nat} (ih : OpenAt enc P w base spare held fuel) {cs : List Value} : ∀ (fs : List Field) (n : Nat) (xs : List (DataW H × List MemPlace)) (shs : List Sh), shFs P (shOf P d) fs n = some shs → xs.length = fs.length →
    (∀ (i : Nat) (f : Field), fs[i]? = some f → DataW.trod enc P w base spare held fuel f.type ((cs.drop f.offset).take (P.cellsOf f.type)) = xs[i]?) → (DataW.weightsEach P (fs.map (·.type)) (xs.map (·.1))).all (· ≤ reachBytes) = true →
    ∃ avs, VRs none0 w avs ((cs.drop n).take shs.length) ∧ Ws shs avs
  | [], n, xs, shs, h, _, _, _ => by cases h; exact ⟨[], by simpa using VRs.nil, .nil⟩
  | f :: fs, n, [], shs, h, hl, _, _ => by simp at hl
  | f :: fs, n, x :: xs, shs, h, hl, ht, hw => by
    unfold shFs at h
    split at h
    · rename_i ho
      split at h
      · rename_i l hr
        split at h
        · rename_i hc
          obtain ⟨k, hk, rfl⟩ := Option.map_eq_some_iff.1 h
          simp only [List.map_cons, DataW.weightsEach, List.all_append, Bool.and_eq_true] at hw
          obtain ⟨a1, v1, w1⟩ := ih d f.type _ x l hr (ht 0 f rfl) hw.1
          obtain ⟨a2, v2, w2⟩ := open_fs ih fs (n + l.length) xs k hk (by simpa using hl) (fun i g hg => by simpa using ht (i + 1) g (by simpa using hg)) hw.2
          refine ⟨a1 ++ a2, ?_, w1.append w2⟩
          rw [List.length_append, List.take_add, List.drop_drop]
          rw [ho, hc] at v1
          exact v1.append v2
        · cases h
      · cases h
    · cases h
theorem open_all : ∀ fuel : Nat, OpenAt enc P w base spare held fuel
  | 0 => by intro n t cs x shs _ h _; simp [DataW.trod] at h
  | fuel + 1 => by
    intro n t cs x shs hs h hw
    have ih := open_all fuel
    cases n with
    | zero => cases hs
    | succ d =>
      unfold shOf at hs
      split at hs
      · rename_i k hu
        cases hs
        obtain ⟨n, rfl, rfl, hwf⟩ := DataW.trod_int hu h
        exact ⟨[.int k n], .cons (.int k n) .nil, .cons (.int k n hwf) .nil⟩
      · rename_i hu
        cases hs
        unfold DataW.trod at h
        rw [hu] at h
        split at h <;> simp_all
        rename_i b
        exact ⟨[.bool b], .cons (.bool b) .nil, .cons (.bool b) .nil⟩
      · rename_i hu
        cases hs
        obtain ⟨s, rfl, rfl, hs⟩ := DataW.trod_string hu h
        simp only [DataW.weights, List.all_cons, List.all_nil, Bool.and_true, decide_eq_true_eq] at hw
        exact ⟨[.str (s.data.toList.map fun c => c.toNat)], .cons (.str s) .nil, .cons (.str s (by simpa using hw)) .nil⟩
      · rename_i e hu
        split at hs
        · rename_i l hl
          split at hs
          · rename_i hc
            cases hs
            rcases DataW.trod_slice hu h with ⟨rfl, rfl⟩ | ⟨a, len, cap, elems, rest, m, hm, rfl, rfl, hb, hlc, _, hlen, hel, _, _⟩
            · exact ⟨[.nils], .cons .nils .nil, .cons (.nils _ _) .nil⟩
            · cases hm
              simp only [DataW.weights, hu, List.all_cons, List.all_append, Bool.and_eq_true, decide_eq_true_eq, List.length_map] at hw
              obtain ⟨hw1, hw2, _⟩ := hw
              have hbytes : len * P.bytesOf e ≤ reachBytes := Nat.le_trans (Nat.mul_le_mul_right _ (by omega)) hw1
              cases len with
              | zero => exact ⟨[.rs [] 0], .cons (.rs0 a cap) .nil, .cons (.rs (.nil _) hbytes) .nil⟩
              | succ len' =>
                generalize hL : len' + 1 = len at *
                have hwe : ∀ (i : Nat) (y : DataW H × List MemPlace), elems[i]? = some y → (y.1.weights P e).all (· ≤ reachBytes) = true := by
                  clear hel hlen h hw1 hbytes
                  induction elems with
                  | nil => intro i y hy; simp at hy
                  | cons z zs ihz =>
                    simp only [List.map_cons, DataW.weightsAll, List.all_append, Bool.and_eq_true] at hw2
                    intro i y hy
                    cases i with
                    | zero => simp at hy; subst hy; exact hw2.1
                    | succ i => exact ihz hw2.2 i y (by simpa using hy)
                have each : ∀ i, i < len → ∃ ecs avs, w.cells? base (a.add (i * P.cellsOf e)) (P.cellsOf e) = some ecs ∧ VRs none0 w avs ecs ∧ Ws l avs := by
                  intro i hi
                  have h1 := hel i hi
                  have h2 : elems[i]? = some elems[i] := List.getElem?_eq_getElem (by omega)
                  rw [h2] at h1
                  obtain ⟨ecs, h3, h4⟩ := Option.bind_eq_some_iff.1 h1
                  obtain ⟨avs, h5, h6⟩ := ih d e ecs _ l hl h4 (hwe i _ h2)
                  exact ⟨ecs, avs, h3, h5, h6⟩
                have cellsAt : ∀ {c : Addr} {k : Nat} {ecs : List Value}, w.cells? base c k = some ecs → ecs.length = k ∧ ∀ j u, ecs[j]? = some u → w.cell? (c.add j) = some u := by
                  intro c k ecs hk
                  unfold World.cells? at hk
                  split at hk
                  · obtain ⟨e1, e2⟩ := mapM_get hk
                    rw [List.length_range] at e1
                    refine ⟨e1, fun j u hj => e2 j j u ?_ hj⟩
                    have hjl : j < ecs.length := by
                      rcases Nat.lt_or_ge j ecs.length with h | h
                      · exact h
                      · rw [List.getElem?_eq_none h] at hj; cases hj
                    rw [List.getElem?_range (by omega)]
                  · cases hk
                obtain ⟨B, off, spot⟩ := a
                have hspot : spot = none ∧ B < w.heap.size := by
                  obtain ⟨ecs, avs, h1, h2, h3⟩ := each 0 (by omega)
                  obtain ⟨q1, q2⟩ := cellsAt h1
                  have h0 : 0 < ecs.length := by omega
                  have := q2 0 ecs[0] (List.getElem?_eq_getElem h0)
                  have ha : ((⟨B, off, spot⟩ : Addr).add (0 * P.cellsOf e)).add 0 = ⟨B, off, spot⟩ := by simp [Addr.add]
                  rw [ha] at this
                  unfold World.cell? at this
                  split at this
                  · rename_i c _ _ hh
                    split at this
                    · cases this
                    · rename_i hn
                      refine ⟨by simpa using hn, ?_⟩
                      rcases Nat.lt_or_ge B w.heap.size with h | h
                      · exact h
                      · rw [Array.getElem?_eq_none h] at hh; cases hh
                  · cases this
                obtain ⟨rfl, hB⟩ := hspot
                have all : ∀ k i, i + k = len → ∃ c, Wn l k c ∧ VRm none0 w c B (off + i * P.cellsOf e) := by
                  intro k
                  induction k with
                  | zero => intro i _; exact ⟨[], .nil _, .nil⟩
                  | succ k ihk =>
                    intro i hi
                    obtain ⟨c, c1, c2⟩ := ihk (i + 1) (by omega)
                    obtain ⟨ecs, avs, h1, h2, h3⟩ := each i (by omega)
                    obtain ⟨q1, q2⟩ := cellsAt h1
                    have hal : avs.length = P.cellsOf e := by rw [← h3.length]; exact hc.1
                    refine ⟨avs ++ c, .cons h3 c1, VRm.append (h2.mem fun j u hj => ?_) ?_⟩
                    · have := q2 j u hj
                      rw [add_none, add_none] at this
                      exact this
                    · rw [hal]
                      rw [Nat.add_mul, Nat.one_mul, ← Nat.add_assoc] at c2
                      exact c2
                obtain ⟨c, c1, c2⟩ := all len 0 (by omega)
                rw [Nat.zero_mul, Nat.add_zero] at c2
                exact ⟨[.rs c len], .cons (.rs hlc (fun b p hb => by cases hb) hB c2) .nil, .cons (.rs c1 hbytes) .nil⟩
          · cases hs
        · cases hs
      · rename_i fs hu
        split at hs
        · rename_i l hl
          split at hs
          · rename_i hc
            cases hs
            obtain ⟨xs, m, hm, rfl, hcl, hxl, hx⟩ := DataW.trod_struct hu h
            cases hm
            simp only [DataW.weights, hu] at hw
            obtain ⟨avs, v1, v2⟩ := open_fs ih fs.toList 0 xs _ hl (by simpa using hxl) (fun i f hf => hx i f (by simpa using hf)) hw
            refine ⟨avs, ?_, v2⟩
            rw [List.drop_zero, List.take_of_length_le (by omega)] at v1
            exact v1
          · cases hs
        · cases hs
      · cases hs

/-- an argument, opened -/
theorem open_arg {t : TypeId} {v : Value} {d : DataW H} {ps : List MemPlace} {n : Nat} {shs : List Sh} (hs : shOf P n t = some shs) (h : DataW.Trod enc P w base spare held t v d ps) (hw : (d.weights P t).all (· ≤ reachBytes) = true) :
    ∃ avs, VRs none0 w avs v.cells.toList ∧ Ws shs avs :=
  let ⟨fuel, hf⟩ := h
  open_all fuel n t _ _ shs hs hf hw
end

def I64 (n : Int) : Prop := -9223372036854775808 ≤ n ∧ n ≤ 9223372036854775807
theorem i64_wf {n : Int} (h : (Lit.int .i64 n).wf = true) : I64 n := by
  simp only [Lit.wf, Bool.and_eq_true, decide_eq_true_eq] at h
  exact ⟨h.1, h.2⟩

section
variable {α : Type}
/-- cells of things, one behind the other -/
inductive Cat (R : α → List AV → Prop) : List α → List AV → Prop
  | nil : Cat R [] []
  | cons {a : α} {l : List α} {c k : List AV} (h : R a c) (t : Cat R l k) : Cat R (a :: l) (c ++ k)
/-- a slice of things, each of so many bytes -/
def IsL (b : Nat) (R : α → List AV → Prop) (v : AV) (l : List α) : Prop := l.length * b ≤ reachBytes ∧ ((v = .nils ∧ l = []) ∨ ∃ c, v = .rs c l.length ∧ Cat R l c)
variable {R : α → List AV → Prop} {z b : Nat}
theorem Cat.length (hz : ∀ a c, R a c → c.length = z) : ∀ {l : List α} {c : List AV}, Cat R l c → c.length = l.length * z
  | _, _, .nil => by simp
  | _, _, .cons h t => by rw [List.length_append, hz _ _ h, t.length hz, List.length_cons, Nat.add_mul, Nat.one_mul, Nat.add_comm]
theorem Cat.append : ∀ {l l' : List α} {c c' : List AV}, Cat R l c → Cat R l' c' → Cat R (l ++ l') (c ++ c')
  | _, _, _, _, .nil, h => h
  | _, _, _, _, .cons (c := c) (k := k) h t, h' => by rw [List.append_assoc]; exact .cons h (t.append h')
theorem Cat.at (hz : ∀ a c, R a c → c.length = z) : ∀ {l : List α} {c : List AV}, Cat R l c → ∀ (i : Nat) (hi : i < l.length), ∃ ci r, c.drop (i * z) = ci ++ r ∧ R l[i] ci
  | _, _, .nil, i, hi => by simp at hi
  | _, _, .cons (c := c) (k := k) h t, 0, _ => ⟨c, k, by simp, h⟩
  | _, _, .cons (c := c) (k := k) h t, i + 1, hi => by
    obtain ⟨ci, r, e, hr⟩ := t.at hz i (by simpa using hi)
    refine ⟨ci, r, ?_, hr⟩
    rw [Nat.add_mul, Nat.one_mul, Nat.add_comm, ← List.drop_drop, ← hz _ _ h, List.drop_left]
    rw [hz _ _ h]; exact e
theorem Cat.told (ht : ∀ a c, R a c → AV.tolds c = true) : ∀ {l : List α} {c : List AV}, Cat R l c → AV.tolds c = true
  | _, _, .nil => rfl
  | _, _, .cons h t => by rw [tolds_append, ht _ _ h, t.told ht]; rfl
where tolds_append : ∀ {l k : List AV}, AV.tolds (l ++ k) = (AV.tolds l && AV.tolds k)
  | [], _ => by simp [AV.tolds]
  | x :: l, k => by rw [List.cons_append, AV.tolds, AV.tolds, tolds_append, Bool.and_assoc]
theorem IsL.told (ht : ∀ a c, R a c → AV.tolds c = true) {v : AV} {l : List α} (h : IsL b R v l) : v.told = true := by
  rcases h.2 with ⟨rfl, _⟩ | ⟨c, rfl, hc⟩
  · rfl
  · exact hc.told ht
theorem IsL.len {v : AV} {l : List α} (h : IsL b R v l) (hh : Heap) : lnV hh v = .val (.int .i64 l.length) hh := by
  rcases h.2 with ⟨rfl, rfl⟩ | ⟨c, rfl, _⟩ <;> rfl
theorem IsL.bound {v : AV} {l : List α} (h : IsL b R v l) (hb : 0 < b) : (l.length : Int) ≤ 140737488351232 := by
  have := h.1
  have h2 : l.length ≤ l.length * b := Nat.le_mul_of_pos_right _ hb
  have : l.length ≤ reachBytes := Nat.le_trans h2 this
  have e : reachBytes = 140737488351232 := rfl
  rw [e] at this
  omega
theorem IsL.at {v : AV} {l : List α} (h : IsL b R v l) (hz : ∀ a c, R a c → c.length = z) (i : Nat) (hi : i < l.length) :
    ∃ ci r, R l[i] ci ∧ ∀ (hh : Heap) (kk : IntKind), iaV hh z none v (.int kk (i : Int)) = .val (.rp (ci ++ r)) hh := by
  rcases h.2 with ⟨rfl, rfl⟩ | ⟨c, rfl, hc⟩
  · simp at hi
  · obtain ⟨ci, r, e, hr⟩ := hc.at hz i hi
    refine ⟨ci, r, hr, fun hh kk => ?_⟩
    rw [iaV_rs, if_pos ⟨by omega, by omega⟩]
    rw [Int.toNat_natCast, e]
theorem tolds_drop : ∀ {l : List AV} (i : Nat), AV.tolds l = true → AV.tolds (l.drop i) = true
  | _, 0, h => h
  | [], _ + 1, _ => rfl
  | _ :: l, i + 1, h => by
    simp only [AV.tolds, Bool.and_eq_true] at h
    exact tolds_drop i h.2
theorem IsL.get {v : AV} {l : List α} (h : IsL b R v l) (hz : ∀ a c, R a c → c.length = z) (ht : ∀ a c, R a c → AV.tolds c = true) (i : Nat) (hi : i < l.length) :
    ∃ ci r, R l[i] ci ∧ AV.tolds (ci ++ r) = true ∧ ∀ (hh : Heap) (kk : IntKind), iaV hh z none v (.int kk (i : Int)) = .val (.rp (ci ++ r)) hh := by
  rcases h.2 with ⟨rfl, rfl⟩ | ⟨c, rfl, hc⟩
  · simp at hi
  · obtain ⟨ci, r, e, hr⟩ := hc.at hz i hi
    refine ⟨ci, r, hr, by rw [← e]; exact tolds_drop _ (hc.told ht), fun hh kk => ?_⟩
    rw [iaV_rs, if_pos ⟨by omega, by omega⟩]
    rw [Int.toNat_natCast, e]
theorem isL_nil (b : Nat) (R : α → List AV → Prop) : IsL b R .nils [] := ⟨by simp, .inl ⟨rfl, rfl⟩⟩
theorem isL_rs {b : Nat} {R : α → List AV → Prop} {l : List α} {c : List AV} (h : Cat R l c) (hb : l.length * b ≤ reachBytes) : IsL b R (.rs c l.length) l := ⟨hb, .inr ⟨c, rfl, h⟩⟩
/-- out of what a law is handed -/
theorem Wn.cat {ss : List Sh} (hR : ∀ c, Ws ss c → ∃ a, R a c) : ∀ {n : Nat} {c : List AV}, Wn ss n c → ∃ l : List α, l.length = n ∧ Cat R l c
  | _, _, .nil _ => ⟨[], rfl, .nil⟩
  | _, _, .cons h t => by
    obtain ⟨a, ha⟩ := hR _ h
    obtain ⟨l, e, hl⟩ := Wn.cat hR t
    exact ⟨a :: l, by simp [e], .cons ha hl⟩
theorem W.isL {ss : List Sh} (hR : ∀ c, Ws ss c → ∃ a, R a c) {v : AV} (h : W (.sl b ss) v) : ∃ l, IsL b R v l := by
  cases h with
  | nils => exact ⟨[], isL_nil _ _⟩
  | rs h hb =>
    obtain ⟨l, e, hl⟩ := h.cat hR
    exact ⟨l, by rw [e]; exact hb, .inr ⟨_, by rw [e], hl⟩⟩
end

/-! the parts of a load -/
theorem drop_app {c r : List AV} : (c ++ r).drop 0 = c ++ r := rfl

/-! ### the document's data -/
structure Pt where
  x : Int
  y : Int
structure Feat where
  id : Int
  shape : Int
  rings : List (List Pt)
structure Mp where
  epoch : Int
  starts : List Int
  owners : List Int
structure Op where
  kind : Int
  f : Feat
  id : Int
  m : Mp
instance : DecidableEq Pt := fun a b => if h : a.x = b.x ∧ a.y = b.y then isTrue (by cases a; cases b; simp_all) else isFalse (by rintro rfl; simp at h)
def RInt (n : Int) (c : List AV) : Prop := c = [.int .i64 n] ∧ I64 n
def RPt (p : Pt) (c : List AV) : Prop := c = [.int .i64 p.x, .int .i64 p.y] ∧ I64 p.x ∧ I64 p.y
def RRing (r : List Pt) (c : List AV) : Prop := ∃ v, c = [v] ∧ IsL 16 RPt v r
def RFeat (f : Feat) (c : List AV) : Prop := ∃ v, c = [.int .i64 f.id, .int .i64 f.shape, v] ∧ I64 f.id ∧ I64 f.shape ∧ IsL 24 RRing v f.rings
def RMp (m : Mp) (c : List AV) : Prop := ∃ v u, c = [.int .i64 m.epoch, v, u] ∧ I64 m.epoch ∧ IsL 8 RInt v m.starts ∧ IsL 8 RInt u m.owners
def ROp (o : Op) (c : List AV) : Prop := ∃ v a u, c = [.int .i64 o.kind, .int .i64 o.f.id, .int .i64 o.f.shape, v, .int .i64 o.id, .int .i64 o.m.epoch, a, u] ∧
  I64 o.kind ∧ I64 o.f.id ∧ I64 o.f.shape ∧ IsL 24 RRing v o.f.rings ∧ I64 o.id ∧ I64 o.m.epoch ∧ IsL 8 RInt a o.m.starts ∧ IsL 8 RInt u o.m.owners
theorem zInt (a : Int) (c : List AV) (h : RInt a c) : c.length = 1 := by rw [h.1]; rfl
theorem zPt (a : Pt) (c : List AV) (h : RPt a c) : c.length = 2 := by rw [h.1]; rfl
theorem zRing (a : List Pt) (c : List AV) (h : RRing a c) : c.length = 1 := by obtain ⟨v, rfl, _⟩ := h; rfl
theorem zOp (a : Op) (c : List AV) (h : ROp a c) : c.length = 8 := by obtain ⟨v, b, u, rfl, _⟩ := h; rfl
theorem tInt (a : Int) (c : List AV) (h : RInt a c) : AV.tolds c = true := by rw [h.1]; rfl
theorem tPt (a : Pt) (c : List AV) (h : RPt a c) : AV.tolds c = true := by rw [h.1]; rfl
theorem tRing (a : List Pt) (c : List AV) (h : RRing a c) : AV.tolds c = true := by
  obtain ⟨v, rfl, h⟩ := h
  simp [AV.tolds, h.told tPt]
theorem tFeat (a : Feat) (c : List AV) (h : RFeat a c) : AV.tolds c = true := by
  obtain ⟨v, rfl, _, _, h⟩ := h
  simp [AV.tolds, AV.told, h.told tRing]
theorem tMp (a : Mp) (c : List AV) (h : RMp a c) : AV.tolds c = true := by
  obtain ⟨v, u, rfl, _, h, h'⟩ := h
  simp [AV.tolds, AV.told, h.told tInt, h'.told tInt]
theorem tOp (a : Op) (c : List AV) (h : ROp a c) : AV.tolds c = true := by
  obtain ⟨v, x, u, rfl, _, _, _, h, _, _, h1, h2⟩ := h
  simp [AV.tolds, AV.told, h.told tRing, h1.told tInt, h2.told tInt]
theorem wInt (c : List AV) (h : Ws [.int .i64] c) : ∃ a, RInt a c := by
  cases h with | cons h t => cases t; cases h with | int k n hw => exact ⟨n, rfl, i64_wf hw⟩
theorem wPt (c : List AV) (h : Ws [.int .i64, .int .i64] c) : ∃ a, RPt a c := by
  cases h with | cons h t => cases t with | cons h' t => cases t; cases h with | int k n hw => cases h' with | int k m hw' => exact ⟨⟨n, m⟩, rfl, i64_wf hw, i64_wf hw'⟩
abbrev shRing : Sh := .sl 16 [.int .i64, .int .i64]
theorem wRing (c : List AV) (h : Ws [shRing] c) : ∃ a, RRing a c := by
  cases h with | cons h t => cases t; obtain ⟨l, hl⟩ := h.isL wPt; exact ⟨l, _, rfl, hl⟩
abbrev shFeat : List Sh := [.int .i64, .int .i64, .sl 24 [shRing]]
abbrev shMp : List Sh := [.int .i64, .sl 8 [.int .i64], .sl 8 [.int .i64]]
abbrev shOp : List Sh := [.int .i64, .int .i64, .int .i64, .sl 24 [shRing], .int .i64, .int .i64, .sl 8 [.int .i64], .sl 8 [.int .i64]]
theorem wFeat (c : List AV) (h : Ws shFeat c) : ∃ a, RFeat a c := by
  cases h with | cons h1 t => cases t with | cons h2 t => cases t with | cons h3 t =>
    cases t; cases h1 with | int k n hw => cases h2 with | int k m hw' =>
      obtain ⟨l, hl⟩ := h3.isL wRing
      exact ⟨⟨n, m, l⟩, _, rfl, i64_wf hw, i64_wf hw', hl⟩
theorem wMp (c : List AV) (h : Ws shMp c) : ∃ a, RMp a c := by
  cases h with | cons h1 t => cases t with | cons h2 t => cases t with | cons h3 t =>
    cases t; cases h1 with | int k n hw =>
      obtain ⟨l, hl⟩ := h2.isL wInt
      obtain ⟨m, hm⟩ := h3.isL wInt
      exact ⟨⟨n, l, m⟩, _, _, rfl, i64_wf hw, hl, hm⟩
theorem wOp (c : List AV) (h : Ws shOp c) : ∃ a, ROp a c := by
  cases h with | cons h1 t => cases t with | cons h2 t => cases t with | cons h3 t => cases t with | cons h4 t => cases t with | cons h5 t => cases t with | cons h6 t => cases t with | cons h7 t => cases t with | cons h8 t =>
    cases t; cases h1 with | int _ n1 w1 => cases h2 with | int _ n2 w2 => cases h3 with | int _ n3 w3 => cases h5 with | int _ n5 w5 => cases h6 with | int _ n6 w6 =>
      obtain ⟨l4, e4⟩ := h4.isL wRing
      obtain ⟨l7, e7⟩ := h7.isL wInt
      obtain ⟨l8, e8⟩ := h8.isL wInt
      exact ⟨⟨n1, ⟨n2, n3, l4⟩, n5, ⟨n6, l7, l8⟩⟩, _, _, _, rfl, i64_wf w1, i64_wf w2, i64_wf w3, e4, i64_wf w5, i64_wf w6, e7, e8⟩
theorem atPt {v : AV} {l : List Pt} (h : IsL 16 RPt v l) (i : Nat) (hi : i < l.length) : ∃ r, AV.tolds r = true ∧ ∀ (hh : Heap) (kk : IntKind), iaV hh 2 none v (.int kk (i : Int)) = .val (.rp (.int .i64 (l.getD i ⟨0, 0⟩).x :: .int .i64 (l.getD i ⟨0, 0⟩).y :: r)) hh := by
  obtain ⟨ci, r, ⟨e, _⟩, ht, hia⟩ := h.get zPt tPt i hi
  have : l.getD i ⟨0, 0⟩ = l[i] := by simp [List.getD_eq_getElem?_getD, List.getElem?_eq_getElem hi]
  refine ⟨r, ?_, fun hh kk => ?_⟩
  · rw [e] at ht; exact ht
  · rw [hia, e, this]; rfl
theorem atPt64 {v : AV} {l : List Pt} (h : IsL 16 RPt v l) (i : Nat) (hi : i < l.length) : I64 (l.getD i ⟨0, 0⟩).x ∧ I64 (l.getD i ⟨0, 0⟩).y := by
  obtain ⟨ci, r, ⟨_, e⟩, _⟩ := h.get zPt tPt i hi
  have : l.getD i ⟨0, 0⟩ = l[i] := by simp [List.getD_eq_getElem?_getD, List.getElem?_eq_getElem hi]
  rw [this]; exact e
theorem getP {l : List Pt} {i : Nat} (hi : i < l.length) : l.getD i ⟨0, 0⟩ = l[i] := by simp [List.getD_eq_getElem?_getD, List.getElem?_eq_getElem hi]
theorem getN {l : List Int} {i : Nat} (hi : i < l.length) : l.getD i 0 = l[i] := by simp [List.getD_eq_getElem?_getD, List.getElem?_eq_getElem hi]
end Go.Proofs.Ytinonmcnofjeeaa.VM
