/- Rows of data as the small machine's values, and what it does with them. -/
import Derived.Test.YtinonmcnofjeeaaSE5
namespace Go.Proofs.Ytinonmcnofjeeaa.VM
set_option linter.unusedSimpArgs false
set_option linter.unusedVariables false
set_option linter.defProp false
set_option maxHeartbeats 1000000

def I64 (n : Int) : Prop := -9223372036854775808 ≤ n ∧ n ≤ 9223372036854775807
theorem i64_wf {n : Int} (h : (Lit.int .i64 n).wf = true) : I64 n := by
  simp only [Lit.wf, Bool.and_eq_true, decide_eq_true_eq] at h
  exact ⟨h.1, h.2⟩

section
variable {α : Type}
/-- cells of things, one behind the other -/
inductive Cat (R : α → List AV → Prop) : List α → List AV → Prop
  | nil : Cat R [] []
  | cons {a : α} {l : List α} {c k : List AV} (h : R a c) (t : Cat R l k) : Cat R (a :: l) (c ++ k)
/-- a slice of things, each of so many bytes -/
def IsL (b : Nat) (R : α → List AV → Prop) (v : AV) (l : List α) : Prop := l.length * b ≤ reachBytes ∧ ((v = .nils ∧ l = []) ∨ ∃ c, v = .rs c l.length ∧ Cat R l c)
variable {R : α → List AV → Prop} {z b : Nat}
theorem Cat.length (hz : ∀ a c, R a c → c.length = z) : ∀ {l : List α} {c : List AV}, Cat R l c → c.length = l.length * z
  | _, _, .nil => by simp
  | _, _, .cons h t => by rw [List.length_append, hz _ _ h, t.length hz, List.length_cons, Nat.add_mul, Nat.one_mul, Nat.add_comm]
theorem Cat.append : ∀ {l l' : List α} {c c' : List AV}, Cat R l c → Cat R l' c' → Cat R (l ++ l') (c ++ c')
  | _, _, _, _, .nil, h => h
  | _, _, _, _, .cons (c := c) (k := k) h t, h' => by rw [List.append_assoc]; exact .cons h (t.append h')
theorem Cat.at (hz : ∀ a c, R a c → c.length = z) : ∀ {l : List α} {c : List AV}, Cat R l c → ∀ (i : Nat) (hi : i < l.length), ∃ ci r, c.drop (i * z) = ci ++ r ∧ R l[i] ci
  | _, _, .nil, i, hi => by simp at hi
  | _, _, .cons (c := c) (k := k) h t, 0, _ => ⟨c, k, by simp, h⟩
  | _, _, .cons (c := c) (k := k) h t, i + 1, hi => by
    obtain ⟨ci, r, e, hr⟩ := t.at hz i (by simpa using hi)
    refine ⟨ci, r, ?_, hr⟩
    rw [Nat.add_mul, Nat.one_mul, Nat.add_comm, ← List.drop_drop, ← hz _ _ h, List.drop_left]
    rw [hz _ _ h]; exact e
theorem Cat.told (ht : ∀ a c, R a c → AV.tolds c = true) : ∀ {l : List α} {c : List AV}, Cat R l c → AV.tolds c = true
  | _, _, .nil => rfl
  | _, _, .cons h t => by rw [tolds_append, ht _ _ h, t.told ht]; rfl
where tolds_append : ∀ {l k : List AV}, AV.tolds (l ++ k) = (AV.tolds l && AV.tolds k)
  | [], _ => by simp [AV.tolds]
  | x :: l, k => by rw [List.cons_append, AV.tolds, AV.tolds, tolds_append, Bool.and_assoc]
theorem IsL.told (ht : ∀ a c, R a c → AV.tolds c = true) {v : AV} {l : List α} (h : IsL b R v l) : v.told = true := by
  rcases h.2 with ⟨rfl, _⟩ | ⟨c, rfl, hc⟩
  · rfl
  · exact hc.told ht
theorem IsL.len {v : AV} {l : List α} (h : IsL b R v l) (hh : Heap) : lnV hh v = .val (.int .i64 l.length) hh := by
  rcases h.2 with ⟨rfl, rfl⟩ | ⟨c, rfl, _⟩ <;> rfl
theorem IsL.bound {v : AV} {l : List α} (h : IsL b R v l) (hb : 0 < b) : (l.length : Int) ≤ 140737488351232 := by
  have := h.1
  have h2 : l.length ≤ l.length * b := Nat.le_mul_of_pos_right _ hb
  have : l.length ≤ reachBytes := Nat.le_trans h2 this
  have e : reachBytes = 140737488351232 := rfl
  rw [e] at this
  omega
theorem IsL.at {v : AV} {l : List α} (h : IsL b R v l) (hz : ∀ a c, R a c → c.length = z) (i : Nat) (hi : i < l.length) :
    ∃ ci r, R l[i] ci ∧ ∀ (hh : Heap) (kk : IntKind), iaV hh z none v (.int kk (i : Int)) = .val (.rp (ci ++ r)) hh := by
  rcases h.2 with ⟨rfl, rfl⟩ | ⟨c, rfl, hc⟩
  · simp at hi
  · obtain ⟨ci, r, e, hr⟩ := hc.at hz i hi
    refine ⟨ci, r, hr, fun hh kk => ?_⟩
    rw [iaV_rs, if_pos ⟨by omega, by omega⟩]
    rw [Int.toNat_natCast, e]
theorem tolds_drop : ∀ {l : List AV} (i : Nat), AV.tolds l = true → AV.tolds (l.drop i) = true
  | _, 0, h => h
  | [], _ + 1, _ => rfl
  | _ :: l, i + 1, h => by
    simp only [AV.tolds, Bool.and_eq_true] at h
    exact tolds_drop i h.2
theorem IsL.get {v : AV} {l : List α} (h : IsL b R v l) (hz : ∀ a c, R a c → c.length = z) (ht : ∀ a c, R a c → AV.tolds c = true) (i : Nat) (hi : i < l.length) :
    ∃ ci r, R l[i] ci ∧ AV.tolds (ci ++ r) = true ∧ ∀ (hh : Heap) (kk : IntKind), iaV hh z none v (.int kk (i : Int)) = .val (.rp (ci ++ r)) hh := by
  rcases h.2 with ⟨rfl, rfl⟩ | ⟨c, rfl, hc⟩
  · simp at hi
  · obtain ⟨ci, r, e, hr⟩ := hc.at hz i hi
    refine ⟨ci, r, hr, by rw [← e]; exact tolds_drop _ (hc.told ht), fun hh kk => ?_⟩
    rw [iaV_rs, if_pos ⟨by omega, by omega⟩]
    rw [Int.toNat_natCast, e]
theorem isL_nil (b : Nat) (R : α → List AV → Prop) : IsL b R .nils [] := ⟨by simp, .inl ⟨rfl, rfl⟩⟩
theorem isL_rs {b : Nat} {R : α → List AV → Prop} {l : List α} {c : List AV} (h : Cat R l c) (hb : l.length * b ≤ reachBytes) : IsL b R (.rs c l.length) l := ⟨hb, .inr ⟨c, rfl, h⟩⟩
/-- out of what a law is handed -/
theorem Wn.cat {ss : List Sh} (hR : ∀ c, Ws ss c → ∃ a, R a c) : ∀ {n : Nat} {c : List AV}, Wn ss n c → ∃ l : List α, l.length = n ∧ Cat R l c
  | _, _, .nil _ => ⟨[], rfl, .nil⟩
  | _, _, .cons h t => by
    obtain ⟨a, ha⟩ := hR _ h
    obtain ⟨l, e, hl⟩ := Wn.cat hR t
    exact ⟨a :: l, by simp [e], .cons ha hl⟩
theorem W.isL {ss : List Sh} (hR : ∀ c, Ws ss c → ∃ a, R a c) {v : AV} (h : W (.sl b ss) v) : ∃ l, IsL b R v l := by
  cases h with
  | nils => exact ⟨[], isL_nil _ _⟩
  | rs h hb =>
    obtain ⟨l, e, hl⟩ := h.cat hR
    exact ⟨l, by rw [e]; exact hb, .inr ⟨_, by rw [e], hl⟩⟩
end

/-! the parts of a load -/
theorem drop_app {c r : List AV} : (c ++ r).drop 0 = c ++ r := rfl

/-! ### the document's data -/
structure Pt where
  x : Int
  y : Int
structure Feat where
  id : Int
  shape : Int
  rings : List (List Pt)
structure Mp where
  epoch : Int
  starts : List Int
  owners : List Int
structure Op where
  kind : Int
  f : Feat
  id : Int
  m : Mp
instance : DecidableEq Pt := fun a b => if h : a.x = b.x ∧ a.y = b.y then isTrue (by cases a; cases b; simp_all) else isFalse (by rintro rfl; simp at h)
def RInt (n : Int) (c : List AV) : Prop := c = [.int .i64 n] ∧ I64 n
def RPt (p : Pt) (c : List AV) : Prop := c = [.int .i64 p.x, .int .i64 p.y] ∧ I64 p.x ∧ I64 p.y
def RRing (r : List Pt) (c : List AV) : Prop := ∃ v, c = [v] ∧ IsL 16 RPt v r
def RFeat (f : Feat) (c : List AV) : Prop := ∃ v, c = [.int .i64 f.id, .int .i64 f.shape, v] ∧ I64 f.id ∧ I64 f.shape ∧ IsL 24 RRing v f.rings
def RMp (m : Mp) (c : List AV) : Prop := ∃ v u, c = [.int .i64 m.epoch, v, u] ∧ I64 m.epoch ∧ IsL 8 RInt v m.starts ∧ IsL 8 RInt u m.owners
def ROp (o : Op) (c : List AV) : Prop := ∃ v a u, c = [.int .i64 o.kind, .int .i64 o.f.id, .int .i64 o.f.shape, v, .int .i64 o.id, .int .i64 o.m.epoch, a, u] ∧
  I64 o.kind ∧ I64 o.f.id ∧ I64 o.f.shape ∧ IsL 24 RRing v o.f.rings ∧ I64 o.id ∧ I64 o.m.epoch ∧ IsL 8 RInt a o.m.starts ∧ IsL 8 RInt u o.m.owners
theorem zInt (a : Int) (c : List AV) (h : RInt a c) : c.length = 1 := by rw [h.1]; rfl
theorem zPt (a : Pt) (c : List AV) (h : RPt a c) : c.length = 2 := by rw [h.1]; rfl
theorem zRing (a : List Pt) (c : List AV) (h : RRing a c) : c.length = 1 := by obtain ⟨v, rfl, _⟩ := h; rfl
theorem zOp (a : Op) (c : List AV) (h : ROp a c) : c.length = 8 := by obtain ⟨v, b, u, rfl, _⟩ := h; rfl
theorem tInt (a : Int) (c : List AV) (h : RInt a c) : AV.tolds c = true := by rw [h.1]; rfl
theorem tPt (a : Pt) (c : List AV) (h : RPt a c) : AV.tolds c = true := by rw [h.1]; rfl
theorem tRing (a : List Pt) (c : List AV) (h : RRing a c) : AV.tolds c = true := by
  obtain ⟨v, rfl, h⟩ := h
  simp [AV.tolds, h.told tPt]
theorem tFeat (a : Feat) (c : List AV) (h : RFeat a c) : AV.tolds c = true := by
  obtain ⟨v, rfl, _, _, h⟩ := h
  simp [AV.tolds, AV.told, h.told tRing]
theorem tMp (a : Mp) (c : List AV) (h : RMp a c) : AV.tolds c = true := by
  obtain ⟨v, u, rfl, _, h, h'⟩ := h
  simp [AV.tolds, AV.told, h.told tInt, h'.told tInt]
theorem tOp (a : Op) (c : List AV) (h : ROp a c) : AV.tolds c = true := by
  obtain ⟨v, x, u, rfl, _, _, _, h, _, _, h1, h2⟩ := h
  simp [AV.tolds, AV.told, h.told tRing, h1.told tInt, h2.told tInt]
theorem wInt (c : List AV) (h : Ws [.int .i64] c) : ∃ a, RInt a c := by
  cases h with | cons h t => cases t; cases h with | int k n hw => exact ⟨n, rfl, i64_wf hw⟩
theorem wPt (c : List AV) (h : Ws [.int .i64, .int .i64] c) : ∃ a, RPt a c := by
  cases h with | cons h t => cases t with | cons h' t => cases t; cases h with | int k n hw => cases h' with | int k m hw' => exact ⟨⟨n, m⟩, rfl, i64_wf hw, i64_wf hw'⟩
abbrev shRing : Sh := .sl 16 [.int .i64, .int .i64]
theorem wRing (c : List AV) (h : Ws [shRing] c) : ∃ a, RRing a c := by
  cases h with | cons h t => cases t; obtain ⟨l, hl⟩ := h.isL wPt; exact ⟨l, _, rfl, hl⟩
abbrev shFeat : List Sh := [.int .i64, .int .i64, .sl 24 [shRing]]
abbrev shMp : List Sh := [.int .i64, .sl 8 [.int .i64], .sl 8 [.int .i64]]
abbrev shOp : List Sh := [.int .i64, .int .i64, .int .i64, .sl 24 [shRing], .int .i64, .int .i64, .sl 8 [.int .i64], .sl 8 [.int .i64]]
theorem wFeat (c : List AV) (h : Ws shFeat c) : ∃ a, RFeat a c := by
  cases h with | cons h1 t => cases t with | cons h2 t => cases t with | cons h3 t =>
    cases t; cases h1 with | int k n hw => cases h2 with | int k m hw' =>
      obtain ⟨l, hl⟩ := h3.isL wRing
      exact ⟨⟨n, m, l⟩, _, rfl, i64_wf hw, i64_wf hw', hl⟩
theorem wMp (c : List AV) (h : Ws shMp c) : ∃ a, RMp a c := by
  cases h with | cons h1 t => cases t with | cons h2 t => cases t with | cons h3 t =>
    cases t; cases h1 with | int k n hw =>
      obtain ⟨l, hl⟩ := h2.isL wInt
      obtain ⟨m, hm⟩ := h3.isL wInt
      exact ⟨⟨n, l, m⟩, _, _, rfl, i64_wf hw, hl, hm⟩
theorem wOp (c : List AV) (h : Ws shOp c) : ∃ a, ROp a c := by
  cases h with | cons h1 t => cases t with | cons h2 t => cases t with | cons h3 t => cases t with | cons h4 t => cases t with | cons h5 t => cases t with | cons h6 t => cases t with | cons h7 t => cases t with | cons h8 t =>
    cases t; cases h1 with | int _ n1 w1 => cases h2 with | int _ n2 w2 => cases h3 with | int _ n3 w3 => cases h5 with | int _ n5 w5 => cases h6 with | int _ n6 w6 =>
      obtain ⟨l4, e4⟩ := h4.isL wRing
      obtain ⟨l7, e7⟩ := h7.isL wInt
      obtain ⟨l8, e8⟩ := h8.isL wInt
      exact ⟨⟨n1, ⟨n2, n3, l4⟩, n5, ⟨n6, l7, l8⟩⟩, _, _, _, rfl, i64_wf w1, i64_wf w2, i64_wf w3, e4, i64_wf w5, i64_wf w6, e7, e8⟩
end Go.Proofs.Ytinonmcnofjeeaa.VM
