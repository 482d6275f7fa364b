/- Live data told is live data by its places. -/
import Derived.Test.YtinonmcnofjeeaaL11Spoil
namespace Go.Proofs.Ytinonmcnofjeeaa.VM
set_option linter.unusedSimpArgs false
set_option linter.unusedVariables false
set_option linter.defProp false
set_option maxHeartbeats 1000000
attribute [local irreducible] Af Nx EvO Ev Un Gd Cd EvR EvQ EvC Nc Gc Lp EvM NxM AfM GdM EvMR EvMQ EvMD EvMC Nm Gm
theorem bares_mem : ∀ {l : List AV} {x : AV}, AV.bares l = true → x ∈ l → x.bare = true
  | y :: l, x, h, hx => by
    simp only [AV.bares, Bool.and_eq_true] at h
    rcases List.mem_cons.1 hx with rfl | hx
    · exact h.1
    · exact bares_mem h.2 hx
theorem bares_of : ∀ {l : List AV}, (∀ x ∈ l, AV.bare x = true) → AV.bares l = true
  | [], _ => rfl
  | y :: l, h => by simp only [AV.bares, h y List.mem_cons_self, bares_of fun x hx => h x (List.mem_cons_of_mem _ hx), Bool.and_self]
theorem bares_cut {l cs : List AV} {i n : Nat} (h : AV.bares l = true) (hc : cut l i n = some cs) : AV.bares cs = true := by
  rw [cut_eq] at hc
  split at hc
  · cases hc
    exact bares_of fun x hx => bares_mem h (List.mem_of_mem_drop (List.mem_of_mem_take hx))
  · cases hc
theorem cut_get {l cs : List AV} {i n : Nat} (hc : cut l i n = some cs) : cs.length = n ∧ ∀ j, j < n → l[i + j]? = cs[j]? := by
  rw [cut_eq] at hc
  split at hc
  · rename_i e
    cases hc
    exact ⟨e, fun j hj => by rw [List.getElem?_take, if_pos hj, List.getElem?_drop]⟩
  · cases hc
section
variable {h : Heap} {B : Nat → Prop}
theorem Lv.int_inv {x : AV} {k : IntKind} {m : Int} (l : Lv h B x (.int k m)) : x = .int k m := by
  obtain ⟨D, f, _⟩ := l
  cases f
  rfl
theorem Lv.nils_inv {x : AV} (l : Lv h B x .nils) : x = .nils := by
  obtain ⟨D, f, _⟩ := l
  cases f
  rfl
theorem Fds.get : ∀ {x y : List AV} {D : List Nat}, Fds h x y D → ∀ {j : Nat} {b : AV}, y[j]? = some b → ∃ a E, x[j]? = some a ∧ a ∈ x ∧ Fd h a b E ∧ ∀ c ∈ E, c ∈ D
  | _, _, _, .nil, j, b, e => by simp at e
  | _, _, _, .cons (x := x) (D := D) f t, 0, b, e => by
    simp only [List.getElem?_cons_zero, Option.some.injEq] at e
    subst e
    exact ⟨x, D, rfl, List.mem_cons_self, f, fun c hc => List.mem_append_left _ hc⟩
  | _, _, _, .cons f t, j + 1, b, e => by
    simp only [List.getElem?_cons_succ] at e
    obtain ⟨a, E, h1, h2, h3, h4⟩ := t.get e
    exact ⟨a, E, by simpa using h1, List.mem_cons_of_mem _ h2, h3, fun c hc => List.mem_append_right _ (h4 c hc)⟩
theorem Lvs.get {x y : List AV} (l : Lvs h B x y) {j : Nat} {b : AV} (e : y[j]? = some b) : ∃ a, x[j]? = some a ∧ Lv h B a b := by
  obtain ⟨D, f, hb, o, i⟩ := l
  obtain ⟨a, E, h1, h2, h3, h4⟩ := f.get e
  exact ⟨a, h1, E, h3, bares_mem hb h2, fun c hc => o c (h4 c hc), fun c hc => i c (h4 c hc)⟩
theorem Lv.row_inv {x : AV} {cs : List AV} {n z : Nat} (l : Lv h B x (cRow cs n)) (hn : 0 < n) (hl : cs.length = n * z) : ∃ b off cap, x = .sl b off n cap z ∧ B b ∧ b < h.next ∧ ∀ j y, cs[j]? = some y → ∃ a, At h b (off + j) a ∧ Lv h B a y := by
  rw [cRow_s _ hn] at l
  obtain ⟨D, f, hb, o, i⟩ := l
  cases f with
  | told hx => cases hb
  | sl0 => omega
  | @sl b off len cap sz l c0 _ e ver D hl0 hnx hg hc t =>
    have hz : sz = z := by
      have := t.length
      obtain ⟨h1, _⟩ := cut_get hc
      rw [hl, h1] at this
      exact (Nat.eq_of_mul_eq_mul_left hn this).symm
    subst hz
    obtain ⟨l', e', ver', hg', hb'⟩ := o b List.mem_cons_self
    rw [hg] at hg'
    cases hg'
    have ls : Lvs h B c0 cs := ⟨D, t, bares_cut hb' hc, fun c hc => o c (List.mem_cons_of_mem _ hc), fun c hc => i c (List.mem_cons_of_mem _ hc)⟩
    refine ⟨b, off, cap, rfl, i b List.mem_cons_self, hnx, fun j y hy => ?_⟩
    obtain ⟨a, ha, la⟩ := ls.get hy
    obtain ⟨h1, h2⟩ := cut_get hc
    obtain ⟨hj, _⟩ := List.getElem?_eq_some_iff.1 ha
    exact ⟨a, ⟨l, e, ver, hg, by rw [h2 j (by omega)]; exact ha⟩, la⟩
theorem flat_get {α : Type} {F : α → List AV} {z : Nat} (hF : ∀ x, (F x).length = z) : ∀ {l : List α} {i j : Nat} (hi : i < l.length), j < z → ((l.map F).flatten)[i * z + j]? = (F l[i])[j]?
  | x :: l, 0, j, _, hj => by
    rw [List.map_cons, List.flatten_cons, Nat.zero_mul, Nat.zero_add, List.getElem?_append_left (by rw [hF]; exact hj)]
    rfl
  | x :: l, i + 1, j, hi, hj => by
    rw [List.map_cons, List.flatten_cons, List.getElem?_append_right (by rw [hF, Nat.add_mul]; omega), hF, show (i + 1) * z + j - z = i * z + j by rw [Nat.add_mul]; omega, flat_get hF (by simpa using hi) hj]
    rfl
theorem flat_len8 {α : Type} {F : α → List AV} {z : Nat} (hF : ∀ x, (F x).length = z) : ∀ {l : List α}, ((l.map F).flatten).length = l.length * z
  | [] => by simp
  | x :: l => by rw [List.map_cons, List.flatten_cons, List.length_append, hF, flat_len8 hF, List.length_cons, Nat.add_mul]; omega
theorem LInts.of {v : AV} {l : List Int} (a : Lv h B v (cInts l)) (hs : intsSm l) : LInts h B v := by
  by_cases h0 : l.length = 0
  · have : l = [] := List.eq_nil_of_length_eq_zero h0
    subst this
    exact .inl a.nils_inv
  · obtain ⟨b, off, cap, rfl, hB, hb, hg⟩ := a.row_inv (z := 1) (by omega) (by rw [List.length_map, Nat.mul_one])
    refine .inr ⟨b, off, l.length, cap, rfl, hs.1, hB, hb, fun i hi => ?_⟩
    obtain ⟨x, ax, lx⟩ := hg i (.int .i64 l[i]) (by rw [List.getElem?_map, List.getElem?_eq_getElem hi]; rfl)
    rw [lx.int_inv] at ax
    exact ⟨_, ax⟩
theorem LPts.of {v : AV} {l : List Pt} (a : Lv h B v (cRing l)) (hs : ringSm l) : LPts h B v := by
  by_cases h0 : l.length = 0
  · have : l = [] := List.eq_nil_of_length_eq_zero h0
    subst this
    exact .inl a.nils_inv
  · obtain ⟨b, off, cap, rfl, hB, hb, hg⟩ := a.row_inv (z := 2) (by omega) (flat_len8 (F := cPt) fun _ => rfl)
    refine .inr ⟨b, off, l.length, cap, rfl, hs.1, hB, hb, fun i hi => ?_⟩
    obtain ⟨x, ax, lx⟩ := hg (i * 2 + 0) (.int .i64 l[i].x) (by rw [flat_get (F := cPt) (z := 2) (fun _ => rfl) hi (by decide)]; rfl)
    rw [lx.int_inv] at ax
    exact ⟨_, ax⟩
theorem LRings.of {v : AV} {l : List (List Pt)} (a : Lv h B v (cRings l)) (h1 : l.length ≤ 1000000) (hs : ∀ r ∈ l, ringSm r) : LRings h B v := by
  by_cases h0 : l.length = 0
  · have : l = [] := List.eq_nil_of_length_eq_zero h0
    subst this
    exact .inl a.nils_inv
  · obtain ⟨b, off, cap, rfl, hB, hb, hg⟩ := a.row_inv (z := 1) (by omega) (by rw [List.length_map, Nat.mul_one])
    refine .inr ⟨b, off, l.length, cap, rfl, h1, hB, hb, fun i hi => ?_⟩
    obtain ⟨x, ax, lx⟩ := hg i (cRing l[i]) (by rw [List.getElem?_map, List.getElem?_eq_getElem hi]; rfl)
    exact ⟨x, ax, LPts.of lx (hs _ (List.getElem_mem hi))⟩
theorem LOps.of {v : AV} {l : List Op} (a : Lv h B v (cOpsL l)) (hs : opsSm l) : LOps h B v := by
  by_cases h0 : l.length = 0
  · have : l = [] := List.eq_nil_of_length_eq_zero h0
    subst this
    exact .inl a.nils_inv
  · obtain ⟨b, off, cap, rfl, hB, hb, hg⟩ := a.row_inv (z := 8) (by omega) (flat_len8 (F := cOpL) fun _ => rfl)
    refine .inr ⟨b, off, l.length, cap, rfl, hs.1, hB, hb, fun i hi => ?_⟩
    obtain ⟨s1, s2, s3, s4⟩ := hs.2 _ (List.getElem_mem hi)
    have get : ∀ j (y : AV), j < 8 → (cOpL l[i])[j]? = some y → ∃ a, At h b (off + i * 8 + j) a ∧ Lv h B a y := fun j y hj hy => by
      rw [Nat.add_assoc]
      exact hg (i * 8 + j) y (by rw [flat_get (F := cOpL) (z := 8) (fun _ => rfl) hi hj]; exact hy)
    have num : ∀ j (m : Int), j < 8 → (cOpL l[i])[j]? = some (.int .i64 m) → AtI h b (off + i * 8 + j) := fun j m hj hy => by
      obtain ⟨x, ax, lx⟩ := get j _ hj hy
      rw [lx.int_inv] at ax
      exact ⟨_, ax⟩
    have any : ∀ {j}, AtI h b j → AtE h b j := fun ⟨m, hm⟩ => ⟨_, hm, rfl⟩
    obtain ⟨x3, a3, l3⟩ := get 3 _ (by decide) rfl
    obtain ⟨x6, a6, l6⟩ := get 6 _ (by decide) rfl
    obtain ⟨x7, a7, l7⟩ := get 7 _ (by decide) rfl
    exact ⟨num 1 _ (by decide) rfl, any (num 2 _ (by decide) rfl), ⟨x3, a3, LRings.of l3 s2.2.2.1 s2.2.2.2⟩, num 4 _ (by decide) rfl, any (num 5 _ (by decide) rfl), ⟨x6, a6, LInts.of l6 s4.2.1⟩, x7, a7, LInts.of l7 s4.2.2⟩
end
end Go.Proofs.Ytinonmcnofjeeaa.VM
